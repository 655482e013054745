/-
  The walks of slices.Index, Contains, crew.Votes, bastideref08.Votes.
-/
import Derived.Test.YtldcpnabgpjgiaaCrewE
namespace Go.Proofs.Ytldcpnabgpjgiaa.Walks
open Go.RowKit Plain
set_option linter.unusedVariables false

def IdxPost (l : List Int) (x : Int) (w : World) (e : Ending) (w' : World) : Prop := (∃ i : Int, e = .returned (.int .i64 i) ∧ Hid (i = -1 ∧ x ∉ l ∨ ∃ k : Nat, ∃ h : k < l.length, i = k ∧ l[k] = x ∧ x ∉ l.take k)) ∧ w = w'

theorem index_any (a : Option Addr) (cap : Nat) (l : List Int) (n : Int) (w : World) (hI : Ints w a l) :
    Calls Try.prog 127 #[.slice a l.length cap, .int .i64 n] w (IdxPost l n w) := by
  have hm := hI.1
  have HI := Lib.hid hI
  clear hI
  go_enter Try.func127, Try.ntmps127
  go_wp2
  go_loop [8] (fun i => ∃ k : Nat, k ≤ l.length ∧ i = .int .i64 k ∧ Hid (n ∉ l.take k)) (fun i => l.length - (intOf i).toNat)
  case atStart => exact ⟨0, by omega, rfl, Lib.hid (by simp)⟩
  case round =>
    obtain ⟨k, hk, rfl, HNO⟩ := hrel
    by_cases hlt : k < l.length
    · obtain ⟨b, off, rfl, hbb, hc⟩ := HI.out.at_lt hlt
      have hcell := hc k hlt
      clear hc
      obtain ⟨x, hx⟩ : ∃ x, x = l[k] := ⟨_, rfl⟩
      rw [← hx] at hcell
      have HX := Lib.hid hx
      clear hx
      by_cases hq : n = x
      · have hq' : (n == x) = true := by simp [hq]
        have HQ := Lib.hid hq
        clear hq
        go_wp2
        go_ret
        exact ⟨⟨k, rfl, Lib.hid (.inr ⟨k, hlt, rfl, by rw [← HX.out, HQ.out], HNO.out⟩)⟩, rfl⟩
      · have hq' : (n == x) = false := by simp [hq]
        have HQ := Lib.hid hq
        clear hq
        go_wp2
        go_round
        case rel => exact ⟨k + 1, by omega, by go_num, Lib.hid (by rw [List.take_succ_eq_append_getElem hlt, List.mem_append, ← HX.out]; simp; exact ⟨HNO.out, HQ.out⟩)⟩
        case measure => simp [intOf]; omega
    · go_wp2
      go_ret
      have := HNO.out
      rw [List.take_of_length_le (by omega)] at this
      exact ⟨⟨-1, rfl, Lib.hid (.inl ⟨rfl, this⟩)⟩, rfl⟩

theorem contains_any (a : Option Addr) (cap : Nat) (l : List Int) (n : Int) (w : World) (hI : Ints w a l) :
    Calls Try.prog 112 #[.slice a l.length cap, .int .i64 n] w fun e w' => e = .returned (.bool (decide (n ∈ l))) ∧ w = w' := by
  have HI := Lib.hid hI
  clear hI
  go_enter Try.func112, Try.ntmps112
  go_wp2_with fail
  refine Calls.mono (index_any a cap l n _ HI.out) ?_
  rintro e w' ⟨⟨i, rfl, HP⟩, rfl⟩
  go_wp2
  go_ret
  refine ⟨ret_bool ?_, rfl⟩
  rcases HP.out with ⟨rfl, h⟩ | ⟨k, hk, rfl, h, _⟩
  · simp [h]
  · have : n ∈ l := by rw [← h]; exact List.getElem_mem _
    simp [this]

set_option maxHeartbeats 400000 in
theorem votes_any (f : Int) (a : Option Addr) (cap : Nat) (l : List Int) (a' : Option Addr) (cap' : Nat) (m : List Int) (w : World) (hI : Ints w a l) (hI' : Ints w a' m) :
    Calls Try.prog 86 #[.agg #[.int .i64 f, .slice a l.length cap], .slice a' m.length cap'] w fun e w' => e = .returned (.int .i64 (votesC f l m)) ∧ Below w.heap.size w w' := by
  have hm := hI.1
  have HI := Lib.hid hI
  have HI' := Lib.hid hI'
  clear hI hI'
  cases hg : goodC f l with
  | true =>
    have HG := Lib.hid hg
    have he := errC_good hg
    clear hg
    go_enter Try.func86, Try.ntmps86
    go_wp2_with fail
    refine Calls.mono (check_any f a cap l _ (HI.out.alloc _)) ?_
    rintro e w1 ⟨rfl, hb⟩
    obtain ⟨c0, c1, hb1⟩ := boxed_crew hb
    rw [he]
    have HB1 := Lib.hid hb1
    have J := Lib.hid (HI.out.below hb1)
    have J' := Lib.hid (HI'.out.below hb1)
    clear he hb hb1
    go_wp2_with fail
    go_loop [5, 14] (fun mv i => ∃ k : Nat, k ≤ l.length ∧ i = .int .i64 k ∧ mv = .int .i64 ((cnt (l.take k) m : Nat) : Int)) (fun _ i => l.length - (intOf i).toNat)
    case atStart => exact ⟨0, by omega, rfl, by simp [cnt]⟩
    case round =>
      obtain ⟨k, hk, rfl, rfl⟩ := hrel
      by_cases hlt : k < l.length
      · obtain ⟨b, off, rfl, hbb, hc⟩ := J.out.at_lt hlt
        have hcell := hc k hlt
        clear hc
        obtain ⟨x, hx⟩ : ∃ x, x = l[k] := ⟨_, rfl⟩
        rw [← hx] at hcell
        have HC : Hid (cnt (l.take (k + 1)) m = cnt (l.take k) m + (if x ∈ m then 1 else 0)) := Lib.hid (by rw [hx]; exact cnt_take_succ hlt)
        obtain ⟨c, hcc⟩ : ∃ c, c = cnt (l.take k) m := ⟨_, rfl⟩
        have hcb : c ≤ k := by rw [hcc]; exact Nat.le_trans (cnt_le _ _) (List.length_take_le _ _)
        rw [← hcc]
        have HCC := Lib.hid hcc
        clear hx hcc
        go_wp2_with fail
        refine Calls.mono (contains_any a' cap' m x _ J'.out) ?_
        rintro e w' ⟨rfl, rfl⟩
        by_cases hxm : x ∈ m
        · have hd : decide (x ∈ m) = true := by simp [hxm]
          rw [hd]
          have HXM := Lib.hid hxm
          clear hxm hd
          go_wp2
          go_round
          case rel => exact ⟨k + 1, by omega, by go_num, val_int (by have := HC.out; rw [if_pos HXM.out, ← HCC.out] at this; omega)⟩
          case measure => simp [intOf]; omega
        · have hd : decide (x ∈ m) = false := by simp [hxm]
          rw [hd]
          have HXM := Lib.hid hxm
          clear hxm hd
          go_wp2
          go_round
          case rel => exact ⟨k + 1, by omega, by go_num, val_int (by have := HC.out; rw [if_neg HXM.out, ← HCC.out] at this; omega)⟩
          case measure => simp [intOf]; omega
      · go_wp2
        go_ret
        exact ⟨ret_int (by rw [List.take_of_length_le (by omega)]; simp [votesC, HG.out]), HB1.out⟩
  | false =>
    have HG := Lib.hid hg
    have he := errC_bad hg
    clear hg
    go_enter Try.func86, Try.ntmps86
    go_wp2_with fail
    refine Calls.mono (check_any f a cap l _ (HI.out.alloc _)) ?_
    rintro e w1 ⟨rfl, hb⟩
    obtain ⟨c0, c1, hb1⟩ := boxed_crew hb
    rw [he]
    clear he hb
    go_wp2
    go_ret
    exact ⟨ret_int (by simp [votesC, HG.out]), hb1⟩

set_option maxHeartbeats 1000000 in
theorem refVotes_any (f : Int) (a : Option Addr) (cap : Nat) (l : List Int) (a' : Option Addr) (cap' : Nat) (m : List Int) (w : World) (hI : Ints w a l) (hI' : Ints w a' m) :
    Calls Try.prog 87 #[.agg #[.int .i64 f, .slice a l.length cap], .slice a' m.length cap'] w fun e w' => e = .returned (.int .i64 (votesC f l m)) ∧ Below w.heap.size w w' := by
  have hm := hI.1
  have HI := Lib.hid hI
  have HI' := Lib.hid hI'
  clear hI hI'
  go_enter Try.func87, Try.ntmps87
  go_wp2_with fail
  obtain ⟨c0, c1, hb1⟩ := boxed_crew (Below.refl _ (w.alloc (.cells #[.int .i64 f, .slice a l.length cap] 24)))
  generalize (w.alloc (.cells #[.int .i64 f, .slice a l.length cap] 24)) = wa at *
  have HB1 := Lib.hid hb1
  clear hb1
  go_loopw [5, 6] (fun mv i wr => ∃ k : Nat, k ≤ l.length ∧ i = .int .i64 k ∧ mv = .int .i64 ((cnt (l.take k) m : Nat) : Int) ∧ Below wa.heap.size wa wr ∧ Hid (k = 0 ∨ goodC f l = true)) (fun _ i _ => l.length - (intOf i).toNat)
  case atStart => exact ⟨0, by omega, rfl, by simp [cnt], Below.refl _ _, Lib.hid (.inl rfl)⟩
  case round =>
    obtain ⟨k, hk, rfl, rfl, hbr, HK⟩ := hrel
    have d0 : wr.cell? ⟨w.heap.size, 0, none⟩ = some (.int .i64 f) := (hbr.cell (by exact block_lt_of_cell c0)).trans c0
    have d1 : wr.cell? ⟨w.heap.size, 1, none⟩ = some (.slice a l.length cap) := (hbr.cell (by exact block_lt_of_cell c1)).trans c1
    by_cases hlt : k < l.length
    · have hbr' := Below.step HB1.out hbr
      go_wp2_with fail
      refine Calls.mono (refCheck_any f a cap l _ (HI.out.below hbr')) ?_
      rintro e w1 ⟨rfl, hb⟩
      have hbr2 := Below.step hbr hb
      have e0 : w1.cell? ⟨w.heap.size, 0, none⟩ = some (.int .i64 f) := (hbr2.cell (by exact block_lt_of_cell c0)).trans c0
      have e1 : w1.cell? ⟨w.heap.size, 1, none⟩ = some (.slice a l.length cap) := (hbr2.cell (by exact block_lt_of_cell c1)).trans c1
      have J := Lib.hid ((HI.out.below hbr').below hb)
      have J' := Lib.hid ((HI'.out.below hbr').below hb)
      clear hb hbr' d0 d1
      cases hg : goodC f l with
      | true =>
        have HG := Lib.hid hg
        rw [errC_good hg]
        clear hg
        obtain ⟨b, off, rfl, hbb, hc⟩ := J.out.at_lt hlt
        have hcell := hc k hlt
        clear hc
        obtain ⟨x, hx⟩ : ∃ x, x = l[k] := ⟨_, rfl⟩
        rw [← hx] at hcell
        have HC : Hid (cnt (l.take (k + 1)) m = cnt (l.take k) m + (if x ∈ m then 1 else 0)) := Lib.hid (by rw [hx]; exact cnt_take_succ hlt)
        obtain ⟨c, hcc⟩ : ∃ c, c = cnt (l.take k) m := ⟨_, rfl⟩
        have hcb : c ≤ k := by rw [hcc]; exact Nat.le_trans (cnt_le _ _) (List.length_take_le _ _)
        rw [← hcc]
        have HCC := Lib.hid hcc
        clear hx hcc
        go_wp2_with fail
        refine Calls.mono (in_any a' cap' m x _ J'.out) ?_
        rintro e w' ⟨rfl, rfl⟩
        by_cases hxm : x ∈ m
        · have hd : decide (x ∈ m) = true := by simp [hxm]
          rw [hd]
          have HXM := Lib.hid hxm
          clear hxm hd
          go_wp2
          go_roundw
          case rel => exact ⟨k + 1, by omega, by go_num, val_int (by have := HC.out; rw [if_pos HXM.out, ← HCC.out] at this; omega), hbr2, Lib.hid (.inr HG.out)⟩
          case measure => simp [intOf]; omega
        · have hd : decide (x ∈ m) = false := by simp [hxm]
          rw [hd]
          have HXM := Lib.hid hxm
          clear hxm hd
          go_wp2
          go_roundw
          case rel => exact ⟨k + 1, by omega, by go_num, val_int (by have := HC.out; rw [if_neg HXM.out, ← HCC.out] at this; omega), hbr2, Lib.hid (.inr HG.out)⟩
          case measure => simp [intOf]; omega
      | false =>
        have HG := Lib.hid hg
        rw [errC_bad hg]
        clear hg
        go_wp2
        go_ret
        refine ⟨ret_int ?_, Below.step HB1.out hbr2⟩
        rcases HK.out with rfl | h
        · simp [votesC, HG.out, cnt]
        · rw [HG.out] at h; cases h
    · go_wp2
      go_ret
      refine ⟨ret_int ?_, Below.step HB1.out hbr⟩
      rw [List.take_of_length_le (by omega)]
      rcases HK.out with rfl | h
      · have : l = [] := List.eq_nil_of_length_eq_zero (by omega)
        subst this
        simp [votesC, cnt]
      · simp [votesC, h]
end Go.Proofs.Ytldcpnabgpjgiaa.Walks
