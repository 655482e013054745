/-
  The walks of bastideref08.Check, in, cmp.Less, slices.isNaN, slices.BinarySearch.
-/
import Derived.Test.YtldcpnabgpjgiaaCrewA
namespace Go.Proofs.Ytldcpnabgpjgiaa.Walks
open Go.RowKit Plain
set_option linter.unusedVariables false

theorem refNode_any (n : Int) (w : World) : Calls Try.prog 107 #[.int .i64 n] w fun e w' => e = .returned (.bool (decide (1 ≤ n) && decide (n ≤ 28))) ∧ w = w' := by
  by_cases h1 : 1 ≤ n
  · go_enter Try.func107, Try.ntmps107
    go_wp2
    go_ret
    exact ⟨ret_bool (by simp [h1]), rfl⟩
  · go_enter Try.func107, Try.ntmps107
    go_wp2
    go_ret
    exact ⟨ret_bool (by simp; omega), rfl⟩

theorem refNode_is (n : Int) (q : Bool) (w : World) (h : (decide (1 ≤ n) && decide (n ≤ 28)) = q) : Calls Try.prog 107 #[.int .i64 n] w fun e w' => e = .returned (.bool q) ∧ w = w' := by
  subst h; exact refNode_any n w
theorem in_any (a : Option Addr) (cap : Nat) (l : List Int) (n : Int) (w : World) (hI : Ints w a l) :
    Calls Try.prog 111 #[.slice a l.length cap, .int .i64 n] w fun e w' => e = .returned (.bool (decide (n ∈ l))) ∧ w = w' := by
  have hm := hI.1
  have HI := Lib.hid hI
  clear hI
  go_enter Try.func111, Try.ntmps111
  go_wp2
  go_loop [5] (fun i => ∃ k : Nat, k ≤ l.length ∧ i = .int .i64 k ∧ n ∉ l.take k) (fun i => l.length - (intOf i).toNat)
  case atStart => exact ⟨0, by omega, rfl, by simp⟩
  case round =>
    obtain ⟨k, hk, rfl, hno⟩ := hrel
    have HNO := Lib.hid hno
    clear hno
    by_cases hlt : k < l.length
    · obtain ⟨b, off, rfl, hbb, hc⟩ := HI.out.at_lt hlt
      have hcell := hc k hlt
      clear hc
      obtain ⟨x, hx⟩ : ∃ x, x = l[k] := ⟨_, rfl⟩
      rw [← hx] at hcell
      have HX := Lib.hid hx
      clear hx
      by_cases hq : x = n
      · have hq' : (x == n) = true := by simp [hq]
        have HQ := Lib.hid hq
        clear hq
        go_wp2
        go_ret
        exact ⟨ret_bool (by rw [eq_comm, decide_eq_true_eq, ← HQ.out, HX.out]; exact List.getElem_mem _), rfl⟩
      · have hq' : (x == n) = false := by simp [hq]
        have HQ := Lib.hid hq
        clear hq
        go_wp2
        go_round
        case rel => exact ⟨k + 1, by omega, by go_num, by rw [List.take_succ_eq_append_getElem hlt, List.mem_append, ← HX.out]; simp; exact ⟨HNO.out, fun h => HQ.out h.symm⟩⟩
        case measure => simp [intOf]; omega
    · go_wp2
      go_ret
      refine ⟨ret_bool ?_, rfl⟩
      have := HNO.out
      rw [List.take_of_length_le (by omega)] at this
      simp [this]

theorem isNaN_any (n : Int) (w : World) : Calls Try.prog 126 #[.int .i64 n] w fun e w' => e = .returned (.bool false) ∧ w = w' := by
  go_enter Try.func126, Try.ntmps126
  go_wp2
  go_ret
  exact ⟨ret_bool (by simp), rfl⟩
theorem isNaN2_any (n : Int) (w : World) : Calls Try.prog 142 #[.int .i64 n] w fun e w' => e = .returned (.bool false) ∧ w = w' := by
  go_enter Try.func142, Try.ntmps142
  go_wp2
  go_ret
  exact ⟨ret_bool (by simp), rfl⟩
theorem less_any (x y : Int) (w : World) : Calls Try.prog 125 #[.int .i64 x, .int .i64 y] w fun e w' => e = .returned (.bool (decide (x < y))) ∧ w = w' := by
  go_enter Try.func125, Try.ntmps125
  go_wp2_with fail
  refine Calls.mono (isNaN2_any x _) ?_
  rintro e w' ⟨rfl, rfl⟩
  go_wp2
  go_ret
  exact ⟨rfl, rfl⟩

set_option maxHeartbeats 1000000 in
theorem refCheck_any (f : Int) (a : Option Addr) (cap : Nat) (l : List Int) (w : World) (hI : Ints w a l) :
    Calls Try.prog 70 #[.agg #[.int .i64 f, .slice a l.length cap]] w fun e w' => e = .returned (.int .i64 (errC f l)) ∧ Below w.heap.size w w' := by
  have hm := hI.1
  by_cases h1 : f < 0
  · clear hI
    go_enter Try.func70, Try.ntmps70
    go_wp2
    go_ret
    exact ⟨ret_int (by simp [errC, goodC, show ¬ 0 ≤ f by omega]), Below.new _ _⟩
  by_cases h2 : 2 < f
  · clear hI
    go_enter Try.func70, Try.ntmps70
    go_wp2
    go_ret
    exact ⟨ret_int (by simp [errC, goodC, show ¬ f ≤ 2 by omega]), Below.new _ _⟩
  by_cases h3 : (l.length : Int) = 3 * f + 1
  · have h3' : ((l.length : Int) != 3 * f + 1) = false := by simp [h3]
    have H3 := Lib.hid h3
    have HI := Lib.hid hI
    clear hI h3
    go_enter Try.func70, Try.ntmps70
    go_wp2
    have hb := Below.new w (.cells #[.int .i64 f, .slice a l.length cap] 24)
    have HA := Lib.hid (HI.out.alloc (.cells #[.int .i64 f, .slice a l.length cap] 24))
    have hs : (w.alloc (.cells #[.int .i64 f, .slice a l.length cap] 24)).cell? ⟨w.heap.size, 1, none⟩ = some (.slice a l.length cap) := cell_of_row _ _ _ _ _ _ (heap_alloc_new _ _)
    generalize (w.alloc (.cells #[.int .i64 f, .slice a l.length cap] 24)) = wa at *
    clear h3'
    go_loopw [3] (fun i wr => ∃ (k : Nat) (lst : Int), k ≤ l.length ∧ i = .int .i64 k ∧ Hid (k = 0 → lst = 0) ∧ Hid (∀ j (h : j < l.length), j + 1 = k → lst = l[j]) ∧ Hid (okFrom 0 l = okFrom lst (l.drop k)) ∧ Below wa.heap.size wa wr) (fun i _ => l.length - (intOf i).toNat)
    case atStart => exact ⟨0, 0, by omega, rfl, Lib.hid fun _ => rfl, Lib.hid (fun j h e => by omega), Lib.hid rfl, Below.refl _ _⟩
    case round =>
      obtain ⟨k, lst, hk, rfl, HL0, HL1, HOK, hbr⟩ := hrel
      have hsr : wr.cell? ⟨w.heap.size, 1, none⟩ = some (.slice a l.length cap) := by
        rw [hbr.cell (p := ⟨w.heap.size, 1, none⟩) (block_lt_of_cell hs)]; exact hs
      by_cases hlt : k < l.length
      · obtain ⟨b, off, rfl, hbb, hc⟩ := (HA.out.below hbr).at_lt hlt
        have hcell := hc k hlt
        obtain ⟨n, hn⟩ : ∃ n, n = l[k] := ⟨_, rfl⟩
        rw [← hn] at hcell
        have HN : Hid (okFrom lst (l.drop k) = (decide (lst < n) && (decide (1 ≤ n) && decide (n ≤ 28)) && okFrom n (l.drop (k + 1)))) := Lib.hid (by
          rw [List.drop_eq_getElem_cons hlt, hn]; rfl)
        have HNN : Hid (n = l[k]) := Lib.hid hn
        clear hn
        cases hq : (decide (1 ≤ n) && decide (n ≤ 28)) with
        | true =>
          have HQ := Lib.hid hq
          clear hq
          rcases Nat.eq_zero_or_pos k with rfl | hpos
          · clear hc
            obtain rfl : lst = 0 := HL0.out rfl
            clear HL0 HL1
            have hcell0 : wr.cell? ⟨b, off, none⟩ = some (.int .i64 n) := by simpa using hcell
            go_wp2_with fail
            go_quiet ((go_at_call 107; exact quiet_of_eq (refNode_is _ _ _ HQ.out)))
            go_wp2
            go_roundw
            case rel => exact ⟨1, n, by omega, rfl, Lib.hid (by omega), Lib.hid (fun j hj e => by rw [HNN.out]; congr 1; omega), Lib.hid (by rw [HOK.out, HN.out, HQ.out]; have := HQ.out; simp at this; simp [show (0 : Int) < n by omega]), below_drewN hbr _⟩
            case measure => simp [intOf]; omega
          · obtain ⟨j, rfl⟩ : ∃ j, k = j + 1 := ⟨k - 1, by omega⟩
            have hcell' := hc j (by omega)
            have HJ : Hid (lst = l[j]) := Lib.hid (HL1.out j (by omega) rfl)
            clear hc
            obtain ⟨m, hm'⟩ : ∃ m, m = l[j] := ⟨_, rfl⟩
            rw [← hm'] at hcell'
            have HM : Hid (lst = m) := Lib.hid (HJ.out.trans hm'.symm)
            clear hm'
            by_cases c1 : n ≤ m
            · go_wp2_with fail
              go_quiet ((go_at_call 107; exact quiet_of_eq (refNode_is _ _ _ HQ.out)))
              go_wp2
              go_ret
              have e : okFrom 0 l = false := by rw [HOK.out, HN.out, HM.out]; simp [show ¬ m < n by omega]
              exact ⟨ret_int (by simp [errC, goodC, e]), Below.trans hb (below_drewN (hbr.mono hb.size) _)⟩
            · go_wp2_with fail
              go_quiet ((go_at_call 107; exact quiet_of_eq (refNode_is _ _ _ HQ.out)))
              go_wp2
              go_roundw
              case rel => exact ⟨j + 1 + 1, n, by omega, by go_num, Lib.hid (by omega), Lib.hid (fun i hi e => by rw [HNN.out]; congr 1; omega), Lib.hid (by rw [HOK.out, HN.out, HQ.out, HM.out]; simp [show m < n by omega]), below_drewN hbr _⟩
              case measure => simp [intOf]; omega
        | false =>
          have HQ := Lib.hid hq
          clear hq hc
          go_wp2_with fail
          go_quiet ((go_at_call 107; exact quiet_of_eq (refNode_is _ _ _ HQ.out)))
          go_wp2
          go_ret
          exact ⟨ret_int (by simp only [errC, goodC, HOK.out, HN.out, HQ.out]; simp), Below.trans hb (below_drewN (hbr.mono hb.size) _)⟩
      · go_wp2
        go_ret
        refine ⟨ret_int ?_, Below.trans hb (hbr.mono hb.size)⟩
        have : okFrom 0 l = true := by rw [HOK.out, List.drop_eq_nil_of_le (by omega)]; rfl
        simp [errC, goodC, this, H3.out]
        omega
  · have h3' : ((l.length : Int) != 3 * f + 1) = true := by simp [h3]
    clear hI
    go_enter Try.func70, Try.ntmps70
    go_wp2
    go_ret
    exact ⟨ret_int (by simp [errC, goodC, h3]), Below.new _ _⟩
end Go.Proofs.Ytldcpnabgpjgiaa.Walks
