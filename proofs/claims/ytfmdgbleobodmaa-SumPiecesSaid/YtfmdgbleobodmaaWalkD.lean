/-
  The walks of CopyBytes, EqBytes, Bring and works.
-/
import Derived.Test.YtfmdgbleobodmaaWalkC
import Derived.Laws.AppendOwnNone
import Derived.Deep.MidRow
import Derived.Lib.SlBytesConst
namespace Go.Proofs.Ytfmdgbleobodmaa.Walks
open Go.RowKit Math Bits

def byteV (c : BitVec 8) : Value := .int .u8 (c.toNat : Int)

theorem info5 : (Try.prog.info? 5).map (fun i => (i.zero, i.size, i.bytes)) = some (some (.int .u8 0), 1, 1) := by kernel_rfl

theorem ownsRow_bts {w : World} {base : Nat} {v : Value} {l : List (BitVec 8)} (hm : l.length ≤ 9223372036854775807) (h : w.ownsRow base 5 1 v l.length (l.map byteV)) :
    ∃ a cap, v = .slice a l.length cap ∧ Bts w a l := by
  obtain ⟨_, ⟨rfl, h0⟩ | ⟨g, cap, cur, rfl, _, hg, hcap, _, _, ht⟩⟩ := h
  · have : l = [] := List.eq_nil_of_length_eq_zero h0
    subst this
    exact ⟨none, 0, rfl, by simp, .inl rfl⟩
  · refine ⟨some ⟨g, 0, none⟩, cap, rfl, hm, .inr ⟨g, 0, rfl, fun i hi => ?_⟩⟩
    rw [cell_of_row _ _ _ _ _ _ hg]
    have := congrArg (fun z => z[i]?) ht
    simp only [List.getElem?_take, Nat.mul_one, hi, if_true, List.getElem?_map, List.getElem?_eq_getElem hi, Option.map_some] at this
    rw [Nat.zero_add, ← Array.getElem?_toList]
    exact this

set_option maxHeartbeats 400000 in
theorem copy_any (a : Option Addr) (cap : Nat) (l : List (BitVec 8)) (w : World) (hB : Bts w a l) (hn : a = none → cap = 0) (hr : l.length ≤ 140737488355328) :
    Calls Try.prog 17 #[.slice a l.length cap] w fun e w' => ∃ v, e = .returned v ∧ w'.ownsRow w.heap.size 5 1 v l.length (l.map byteV) ∧ Below w.heap.size w w' := by
  obtain ⟨i0, hi, hz0, hz1, hz2⟩ := info_parts info5
  rcases Option.eq_none_or_eq_some a with rfl | ⟨ad, rfl⟩
  · have hc0 := hn rfl
    subst hc0
    have hl : l = [] := by
      rcases hB.2 with h | ⟨b, off, h, _⟩
      · exact h
      · cases h
    subst hl
    clear hB hn
    go_enter Try.func17, Try.ntmps17
    go_wp2_with (first | (at_builtin; refine wpList_append_own_none rfl (.tmp 4) (.tmp 5) 26 rfl w.heap.size 5 i0 1 Try.underlying26 hi _ 0 [] rfl (World.ownsRow_nil _ _ _ _) rfl ?_))
    go_ret
    exact ⟨_, rfl, World.ownsRow_nil _ _ _ _, Below.refl _ _⟩
  · have hnews : ∀ j u, (l.map byteV)[j]? = some u → w.cell? (ad.add j) = some u := by
      intro j u hj
      have hj' : j < l.length := by
        have := (List.getElem?_eq_some_iff.1 hj).1
        simpa using this
      obtain ⟨b, off, h, _, hc⟩ := hB.at_lt hj'
      cases h
      rw [List.getElem?_map, List.getElem?_eq_getElem hj'] at hj
      simp at hj
      subst hj
      rw [Addr.add_mid]
      exact hc j hj'
    have H := Lib.hid hnews
    clear hnews hB hn
    go_enter Try.func17, Try.ntmps17
    go_wp2_with (first | (at_builtin; refine wpList_append_own _ rfl (.tmp 4) (.tmp 5) 26 rfl w.heap.size 5 i0 (.int .u8 0) 1 1 Try.underlying26 hi hz0 hz1 hz2 rfl (by decide) _ 0 [] rfl (World.ownsRow_nil _ _ _ _) ad l.length cap (l.map byteV) rfl (by simp) H.out (by intro u hu; simp [byteV] at hu; obtain ⟨c, _, rfl⟩ := hu; rfl) (by unfold maxLen; omega) (by omega) (Nat.le_refl _) ?_))
    intro v' w1 hown hg _
    have HO := Lib.hid hown
    clear hown
    go_wp2
    go_ret
    exact ⟨_, rfl, HO.out, (Below.refl _ _).grown hg (Nat.le_refl _) (by intro k hk; cases hk)⟩

set_option maxHeartbeats 400000 in
theorem eq_same (a a' : Option Addr) (cap cap' : Nat) (l : List (BitVec 8)) (w : World) (hB : Bts w a l) (hB' : Bts w a' l) :
    Calls Try.prog 20 #[.slice a l.length cap, .slice a' l.length cap'] w fun e w' => e = .returned (.bool true) ∧ Below w.heap.size w w' := by
  have hm := hB.1
  have H := Lib.hid hB
  have H' := Lib.hid hB'
  clear hB hB'
  go_enter Try.func20, Try.ntmps20
  go_wp2_with fail
  go_loopw [5] (fun i wr => ∃ k : Nat, k ≤ l.length ∧ i = .int .i64 k ∧ Below w.heap.size w wr) (fun i _ => l.length - (intOf i).toNat)
  case atStart => exact ⟨0, by omega, rfl, Below.refl _ _⟩
  case round =>
    obtain ⟨k, hk, rfl, hb⟩ := hrel
    by_cases hlt : k < l.length
    · obtain ⟨b, off, rfl, hb0, hc⟩ := H.out.at_lt hlt
      obtain ⟨b', off', rfl, hb0', hc'⟩ := H'.out.at_lt hlt
      have hcell : wr.cell? ⟨b, off + k, none⟩ = some (.int .u8 (l[k].toNat : Int)) := (hb.cell (by exact hb0)).trans (hc k hlt)
      have hcell' : wr.cell? ⟨b', off' + k, none⟩ = some (.int .u8 (l[k].toNat : Int)) := (hb.cell (by exact hb0')).trans (hc' k hlt)
      clear hc hc'
      go_wp2_with fail
      go_quiet (fail)
      go_wp2
      go_roundw
      case rel => exact ⟨k + 1, by omega, by go_num, below_drewN hb _⟩
      case measure => simp [intOf]; omega
    · go_wp2
      go_ret
      exact ⟨rfl, hb⟩

theorem bts_block {w : World} {g : Nat} {cs : Array Value} {fr : Nat × Nat} {l : List (BitVec 8)} (h : w.heap[g]? = some (.cells cs 5 fr)) (hc : cs = (l.map byteV).toArray) (hm : l.length ≤ 9223372036854775807) :
    Bts w (some ⟨g, 0, none⟩) l := by
  refine ⟨hm, .inr ⟨g, 0, rfl, fun i hi => ?_⟩⟩
  rw [cell_of_row _ _ _ _ _ _ h, hc]
  simp [hi, byteV]

def nine : List (BitVec 8) := [49, 50, 51, 52, 53, 54, 55, 56, 57]
theorem nine_sum : sumOf nine = 11051210869376104954#64 := by decide +kernel
theorem step01 : stp 0#64 1#8 = 12911341560706588527#64 := by decide +kernel

set_option maxHeartbeats 400000 in
theorem works_any (w : World) :
    Calls Try.prog 16 #[] w fun e w' => e = .returned (.bool true) ∧ Below w.heap.size w w' := by
  have kc := fun (w : World) (C : Array Value) (n c : Nat) => Lib.run_convert_bytes_const (P := Try.prog) w 26 5 C n c Try.underlying26 Try.underlying5
  go_enter Try.func16, Try.ntmps16
  go_wp2_with fail
  refine (of_any (some ⟨w.heap.size, 0, none⟩) 9 nine _ ?_).mono ?_
  · exact bts_block (cs := (nine.map byteV).toArray) (heap_alloc_new _ _) rfl (by decide)
  rintro e w1 ⟨rfl, hb⟩
  rw [nine_sum]
  go_wp2_with fail
  refine (step_any 0#64 1#8 _).mono ?_
  rintro e w2 ⟨rfl, rfl⟩
  rw [step01]
  go_wp2
  go_ret
  exact ⟨rfl, (((Below.refl _ _).alloc (Nat.le_refl _) _).trans (hb.mono (by simp)))⟩
end Go.Proofs.Ytfmdgbleobodmaa.Walks
