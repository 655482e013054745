/-
  The walk of the law CrewReplaces.
-/
import Derived.Test.YtldcpnabgpjgiaaCrewQ
namespace Go.Proofs.Ytldcpnabgpjgiaa.Walks
open Go.RowKit Plain
set_option linter.unusedVariables false

theorem refRep_is {f : Int} {l : List Int} {old next : Int} {F E : Int} {L : List Int} (h : repF f l old next = F ∧ repL f l old next = L ∧ repE f l old next = E) (a : Option Addr) (cap : Nat) (w : World) (hI : Ints w a l) :
    Calls Try.prog 83 #[.agg #[.int .i64 f, .slice a l.length cap], .int .i64 old, .int .i64 next] w (CrewPost F L E w) := by
  obtain ⟨rfl, rfl, rfl⟩ := h; exact refReplace_any f a cap l old next w hI

/-- Cells of an own row, for the loop that writes noughts over it. -/
theorem Own.cellsAt {w : World} {base : Nat} {a : Option Addr} {l : List Int} {cap : Nat} (h : Own w base a l cap) (h0 : 0 < l.length) : ∃ g, a = some ⟨g, 0, none⟩ ∧ base ≤ g ∧ ∀ i, i < l.length → (∃ v, w.cell? ⟨g, i, none⟩ = some v) ∧ w.frozen? ⟨g, i, none⟩ = false := by
  obtain ⟨g, cur, rfl, hb, hg, hc, hm, hs, ht⟩ := h.len_pos_some h0
  refine ⟨g, rfl, hb, fun i hi => ⟨?_, frozen_of_row _ _ _ _ _ hg⟩⟩
  rw [cell_of_row _ _ _ _ _ _ hg]
  exact ⟨cur[i]'(by omega), Array.getElem?_eq_getElem (by omega)⟩
/-- What the loop of noughts keeps. -/
def Zeroed (wz : World) (g n : Nat) (wr : World) : Prop := Below g wz wr ∧ (∀ k, k ≠ g → wr.heap[k]? = wz.heap[k]?) ∧ ∀ i, i < n → (∃ v, wr.cell? ⟨g, i, none⟩ = some v) ∧ wr.frozen? ⟨g, i, none⟩ = false
theorem Zeroed.step {wz wr : World} {g n i : Nat} {v : Value} (h : Zeroed wz g n wr) (hi : i < n) : Zeroed wz g n (wr.setCell ⟨g, i, none⟩ v) := by
  refine ⟨h.1.setCell (Nat.le_refl _) _, fun k hk => ?_, fun j hj => ⟨?_, ?_⟩⟩
  · rw [heap_setCell_other wr ⟨g, i, none⟩ k v (fun e => hk (by rw [e]))]
    exact h.2.1 k hk
  · by_cases e : j = i
    · subst e
      obtain ⟨u, hu⟩ := (h.2.2 j hj).1
      exact ⟨v, World.cell?_setCell_same _ _ _ hu⟩
    · obtain ⟨u, hu⟩ := (h.2.2 j hj).1
      exact ⟨u, by rw [World.cell?_setCell_other _ _ _ _ (by simp <;> omega)]; exact hu⟩
  · have := (h.2.2 j hj).2
    simpa using this
theorem Zeroed.cell {wz wr : World} {g n b o : Nat} {v : Value} (h : Zeroed wz g n wr) (hb : b ≠ g) (hc : wz.cell? ⟨b, o, none⟩ = some v) : wr.cell? ⟨b, o, none⟩ = some v :=
  (World.cell?_of_block (a := ⟨b, o, none⟩) (h.2.1 b hb)).trans hc
/-- The row that the loop writes over, nil or not. -/
theorem Zeroed.any {w w4 : World} {base : Nat} {a : Option Addr} {l : List Int} {cap : Nat} (h : Own w base a l cap) (h4 : Own w4 base a l cap) (hw : base ≤ w4.heap.size) : ∃ g, Hid (base ≤ g ∧ g ≠ w4.heap.size ∧ (0 < l.length → a = some ⟨g, 0, none⟩) ∧ Zeroed w g l.length w) := by
  rcases Nat.eq_zero_or_pos l.length with h0 | h0
  · exact ⟨w4.heap.size + 1, Lib.hid ⟨by omega, by omega, fun h => by omega, Below.refl _ _, fun _ _ => rfl, fun i hi => by omega⟩⟩
  · obtain ⟨g, rfl, h2, h3⟩ := h.cellsAt h0
    have := h4.block_lt rfl
    exact ⟨g, Lib.hid ⟨h2, by have : g < w4.heap.size := this; omega, fun _ => rfl, Below.refl _ _, fun _ _ => rfl, h3⟩⟩
theorem Ints.belowB {w w' w0 : World} {a : Option Addr} {l : List Int} {B : Nat} (h0 : Ints w0 a l) (hB : w0.heap.size ≤ B) (h : Ints w a l) (hb : Below B w w') : Ints w' a l := by
  refine ⟨h.1, ?_⟩
  rcases h.2 with rfl | ⟨b, off, rfl, hc⟩
  · exact .inl rfl
  · refine .inr ⟨b, off, rfl, fun i hi => ?_⟩
    obtain ⟨b', off', hh, hlt, _⟩ := h0.at_lt hi
    cases hh
    exact (hb.cell (by show b < B; omega)).trans (hc i hi)
theorem Zeroed.start {w : World} {base : Nat} {a : Option Addr} {l : List Int} {cap : Nat} (h : Own w base a l cap) (h0 : 0 < l.length) : ∃ g, a = some ⟨g, 0, none⟩ ∧ base ≤ g ∧ Zeroed w g l.length w := by
  obtain ⟨g, h1, h2, h3⟩ := h.cellsAt h0
  exact ⟨g, h1, h2, Below.refl _ _, fun _ _ => rfl, h3⟩

set_option maxRecDepth 100000 in
set_option maxHeartbeats 4000000 in
theorem crewReplaces_walk (f : Int) (a : Option Addr) (cap : Nat) (l : List Int) (old next : Int) (w : World) (hI : Ints w a l) (hn : a = none → cap = 0) (hr : l.length ≤ 17592186044415) :
    Calls Try.prog 17 #[.agg #[.int .i64 f, .slice a l.length cap], .int .i64 old, .int .i64 next] w fun e w' => e = .returned (.bool true) ∧ Below w.heap.size w w' := by
  have HI := Lib.hid hI
  have HN := Lib.hid hn
  clear hI hn
  go_enter Try.func17, Try.ntmps17
  go_wp2_with fail
  obtain ⟨c0, c1⟩ := crew_box (w := w) (F := f) (v := .slice a l.length cap)
  have HA := Lib.hid (HI.out.alloc (.cells #[.int .i64 f, .slice a l.length cap] 24))
  have HB := Lib.hid (Below.new w (.cells #[.int .i64 f, .slice a l.length cap] 24))
  generalize (w.alloc (.cells #[.int .i64 f, .slice a l.length cap] 24)) = w1 at *
  refine Calls.mono (copy_any f a cap l _ HA.out HN.out (by omega)) ?_
  rintro e w2 ⟨ai, capi, rfl, hOi, hb2⟩
  obtain ⟨d0, d1⟩ := crew_box (w := w2) (F := f) (v := .slice ai l.length capi)
  have hb22' := hb2
  have c00 := c0
  have hb22 := Below.step hb2 (Below.new w2 (.cells #[.int .i64 f, .slice ai l.length capi] 24))
  have c0 := keepc hb22 c0
  have c1 := keepc hb22 c1
  have HA := Lib.hid (HA.out.below hb22)
  have HB := Lib.hid (Below.step HB.out hb22)
  have HNi := Lib.hid (Own.nocap hOi)
  have HIi := Lib.hid ((Own.ints hOi (by omega)).alloc (.cells #[.int .i64 f, .slice ai l.length capi] 24))
  clear hOi hb2 hb22
  go_wp2_with fail
  have HW2 : Hid ((w2.alloc (.cells #[.int .i64 f, .slice ai l.length capi] 24)).heap.size = w2.heap.size + 1) := Lib.hid (by simp)
  have HW0 : Hid (w.heap.size < w2.heap.size) := Lib.hid (by have := block_lt_of_cell (keepc hb22' c00); simpa using this)
  generalize (w2.alloc (.cells #[.int .i64 f, .slice ai l.length capi] 24)) = w3 at *
  have HIi3 := HIi
  obtain ⟨X, hX⟩ : ∃ X, X = repF f l old next := ⟨_, rfl⟩
  obtain ⟨R, hR⟩ : ∃ R, R = repL f l old next := ⟨_, rfl⟩
  obtain ⟨E, hE⟩ : ∃ E, E = repE f l old next := ⟨_, rfl⟩
  have hRl : R.length ≤ 7 := by
    rw [hR]
    cases hm : mayC f l old next with
    | true => have h1 := goodC_len (repL_good hm); have h2 := goodC_len (mayC_good hm).1; omega
    | false => simp [repL, hm]
  have HP : Hid (repF f l old next = X ∧ repL f l old next = R ∧ repE f l old next = E) := Lib.hid ⟨hX.symm, hR.symm, hE.symm⟩
  clear hX hR hE
  refine Calls.mono (rep_is HP.out ai capi _ HIi.out HNi.out (by omega)) ?_
  rintro e w4 ⟨ax, capx, rfl, hOx, hb4⟩
  obtain ⟨e0, e1⟩ := crew_box (w := w4) (F := X) (v := .slice ax R.length capx)
  have hb44 := Below.step hb4 (Below.new w4 (.cells #[.int .i64 X, .slice ax R.length capx] 24))
  have c0 := keepc hb44 c0
  have c1 := keepc hb44 c1
  have d0 := keepc hb44 d0
  have d1 := keepc hb44 d1
  have HA := Lib.hid (HA.out.below hb44)
  have HIi := Lib.hid (HIi.out.below hb44)
  have HOx := Lib.hid (ownsRow_below hOx (Below.new w4 (.cells #[.int .i64 X, .slice ax R.length capx] 24)))
  have HO4 := Lib.hid hOx
  have HI3 := HIi3
  have HS4 : Hid (w3.heap.size ≤ w4.heap.size) := Lib.hid hb4.size
  have HB := Lib.hid (Below.step HB.out hb44)
  clear hOx hb4 hb44
  go_wp2_with fail
  generalize (w4.alloc (.cells #[.int .i64 X, .slice ax R.length capx] 24)) = w5 at *
  refine Calls.mono (refRep_is HP.out a cap _ HA.out) ?_
  rintro e w6 ⟨ay, capy, rfl, hOy, hb6⟩
  obtain ⟨f0, f1⟩ := crew_box (w := w6) (F := X) (v := .slice ay R.length capy)
  have hb66 := Below.step hb6 (Below.new w6 (.cells #[.int .i64 X, .slice ay R.length capy] 24))
  have c0 := keepc hb66 c0
  have c1 := keepc hb66 c1
  have d0 := keepc hb66 d0
  have d1 := keepc hb66 d1
  have e0 := keepc hb66 e0
  have e1 := keepc hb66 e1
  have HA := Lib.hid (HA.out.below hb66)
  have HIi := Lib.hid (HIi.out.below hb66)
  have HOx := Lib.hid (ownsRow_below HOx.out hb66)
  have HIy := Lib.hid ((Own.ints hOy (by omega)).alloc (.cells #[.int .i64 X, .slice ay R.length capy] 24))
  have HB := Lib.hid (Below.step HB.out hb66)
  clear hOy hb6 hb66
  go_wp2_with fail
  generalize (w6.alloc (.cells #[.int .i64 X, .slice ay R.length capy] 24)) = w7 at *
  refine Calls.mono (same_true (l := R) (l' := R) rfl rfl ax ay capx capy _ (Own.ints HOx.out (by omega)) HIy.out) ?_
  rintro e w8 ⟨rfl, hb8⟩
  have c0 := keepc hb8 c0
  have c1 := keepc hb8 c1
  have d0 := keepc hb8 d0
  have d1 := keepc hb8 d1
  have e0 := keepc hb8 e0
  have e1 := keepc hb8 e1
  have HA := Lib.hid (HA.out.below hb8)
  have HIi := Lib.hid (HIi.out.below hb8)
  have HOx := Lib.hid (ownsRow_below HOx.out hb8)
  have HB := Lib.hid (Below.step HB.out hb8)
  clear hb8 HIy
  go_wp2_with fail
  obtain ⟨g, HZ⟩ := Zeroed.any HOx.out HO4.out HS4.out
  clear hb22' c00
  go_loopw [12] (fun i wr => ∃ k : Nat, k ≤ R.length ∧ i = .int .i64 k ∧ Hid (Zeroed w8 g R.length wr)) (fun i _ => R.length - (intOf i).toNat)
  case atStart => exact ⟨0, by omega, rfl, Lib.hid HZ.out.2.2.2⟩
  case round =>
    obtain ⟨k, hk, rfl, HZr⟩ := hrel
    have e0 := HZr.out.cell (Ne.symm HZ.out.2.1) e0
    have e1 := HZr.out.cell (Ne.symm HZ.out.2.1) e1
    by_cases hlt : k < R.length
    · have hax := HZ.out.2.2.1 (by omega)
      subst hax
      obtain ⟨⟨v, hv⟩, hf⟩ := HZr.out.2.2 k hlt
      go_wp2
      go_roundw
      case rel => exact ⟨k + 1, by omega, by go_num, Lib.hid (HZr.out.step hlt)⟩
      case measure => simp [intOf]; omega
    · have hz := HZr.out.1.mono HZ.out.1
      have c0 := keepb hz (by show w.heap.size < w3.heap.size; have := HW2.out; have := HW0.out; omega) c0
      have c1 := keepb hz (by show w.heap.size < w3.heap.size; have := HW2.out; have := HW0.out; omega) c1
      have d0 := keepb hz (by show w2.heap.size < w3.heap.size; have := HW2.out; omega) d0
      have d1 := keepb hz (by show w2.heap.size < w3.heap.size; have := HW2.out; omega) d1
      have HA := Lib.hid (Ints.belowB HI.out (by have := HW2.out; have := HW0.out; omega) HA.out hz)
      have HIi := Lib.hid (Ints.belowB HIi3.out (Nat.le_refl _) HIi.out hz)
      have HB := Lib.hid (HB.out.trans (hz.mono (by have := HW2.out; have := HW0.out; omega)))
      go_wp2_with fail
      refine Calls.mono (same_true (l := l) (l' := l) rfl rfl ai a capi cap _ HIi.out HA.out) ?_
      rintro e w9 ⟨rfl, hb9⟩
      go_wp2_with fail
      refine Calls.mono (works_any _) ?_
      rintro e w10 ⟨rfl, hb10⟩
      go_wp2
      go_ret
      exact ⟨rfl, Below.step HB.out (Below.step hb9 hb10)⟩
end Go.Proofs.Ytldcpnabgpjgiaa.Walks
