/-
  The walk of the law CrewMakes.
-/
import Derived.Test.YtldcpnabgpjgiaaCrewU
namespace Go.Proofs.Ytldcpnabgpjgiaa.Walks
open Go.RowKit Plain
set_option linter.unusedVariables false

theorem refMake_is {f : Int} {l : List Int} {F E : Int} {L : List Int} (h : makeF f l = F ∧ makeL f l = L ∧ makeE f l = E) (a : Option Addr) (cap : Nat) (w : World) (hI : Ints w a l) :
    Calls Try.prog 68 #[.int .i64 f, .slice a l.length cap] w (CrewPost F L E w) := by
  obtain ⟨rfl, rfl, rfl⟩ := h; exact refMake_any f a cap l w hI
theorem makeL_len (f : Int) (l : List Int) : (makeL f l).length ≤ 7 := by
  unfold makeL
  cases h : goodC f (sortI l) with
  | true => have := goodC_len h; simp; omega
  | false => simp

set_option maxRecDepth 100000 in
set_option maxHeartbeats 4000000 in
theorem crewMakes_walk (f : Int) (a : Option Addr) (cap : Nat) (l : List Int) (fs : Int) (b : Option Addr) (capb : Nat) (m : List Int) (w : World) (hI : Ints w a l) (hn : a = none → cap = 0) (hr : l.length ≤ 17592186044415) (hIm : Ints w b m) (hnm : b = none → capb = 0) (hrm : m.length ≤ 17592186044415) :
    Calls Try.prog 15 #[.agg #[.int .i64 f, .slice a l.length cap], .int .i64 fs, .slice b m.length capb] w fun e w' => e = .returned (.bool true) ∧ Below w.heap.size w w' := by
  have HI := Lib.hid hI
  have HN := Lib.hid hn
  have HIm := Lib.hid hIm
  have HNm := Lib.hid hnm
  clear hI hn hIm hnm
  go_enter Try.func15, Try.ntmps15
  go_wp2_with fail
  obtain ⟨c0, c1⟩ := crew_box (w := w) (F := f) (v := .slice a l.length cap)
  have HA := Lib.hid (HI.out.alloc (.cells #[.int .i64 f, .slice a l.length cap] 24))
  have HM := Lib.hid (HIm.out.alloc (.cells #[.int .i64 f, .slice a l.length cap] 24))
  have HB := Lib.hid (Below.new w (.cells #[.int .i64 f, .slice a l.length cap] 24))
  generalize (w.alloc (.cells #[.int .i64 f, .slice a l.length cap] 24)) = w1 at *
  refine Calls.mono (copy_any f a cap l _ HA.out HN.out (by omega)) ?_
  rintro e w2 ⟨ai, capi, rfl, hOi, hb2⟩
  have c0 := keepc hb2 c0
  have c1 := keepc hb2 c1
  have HA := Lib.hid (HA.out.below hb2)
  have HM := Lib.hid (HM.out.below hb2)
  have HB := Lib.hid (Below.step HB.out hb2)
  have HNi := Lib.hid (Own.nocap hOi)
  have HIi := Lib.hid (Own.ints hOi (by omega))
  clear hOi hb2
  go_wp2_with fail
  refine Calls.mono (copyInts_any b capb m _ HM.out HNm.out (by omega)) ?_
  rintro e w3 ⟨an, capn, rfl, hOn, hb3⟩
  obtain ⟨d0, d1⟩ := crew_box (w := w3) (F := f) (v := .slice ai l.length capi)
  have hb33 := Below.step hb3 (Below.new w3 (.cells #[.int .i64 f, .slice ai l.length capi] 24))
  have HW0 : Hid (w.heap.size < w3.heap.size) := Lib.hid (by have := block_lt_of_cell (keepc hb3 c0); simpa using this)
  have c0 := keepc hb33 c0
  have c1 := keepc hb33 c1
  have HA := Lib.hid (HA.out.below hb33)
  have HM := Lib.hid (HM.out.below hb33)
  have HIi := Lib.hid (HIi.out.below hb33)
  have HB := Lib.hid (Below.step HB.out hb33)
  have HNn := Lib.hid (Own.nocap hOn)
  have HIn := Lib.hid ((Own.ints hOn (by omega)).alloc (.cells #[.int .i64 f, .slice ai l.length capi] 24))
  clear hOn hb3 hb33
  go_wp2_with fail
  have HW3 : Hid ((w3.alloc (.cells #[.int .i64 f, .slice ai l.length capi] 24)).heap.size = w3.heap.size + 1) := Lib.hid (by simp)
  generalize (w3.alloc (.cells #[.int .i64 f, .slice ai l.length capi] 24)) = w4 at *
  have HIi0 := HIi
  have HIn0 := HIn
  obtain ⟨X, hX⟩ : ∃ X, X = makeF fs m := ⟨_, rfl⟩
  obtain ⟨R, hR⟩ : ∃ R, R = makeL fs m := ⟨_, rfl⟩
  obtain ⟨E, hE⟩ : ∃ E, E = makeE fs m := ⟨_, rfl⟩
  have hRl : R.length ≤ 7 := by rw [hR]; exact makeL_len _ _
  have HP : Hid (makeF fs m = X ∧ makeL fs m = R ∧ makeE fs m = E) := Lib.hid ⟨hX.symm, hR.symm, hE.symm⟩
  clear hX hR hE
  refine Calls.mono (make_is HP.out an capn _ HIn.out HNn.out (by omega)) ?_
  rintro e w5 ⟨ax, capx, rfl, hOx, hb5⟩
  obtain ⟨e0, e1⟩ := crew_box (w := w5) (F := X) (v := .slice ax R.length capx)
  have hb55 := Below.step hb5 (Below.new w5 (.cells #[.int .i64 X, .slice ax R.length capx] 24))
  have c0 := keepc hb55 c0
  have c1 := keepc hb55 c1
  have d0 := keepc hb55 d0
  have d1 := keepc hb55 d1
  have HA := Lib.hid (HA.out.below hb55)
  have HM := Lib.hid (HM.out.below hb55)
  have HIi := Lib.hid (HIi.out.below hb55)
  have HIn := Lib.hid (HIn.out.below hb55)
  have HB := Lib.hid (Below.step HB.out hb55)
  have HOx := Lib.hid (ownsRow_below hOx (Below.new w5 (.cells #[.int .i64 X, .slice ax R.length capx] 24)))
  have HO5 := Lib.hid hOx
  have HS5 : Hid (w4.heap.size ≤ w5.heap.size) := Lib.hid hb5.size
  clear hOx hb5 hb55
  go_wp2_with fail
  generalize (w5.alloc (.cells #[.int .i64 X, .slice ax R.length capx] 24)) = w6 at *
  refine Calls.mono (refMake_is HP.out b capb _ HM.out) ?_
  rintro e w7 ⟨ay, capy, rfl, hOy, hb7⟩
  obtain ⟨f0, f1⟩ := crew_box (w := w7) (F := X) (v := .slice ay R.length capy)
  have hb77 := Below.step hb7 (Below.new w7 (.cells #[.int .i64 X, .slice ay R.length capy] 24))
  have c0 := keepc hb77 c0
  have c1 := keepc hb77 c1
  have d0 := keepc hb77 d0
  have d1 := keepc hb77 d1
  have e0 := keepc hb77 e0
  have e1 := keepc hb77 e1
  have HA := Lib.hid (HA.out.below hb77)
  have HM := Lib.hid (HM.out.below hb77)
  have HIi := Lib.hid (HIi.out.below hb77)
  have HIn := Lib.hid (HIn.out.below hb77)
  have HOx := Lib.hid (ownsRow_below HOx.out hb77)
  have HB := Lib.hid (Below.step HB.out hb77)
  have HIy := Lib.hid ((Own.ints hOy (by omega)).alloc (.cells #[.int .i64 X, .slice ay R.length capy] 24))
  have HIx := Lib.hid (Own.ints HOx.out (by omega))
  clear hOy hb7 hb77
  go_wp2_with fail
  generalize (w7.alloc (.cells #[.int .i64 X, .slice ay R.length capy] 24)) = w8 at *
  obtain ⟨Q, hQ⟩ : ∃ Q, Q = errC f l := ⟨_, rfl⟩
  have HQ := Lib.hid hQ.symm
  clear hQ
  have hS : Below w8.heap.size w8 w8 := Below.refl _ _
  go_region_held3 (fun w' => w'.cell? ⟨w.heap.size, 0, none⟩ = some (.int .i64 f) ∧ w'.cell? ⟨w.heap.size, 1, none⟩ = some (.slice a l.length cap) ∧ w'.cell? ⟨w3.heap.size, 0, none⟩ = some (.int .i64 f) ∧ w'.cell? ⟨w3.heap.size, 1, none⟩ = some (.slice ai l.length capi) ∧ w'.cell? ⟨w5.heap.size, 0, none⟩ = some (.int .i64 X) ∧ w'.cell? ⟨w5.heap.size, 1, none⟩ = some (.slice ax R.length capx) ∧ w'.cell? ⟨w7.heap.size, 0, none⟩ = some (.int .i64 X) ∧ w'.cell? ⟨w7.heap.size, 1, none⟩ = some (.slice ay R.length capy))
    (first
      | go_keep | assumption | exact ⟨keepc hS c0, keepc hS c1, keepc hS d0, keepc hS d1, keepc hS e0, keepc hS e1, keepc hS f0, keepc hS f1⟩ | exact ⟨keepc (Below.step hS (Below.new _ _)) c0, keepc (Below.step hS (Below.new _ _)) c1, keepc (Below.step hS (Below.new _ _)) d0, keepc (Below.step hS (Below.new _ _)) d1, keepc (Below.step hS (Below.new _ _)) e0, keepc (Below.step hS (Below.new _ _)) e1, keepc (Below.step hS (Below.new _ _)) f0, keepc (Below.step hS (Below.new _ _)) f1⟩)
    ((first
      | (go_at_call 69; (with_reducible refine Calls.mono (check_is HQ.out ai capi _ ?hI) ?_); (case hI => exact (Ints.below HIi.out (by first | exact hS | exact hS.drew | exact Below.step hS (Below.new _ _)))); rintro e wc ⟨rfl, hb⟩; have hS : Below w8.heap.size w8 wc := (by first | exact Below.step hS hb | exact Below.stepD hS hb | exact Below.step (Below.step hS (Below.new _ _)) hb))
      | (go_at_call 70; (with_reducible refine Calls.mono (refCheck_is HQ.out a cap _ ?hI) ?_); (case hI => exact (Ints.below HA.out (by first | exact hS | exact hS.drew | exact Below.step hS (Below.new _ _)))); rintro e wc ⟨rfl, hb⟩; have hS : Below w8.heap.size w8 wc := (by first | exact Below.step hS hb | exact Below.stepD hS hb | exact Below.step (Below.step hS (Below.new _ _)) hb))
      | (go_at_call 31; (with_reducible refine Calls.mono (same_true (l := R) (l' := R) rfl rfl ax ay capx capy _ ?hI ?hJ) ?_); (case hI => exact (Ints.below HIx.out (by first | exact hS | exact hS.drew | exact Below.step hS (Below.new _ _)))); (case hJ => exact (Ints.below HIy.out (by first | exact hS | exact hS.drew | exact Below.step hS (Below.new _ _)))); rintro e wc ⟨rfl, hb⟩; have hS : Below w8.heap.size w8 wc := (by first | exact Below.step hS hb | exact Below.stepD hS hb | exact Below.step (Below.step hS (Below.new _ _)) hb))))
  have c0 := keepc hS c0
  have c1 := keepc hS c1
  have d0 := keepc hS d0
  have d1 := keepc hS d1
  have e0 := keepc hS e0
  have e1 := keepc hS e1
  have HA := Lib.hid (HA.out.below hS)
  have HM := Lib.hid (HM.out.below hS)
  have HIi := Lib.hid (HIi.out.below hS)
  have HIn := Lib.hid (HIn.out.below hS)
  have HOx := Lib.hid (ownsRow_below HOx.out hS)
  have HB := Lib.hid (Below.step HB.out hS)
  obtain ⟨w9, rfl⟩ : ∃ w9 : World, w9 = wc := ⟨_, rfl⟩
  clear hS
  go_wp2_with fail
  obtain ⟨g, HZ⟩ := Zeroed.any HOx.out HO5.out HS5.out
  go_loopw [13] (fun i wr => ∃ k : Nat, k ≤ R.length ∧ i = .int .i64 k ∧ Hid (Zeroed w9 g R.length wr)) (fun i _ => R.length - (intOf i).toNat)
  case atStart => exact ⟨0, by omega, rfl, Lib.hid HZ.out.2.2.2⟩
  case round =>
    obtain ⟨k, hk, rfl, HZr⟩ := hrel
    have e0 := HZr.out.cell (Ne.symm HZ.out.2.1) e0
    have e1 := HZr.out.cell (Ne.symm HZ.out.2.1) e1
    by_cases hlt : k < R.length
    · have hax := HZ.out.2.2.1 (by omega)
      subst hax
      obtain ⟨⟨v, hv⟩, hf⟩ := HZr.out.2.2 k hlt
      go_wp2
      go_roundw
      case rel => exact ⟨k + 1, by omega, by go_num, Lib.hid (HZr.out.step hlt)⟩
      case measure => simp [intOf]; omega
    · have hz := HZr.out.1.mono HZ.out.1
      have c0 := keepb hz (by show w.heap.size < w4.heap.size; have := HW3.out; have := HW0.out; omega) c0
      have c1 := keepb hz (by show w.heap.size < w4.heap.size; have := HW3.out; have := HW0.out; omega) c1
      have d0 := keepb hz (by show w3.heap.size < w4.heap.size; have := HW3.out; omega) d0
      have d1 := keepb hz (by show w3.heap.size < w4.heap.size; have := HW3.out; omega) d1
      have HA := Lib.hid (Ints.belowB HI.out (by have := HW3.out; have := HW0.out; omega) HA.out hz)
      have HM := Lib.hid (Ints.belowB HIm.out (by have := HW3.out; have := HW0.out; omega) HM.out hz)
      have HIi := Lib.hid (Ints.belowB HIi0.out (Nat.le_refl _) HIi.out hz)
      have HIn := Lib.hid (Ints.belowB HIn0.out (Nat.le_refl _) HIn.out hz)
      have HB := Lib.hid (HB.out.trans (hz.mono (by have := HW3.out; have := HW0.out; omega)))
      go_wp2_with fail
      refine Calls.mono (same_true (l := l) (l' := l) rfl rfl ai a capi cap _ HIi.out HA.out) ?_
      rintro e w10 ⟨rfl, hb10⟩
      go_wp2_with fail
      refine Calls.mono (eq_true (l := m) (l' := m) rfl an b capn capb _ (HIn.out.below hb10) (HM.out.below hb10)) ?_
      rintro e w11 ⟨rfl, hb11⟩
      go_wp2_with fail
      refine Calls.mono (works_any _) ?_
      rintro e w12 ⟨rfl, hb12⟩
      go_wp2
      go_ret
      exact ⟨rfl, Below.step HB.out (Below.step hb10 (Below.step hb11 hb12))⟩
end Go.Proofs.Ytldcpnabgpjgiaa.Walks
