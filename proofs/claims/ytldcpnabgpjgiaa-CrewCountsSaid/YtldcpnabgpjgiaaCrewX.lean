/-
  The walk of the law CrewTells.
-/
import Derived.Test.YtldcpnabgpjgiaaCrewV
namespace Go.Proofs.Ytldcpnabgpjgiaa.Walks
open Go.RowKit Plain
set_option linter.unusedVariables false

theorem refOthers_is {f : Int} {l L : List Int} {x : Int} (h : othersC f l x = L) (a : Option Addr) (cap : Nat) (w : World) (hI : Ints w a l) (hr : l.length ≤ 17592186044416) :
    Calls Try.prog 81 #[.agg #[.int .i64 f, .slice a l.length cap], .int .i64 x] w fun e w' => ∃ a' cap', e = .returned (.slice a' L.length cap') ∧ Own w' w.heap.size a' L cap' ∧ Below w.heap.size w w' := by
  subst h; exact refOthers_any f a cap l x w hI hr
theorem othersC_len (f : Int) (l : List Int) (x : Int) : (othersC f l x).length ≤ l.length := by
  unfold othersC
  cases goodC f l with
  | true => exact dels_len _ _
  | false => simp
/-- A row of the call's own, whatever was made behind it. -/
theorem Zeroed.own {w : World} {base : Nat} {a : Option Addr} {l : List Int} {cap : Nat} (h : Own w base a l cap) : ∃ g, Hid (base ≤ g ∧ (0 < l.length → a = some ⟨g, 0, none⟩) ∧ Zeroed w g l.length w) := by
  rcases Nat.eq_zero_or_pos l.length with h0 | h0
  · exact ⟨base, Lib.hid ⟨by omega, fun h => by omega, Below.refl _ _, fun _ _ => rfl, fun i hi => by omega⟩⟩
  · obtain ⟨g, rfl, h2, h3⟩ := h.cellsAt h0
    exact ⟨g, Lib.hid ⟨h2, fun _ => rfl, Below.refl _ _, fun _ _ => rfl, h3⟩⟩

set_option maxRecDepth 100000 in
set_option maxHeartbeats 4000000 in
theorem crewTells_walk (f : Int) (a : Option Addr) (cap : Nat) (l : List Int) (view n : Int) (w : World) (hI : Ints w a l) (hn : a = none → cap = 0) (hr : l.length ≤ 17592186044415) :
    Calls Try.prog 16 #[.agg #[.int .i64 f, .slice a l.length cap], .int .i64 view, .int .i64 n] w fun e w' => e = .returned (.bool true) ∧ Below w.heap.size w w' := by
  have HI := Lib.hid hI
  have HN := Lib.hid hn
  clear hI hn
  go_enter Try.func16, Try.ntmps16
  go_wp2_with fail
  obtain ⟨c0, c1⟩ := crew_box (w := w) (F := f) (v := .slice a l.length cap)
  have HA := Lib.hid (HI.out.alloc (.cells #[.int .i64 f, .slice a l.length cap] 24))
  have HB := Lib.hid (Below.new w (.cells #[.int .i64 f, .slice a l.length cap] 24))
  generalize (w.alloc (.cells #[.int .i64 f, .slice a l.length cap] 24)) = w1 at *
  refine Calls.mono (copy_any f a cap l _ HA.out HN.out (by omega)) ?_
  rintro e w2 ⟨ai, capi, rfl, hOi, hb2⟩
  obtain ⟨d0, d1⟩ := crew_box (w := w2) (F := f) (v := .slice ai l.length capi)
  have hb22 := Below.step hb2 (Below.new w2 (.cells #[.int .i64 f, .slice ai l.length capi] 24))
  have HW0 : Hid (w.heap.size < w2.heap.size) := Lib.hid (by have := block_lt_of_cell (keepc hb2 c0); simpa using this)
  have c0 := keepc hb22 c0
  have c1 := keepc hb22 c1
  have HA := Lib.hid (HA.out.below hb22)
  have HB := Lib.hid (Below.step HB.out hb22)
  have HNi := Lib.hid (Own.nocap hOi)
  have HIi := Lib.hid ((Own.ints hOi (by omega)).alloc (.cells #[.int .i64 f, .slice ai l.length capi] 24))
  clear hOi hb2 hb22
  go_wp2_with fail
  have HW2 : Hid ((w2.alloc (.cells #[.int .i64 f, .slice ai l.length capi] 24)).heap.size = w2.heap.size + 1) := Lib.hid (by simp)
  generalize (w2.alloc (.cells #[.int .i64 f, .slice ai l.length capi] 24)) = w3 at *
  have HIi0 := HIi
  obtain ⟨O, hO⟩ : ∃ O, O = othersC f l n := ⟨_, rfl⟩
  have hOl : O.length ≤ 17592186044416 := by rw [hO]; have := othersC_len f l n; omega
  have HO := Lib.hid hO.symm
  clear hO
  refine Calls.mono (others_is HO.out ai capi _ HIi.out HNi.out) ?_
  rintro e w4 ⟨ao, capo, rfl, hOo, hb4⟩
  have c0 := keepc hb4 c0
  have c1 := keepc hb4 c1
  have d0 := keepc hb4 d0
  have d1 := keepc hb4 d1
  have HA := Lib.hid (HA.out.below hb4)
  have HIi := Lib.hid (HIi.out.below hb4)
  have HB := Lib.hid (Below.step HB.out hb4)
  have HOo := Lib.hid hOo
  have HIo := Lib.hid (Own.ints hOo (by omega))
  clear hOo hb4
  obtain ⟨M, hM⟩ : ∃ M, M = mostC f l := ⟨_, rfl⟩
  have HM := Lib.hid hM.symm
  clear hM
  obtain ⟨S, hS⟩ : ∃ S, S = someC f l := ⟨_, rfl⟩
  have HS := Lib.hid hS.symm
  clear hS
  obtain ⟨D, hD⟩ : ∃ D, D = leadC f l view := ⟨_, rfl⟩
  have HD := Lib.hid hD.symm
  clear hD
  obtain ⟨Q, hQ⟩ : ∃ Q, Q = hasC f l n := ⟨_, rfl⟩
  have HQ := Lib.hid hQ.symm
  clear hQ
  go_wp2_with fail
  have hS : Below w4.heap.size w4 w4 := Below.refl _ _
  go_region_held3 (fun w' => w'.cell? ⟨w.heap.size, 0, none⟩ = some (.int .i64 f) ∧ w'.cell? ⟨w.heap.size, 1, none⟩ = some (.slice a l.length cap) ∧ w'.cell? ⟨w2.heap.size, 0, none⟩ = some (.int .i64 f) ∧ w'.cell? ⟨w2.heap.size, 1, none⟩ = some (.slice ai l.length capi))
    (first
      | go_keep | assumption | exact ⟨keepc hS c0, keepc hS c1, keepc hS d0, keepc hS d1⟩ | exact ⟨keepc (Below.step hS (Below.new _ _)) c0, keepc (Below.step hS (Below.new _ _)) c1, keepc (Below.step hS (Below.new _ _)) d0, keepc (Below.step hS (Below.new _ _)) d1⟩)
    ((first
      | (go_at_call 73; (with_reducible refine Calls.mono (most_is HM.out ai capi _ ?hI) ?_); (case hI => exact (Ints.below HIi.out (by first | exact hS | exact hS.drew | exact Below.step hS (Below.new _ _)))); rintro e wc ⟨rfl, hb⟩; have hS : Below w4.heap.size w4 wc := (by first | exact Below.step hS hb | exact Below.stepD hS hb | exact Below.step (Below.step hS (Below.new _ _)) hb))
      | (go_at_call 74; (with_reducible refine Calls.mono (refMost_is HM.out a cap _ ?hI) ?_); (case hI => exact (Ints.below HA.out (by first | exact hS | exact hS.drew | exact Below.step hS (Below.new _ _)))); rintro e wc ⟨rfl, hb⟩; have hS : Below w4.heap.size w4 wc := (by first | exact Below.step hS hb | exact Below.stepD hS hb | exact Below.step (Below.step hS (Below.new _ _)) hb))
      | (go_at_call 75; (with_reducible refine Calls.mono (some_is HS.out ai capi _ ?hI) ?_); (case hI => exact (Ints.below HIi.out (by first | exact hS | exact hS.drew | exact Below.step hS (Below.new _ _)))); rintro e wc ⟨rfl, hb⟩; have hS : Below w4.heap.size w4 wc := (by first | exact Below.step hS hb | exact Below.stepD hS hb | exact Below.step (Below.step hS (Below.new _ _)) hb))
      | (go_at_call 76; (with_reducible refine Calls.mono (refSome_is HS.out a cap _ ?hI) ?_); (case hI => exact (Ints.below HA.out (by first | exact hS | exact hS.drew | exact Below.step hS (Below.new _ _)))); rintro e wc ⟨rfl, hb⟩; have hS : Below w4.heap.size w4 wc := (by first | exact Below.step hS hb | exact Below.stepD hS hb | exact Below.step (Below.step hS (Below.new _ _)) hb))
      | (go_at_call 77; (with_reducible refine Calls.mono (lead_is HD.out ai capi _ ?hI) ?_); (case hI => exact (Ints.below HIi.out (by first | exact hS | exact hS.drew | exact Below.step hS (Below.new _ _)))); rintro e wc ⟨rfl, hb⟩; have hS : Below w4.heap.size w4 wc := (by first | exact Below.step hS hb | exact Below.stepD hS hb | exact Below.step (Below.step hS (Below.new _ _)) hb))
      | (go_at_call 78; (with_reducible refine Calls.mono (refLead_is HD.out a cap _ ?hI) ?_); (case hI => exact (Ints.below HA.out (by first | exact hS | exact hS.drew | exact Below.step hS (Below.new _ _)))); rintro e wc ⟨rfl, hb⟩; have hS : Below w4.heap.size w4 wc := (by first | exact Below.step hS hb | exact Below.stepD hS hb | exact Below.step (Below.step hS (Below.new _ _)) hb))
      | (go_at_call 79; (with_reducible refine Calls.mono (has_is HQ.out ai capi _ ?hI ?hr) ?_); (case hI => exact (Ints.below HIi.out (by first | exact hS | exact hS.drew | exact Below.step hS (Below.new _ _)))); (case hr => exact (by omega)); rintro e wc ⟨rfl, hb⟩; have hS : Below w4.heap.size w4 wc := (by first | exact Below.step hS hb | exact Below.stepD hS hb | exact Below.step (Below.step hS (Below.new _ _)) hb))
      | (go_at_call 80; (with_reducible refine Calls.mono (refHas_is HQ.out a cap _ ?hI) ?_); (case hI => exact (Ints.below HA.out (by first | exact hS | exact hS.drew | exact Below.step hS (Below.new _ _)))); rintro e wc ⟨rfl, hb⟩; have hS : Below w4.heap.size w4 wc := (by first | exact Below.step hS hb | exact Below.stepD hS hb | exact Below.step (Below.step hS (Below.new _ _)) hb))
      | (go_at_call 81; (with_reducible refine Calls.mono (refOthers_is HO.out a cap _ ?hI ?hr) ?_); (case hI => exact (Ints.below HA.out (by first | exact hS | exact hS.drew | exact Below.step hS (Below.new _ _)))); (case hr => exact (by omega)); rintro e wc ⟨ap, capp, rfl, hOp, hb⟩; have hS : Below w4.heap.size w4 wc := (by first | exact Below.step hS hb | exact Below.stepD hS hb | exact Below.step (Below.step hS (Below.new _ _)) hb); have hIp := Own.ints hOp (by omega))
      | (go_at_call 36; (with_reducible refine Calls.mono (eq_true (l := O) (l' := O) rfl ao ap capo capp _ ?hI ?hJ) ?_); (case hI => exact (Ints.below HIo.out (by first | exact hS | exact hS.drew | exact Below.step hS (Below.new _ _)))); (case hJ => exact hIp); rintro e wc ⟨rfl, hb⟩; have hS : Below w4.heap.size w4 wc := (by first | exact Below.step hS hb | exact Below.stepD hS hb | exact Below.step (Below.step hS (Below.new _ _)) hb))))
  have c0 := keepc hS c0
  have c1 := keepc hS c1
  have d0 := keepc hS d0
  have d1 := keepc hS d1
  have HA := Lib.hid (HA.out.below hS)
  have HIi := Lib.hid (HIi.out.below hS)
  have HOo := Lib.hid (ownsRow_below HOo.out hS)
  have HB := Lib.hid (Below.step HB.out hS)
  obtain ⟨w9, rfl⟩ : ∃ w9 : World, w9 = wc := ⟨_, rfl⟩
  clear hS
  go_wp2_with fail
  obtain ⟨g, HZ⟩ := Zeroed.own HOo.out
  go_loopw [9] (fun i wr => ∃ k : Nat, k ≤ O.length ∧ i = .int .i64 k ∧ Hid (Zeroed w9 g O.length wr)) (fun i _ => O.length - (intOf i).toNat)
  case atStart => exact ⟨0, by omega, rfl, Lib.hid HZ.out.2.2⟩
  case round =>
    obtain ⟨k, hk, rfl, HZr⟩ := hrel
    by_cases hlt : k < O.length
    · have hax := HZ.out.2.1 (by omega)
      subst hax
      obtain ⟨⟨v, hv⟩, hf⟩ := HZr.out.2.2 k hlt
      go_wp2
      go_roundw
      case rel => exact ⟨k + 1, by omega, by go_num, Lib.hid (HZr.out.step hlt)⟩
      case measure => simp [intOf]; omega
    · have hz := HZr.out.1.mono HZ.out.1
      have c0 := keepb hz (by show w.heap.size < w3.heap.size; have := HW2.out; have := HW0.out; omega) c0
      have c1 := keepb hz (by show w.heap.size < w3.heap.size; have := HW2.out; have := HW0.out; omega) c1
      have d0 := keepb hz (by show w2.heap.size < w3.heap.size; have := HW2.out; omega) d0
      have d1 := keepb hz (by show w2.heap.size < w3.heap.size; have := HW2.out; omega) d1
      have HA := Lib.hid (Ints.belowB HI.out (by have := HW2.out; have := HW0.out; omega) HA.out hz)
      have HIi := Lib.hid (Ints.belowB HIi0.out (Nat.le_refl _) HIi.out hz)
      have HB := Lib.hid (HB.out.trans (hz.mono (by have := HW2.out; have := HW0.out; omega)))
      go_wp2_with fail
      refine Calls.mono (same_true (l := l) (l' := l) rfl rfl ai a capi cap _ HIi.out HA.out) ?_
      rintro e w10 ⟨rfl, hb10⟩
      go_wp2_with fail
      refine Calls.mono (works_any _) ?_
      rintro e w12 ⟨rfl, hb12⟩
      go_wp2
      go_ret
      exact ⟨rfl, Below.step HB.out (Below.step hb10 hb12)⟩
end Go.Proofs.Ytldcpnabgpjgiaa.Walks
