/-
  The walk of the law CrewNext.
-/
import Derived.Test.YtldcpnabgpjgiaaCrewS
import Derived.Test.YtldcpnabgpjgiaaCrewR
import Derived.Deep.DeepCutAuto
namespace Go.Proofs.Ytldcpnabgpjgiaa.Walks
open Go.RowKit Plain
set_option linter.unusedVariables false

/-- What the statement 'd, e := crew.Replace(..)' leaves. -/
def DBox (w4 : World) (F : Int) (D : List Int) (dv ev : Value) (wx : World) : Prop :=
  ∃ g a5 cap5, dv = .pointer (some ⟨g, 0, none⟩) ∧ ev = .int .i64 0 ∧ wx.cell? ⟨g, 0, none⟩ = some (.int .i64 F) ∧ wx.cell? ⟨g, 1, none⟩ = some (.slice a5 D.length cap5) ∧ Ints wx a5 D ∧ (a5 = none → cap5 = 0) ∧ Below w4.heap.size w4 wx ∧ w4.heap.size ≤ g
theorem DBox.new {w4 wc : World} {F : Int} {D : List Int} {a5 : Option Addr} {cap5 : Nat} (hS : Below w4.heap.size w4 wc) (hI : Ints wc a5 D) (hN : a5 = none → cap5 = 0) : DBox w4 F D (.pointer (some ⟨wc.heap.size, 0, none⟩)) (.int .i64 0) (wc.alloc (.cells #[.int .i64 F, .slice a5 D.length cap5] 24)) :=
  ⟨wc.heap.size, a5, cap5, rfl, rfl, crew_box.1, crew_box.2, hI.alloc _, hN, Below.step hS (Below.new _ _), hS.size⟩
theorem DBox.old {w4 wc : World} {F : Int} {D : List Int} {a5 : Option Addr} {cap5 : Nat} (hS : Below w4.heap.size w4 wc) (hb : Below (w4.alloc (.cells #[.int .i64 0, .slice none 0 0] 24)).drew.heap.size (w4.alloc (.cells #[.int .i64 0, .slice none 0 0] 24)).drew wc)
    (hO : Own wc (w4.alloc (.cells #[.int .i64 0, .slice none 0 0] 24)).drew.heap.size a5 D cap5) (hm : D.length ≤ 9223372036854775807)
    (x0 : wc.cell? ⟨w4.heap.size, 0, none⟩ = some (.int .i64 0)) (x1 : wc.cell? ⟨w4.heap.size, 1, none⟩ = some (.slice none 0 0)) :
    DBox w4 F D (.pointer (some ⟨w4.heap.size, 0, none⟩)) (.int .i64 0) ((wc.setCell ⟨w4.heap.size, 0, none⟩ (.int .i64 F)).setCell ⟨w4.heap.size, 1, none⟩ (.slice a5 D.length cap5)) := by
  have hlt : w4.heap.size < (w4.alloc (.cells #[.int .i64 0, .slice none 0 0] 24)).drew.heap.size := by show w4.heap.size < (w4.alloc (.cells #[.int .i64 0, .slice none 0 0] 24)).heap.size; simp
  have hO2 := ownsRow_setCell_below (ownsRow_setCell_below hO (a := ⟨w4.heap.size, 0, none⟩) hlt (.int .i64 F)) (a := ⟨w4.heap.size, 1, none⟩) hlt (.slice a5 D.length cap5)
  exact ⟨w4.heap.size, a5, cap5, rfl, rfl, by simp [World.cell?_setCell_other, World.cell?_setCell_same _ _ _ x0], World.cell?_setCell_same _ _ _ (by rw [World.cell?_setCell_other _ _ _ _ (by simp)]; exact x1), Own.ints hO2 hm, Own.nocap hO, (hS.setCell (Nat.le_refl _) _).setCell (Nat.le_refl _) _, Nat.le_refl _⟩

set_option maxRecDepth 100000 in
set_option maxHeartbeats 4000000 in
theorem crewNext_walk (x0 x1 x2 x3 x4 x5 x6 x7 : Int) (pa : Int) (y0 y1 y2 : Int) (w : World) : Calls Try.prog 21 #[.agg #[.int .i64 x0, .int .i64 x1, .int .i64 x2, .int .i64 x3, .int .i64 x4, .int .i64 x5, .int .i64 x6, .int .i64 x7], .int .i64 pa, .agg #[.int .i64 y0, .int .i64 y1, .int .i64 y2]] w fun e w' => e = .returned (.bool true) ∧ Below w.heap.size w w' := by
  go_enter Try.func21, Try.ntmps21
  go_wp2_with fail
  obtain ⟨wb, hwb⟩ : ∃ wb : World, wb = ((w.alloc (.cells #[.int .i64 x0, .int .i64 x1, .int .i64 x2, .int .i64 x3, .int .i64 x4, .int .i64 x5, .int .i64 x6, .int .i64 x7] 128)).alloc (.cells #[.int .i64 y0, .int .i64 y1, .int .i64 y2] 132)) := ⟨_, rfl⟩
  have hbb : Below w.heap.size w wb := by
    rw [hwb]; exact (Below.new w _).alloc (by simp) _
  have hh0 : wb.heap[w.heap.size]? = some (.cells #[.int .i64 x0, .int .i64 x1, .int .i64 x2, .int .i64 x3, .int .i64 x4, .int .i64 x5, .int .i64 x6, .int .i64 x7] 128 (0, 0)) := by
    rw [hwb, heap_alloc_lt (by simp; try omega)]
    have := heap_alloc_new w (.cells #[.int .i64 x0, .int .i64 x1, .int .i64 x2, .int .i64 x3, .int .i64 x4, .int .i64 x5, .int .i64 x6, .int .i64 x7] 128)
    simpa using this
  have hh1 : wb.heap[w.heap.size + 1]? = some (.cells #[.int .i64 y0, .int .i64 y1, .int .i64 y2] 132 (0, 0)) := by
    rw [hwb]
    have := heap_alloc_new (w.alloc (.cells #[.int .i64 x0, .int .i64 x1, .int .i64 x2, .int .i64 x3, .int .i64 x4, .int .i64 x5, .int .i64 x6, .int .i64 x7] 128)) (.cells #[.int .i64 y0, .int .i64 y1, .int .i64 y2] 132)
    simpa using this
  rw [← hwb]
  clear hwb
  refine Calls.mono (works_any _) ?_
  rintro e w1 ⟨rfl, hb1⟩
  have q0 : w1.cell? ⟨w.heap.size, 0, none⟩ = some (.int .i64 x0) := keepc hb1 (cell_of_row _ _ 0 _ _ _ hh0)
  have q1 : w1.cell? ⟨w.heap.size, 1, none⟩ = some (.int .i64 x1) := keepc hb1 (cell_of_row _ _ 1 _ _ _ hh0)
  have q2 : w1.cell? ⟨w.heap.size, 2, none⟩ = some (.int .i64 x2) := keepc hb1 (cell_of_row _ _ 2 _ _ _ hh0)
  have q3 : w1.cell? ⟨w.heap.size, 3, none⟩ = some (.int .i64 x3) := keepc hb1 (cell_of_row _ _ 3 _ _ _ hh0)
  have q4 : w1.cell? ⟨w.heap.size, 4, none⟩ = some (.int .i64 x4) := keepc hb1 (cell_of_row _ _ 4 _ _ _ hh0)
  have q5 : w1.cell? ⟨w.heap.size, 5, none⟩ = some (.int .i64 x5) := keepc hb1 (cell_of_row _ _ 5 _ _ _ hh0)
  have q6 : w1.cell? ⟨w.heap.size, 6, none⟩ = some (.int .i64 x6) := keepc hb1 (cell_of_row _ _ 6 _ _ _ hh0)
  have q7 : w1.cell? ⟨w.heap.size, 7, none⟩ = some (.int .i64 x7) := keepc hb1 (cell_of_row _ _ 7 _ _ _ hh0)
  have r0 : w1.cell? ⟨w.heap.size + 1, 0, none⟩ = some (.int .i64 y0) := keepc hb1 (cell_of_row _ _ 0 _ _ _ hh1)
  have r1 : w1.cell? ⟨w.heap.size + 1, 1, none⟩ = some (.int .i64 y1) := keepc hb1 (cell_of_row _ _ 1 _ _ _ hh1)
  have r2 : w1.cell? ⟨w.heap.size + 1, 2, none⟩ = some (.int .i64 y2) := keepc hb1 (cell_of_row _ _ 2 _ _ _ hh1)
  go_wp2_with fail
  refine Calls.mono (mk_good x0 x1 x2 x3 x4 x5 x6 x7 _) ?_
  rintro e w2 ⟨F, L, a, cap, HG, rfl, hO, hb2⟩
  have hlen := goodC_len HG.out
  have hf0 := hlen.1
  have hf2 := hlen.2.1
  have hl7 : L.length ≤ 7 := by have := hlen.2.2; omega
  have hl1 : 1 ≤ L.length := by have := hlen.2.2; omega
  obtain ⟨c0, c1⟩ := crew_box (w := w2) (F := F) (v := .slice a L.length cap)
  have HI := Lib.hid ((Own.ints hO (by omega)).alloc (.cells #[.int .i64 F, .slice a L.length cap] 24))
  have HN := Lib.hid (Own.nocap hO)
  have HB := Lib.hid (Below.step (Below.step (Below.step hbb hb1) hb2) (Below.new w2 (.cells #[.int .i64 F, .slice a L.length cap] 24)))
  have hb23 := Below.step hb2 (Below.new w2 (.cells #[.int .i64 F, .slice a L.length cap] 24))
  have r0 := keepc hb23 r0
  have r1 := keepc hb23 r1
  have r2 := keepc hb23 r2
  clear hb23
  clear hh1 hlen hO hb1 hb2 hbb hh0 q0 q1 q2 q3 q4 q5 q6 q7
  have HW3 : Hid (w2.heap.size < (w2.alloc (.cells #[.int .i64 F, .slice a L.length cap] 24)).heap.size) := Lib.hid (by simp)
  go_wp2_with fail
  generalize (w2.alloc (.cells #[.int .i64 F, .slice a L.length cap] 24)) = w3 at *
  have hI0 := HI.out
  have hk0 := bringI_nonneg y1 L.length
  have hk1 := bringI_lt y1 (n := L.length) (by omega)
  obtain ⟨k, hk⟩ := Int.eq_ofNat_of_zero_le hk0
  have hkl : k < L.length := by omega
  have hkl' : (k : Int) < L.length := by omega
  have hkl0 : (0 : Int) ≤ k := by omega
  have hln : (0 : Int) < L.length := by omega
  have hln2 : (L.length : Int) ≤ 4611686018427387904 := by omega
  have HK := Lib.hid hk
  obtain ⟨b, off, rfl, hbb, hc⟩ := hI0.at_lt hkl
  have hcell := hc k hkl
  obtain ⟨o, ho⟩ : ∃ o, o = L[k] := ⟨_, rfl⟩
  rw [← ho] at hcell
  have HO : Hid (o ∈ L) := Lib.hid (by rw [ho]; exact List.getElem_mem _)
  clear hI0 hk0 hk1 hk hc ho
  go_quiet ((go_at_call 32; exact quiet_of_eq (bring_is HK.out _ hln hln2)))
  have hv0 := bringI_nonneg y2 28
  have hv1 := bringI_lt y2 (n := 28) (by omega)
  obtain ⟨v, hv⟩ : ∃ v, v = bringI y2 28 := ⟨_, rfl⟩
  rw [← hv] at hv0 hv1
  have HV := Lib.hid hv.symm
  clear hv
  have uv : IntKind.i64.wrap (1 + v) = 1 + v := IntWalk.i64_in _ (by omega)
  have c0 : (w3.drewN nq).cell? ⟨w2.heap.size, 0, none⟩ = some (.int .i64 F) := c0
  have c1 : (w3.drewN nq).cell? ⟨w2.heap.size, 1, none⟩ = some (.slice (some ⟨b, off, none⟩) L.length cap) := c1
  have r0 : (w3.drewN nq).cell? ⟨w.heap.size + 1, 0, none⟩ = some (.int .i64 y0) := r0
  have r2 : (w3.drewN nq).cell? ⟨w.heap.size + 1, 2, none⟩ = some (.int .i64 y2) := r2
  have HI : Hid (Ints (w3.drewN nq) (some ⟨b, off, none⟩) L) := Lib.hid HI.out
  have HB := Lib.hid (below_drewN HB.out nq)
  go_wp2_with fail
  generalize w3.drewN nq = w4 at *
  have hS : Below w4.heap.size w4 w4 := Below.refl _ _
  have n0 := World.new_ne w4 _ c0
  have n1 := World.new_ne w4 _ c1
  have n2 := World.new_ne w4 _ r2
  by_cases hx : 1 + v ∈ L
  · have HX := Lib.hid hx
    clear hx
    have HR := Lib.hid (rep_not HG.out HO.out (by omega) (by omega) HX.out)
    go_region_held3 (fun w' => w'.cell? ⟨w2.heap.size, 0, none⟩ = some (.int .i64 F) ∧ w'.cell? ⟨w2.heap.size, 1, none⟩ = some (.slice (some ⟨b, off, none⟩) L.length cap) ∧ w'.cell? ⟨w.heap.size + 1, 2, none⟩ = some (.int .i64 y2))
      (first
        | go_keep | assumption | exact ⟨keepc hS c0, keepc hS c1, keepc hS r2⟩ | exact ⟨keepc (Below.step hS (Below.new _ _)) c0, keepc (Below.step hS (Below.new _ _)) c1, keepc (Below.step hS (Below.new _ _)) r2⟩)
      ((first
        | (go_at_call 32; refine Calls.mono (bring_is HV.out _ (by omega) (by omega)) ?_; rintro e wc ⟨rfl, rfl⟩)
        | (go_at_call 82; (with_reducible refine Calls.mono (rep_is HR.out (some ⟨b, off, none⟩) cap _ ?hI ?hN ?hr) ?_); (case hI => exact (Ints.below HI.out (by first | exact hS | exact hS.drew | exact Below.step hS (Below.new _ _) | exact (Below.step hS (Below.new _ _)).drew))); (case hN => exact HN.out); (case hr => exact (by omega)); rintro e wc ⟨a5, cap5, rfl, hO5, hb⟩; have hS : Below w4.heap.size w4 wc := (by first | exact Below.step hS hb | exact Below.stepD hS hb | exact Below.step (Below.step hS (Below.new _ _)) hb | exact Below.stepD (Below.step hS (Below.new _ _)) hb); (try have x0 : wc.cell? ⟨w4.heap.size, 0, none⟩ = some (.int .i64 0) := keepc hb (by exact cell_of_row _ _ 0 _ _ _ (heap_alloc_new w4 (.cells #[.int .i64 0, .slice none 0 0] 24)))); (try have x1 : wc.cell? ⟨w4.heap.size, 1, none⟩ = some (.slice none 0 0) := keepc hb (by exact cell_of_row _ _ 1 _ _ _ (heap_alloc_new w4 (.cells #[.int .i64 0, .slice none 0 0] 24)))); (try have z0 : wc.frozen? ⟨w4.heap.size, 0, none⟩ = false := keepf hb (by show w4.heap.size < (w4.alloc (.cells #[.int .i64 0, .slice none 0 0] 24)).heap.size; simp) (by exact frozen_of_row _ _ 0 _ _ (heap_alloc_new w4 (.cells #[.int .i64 0, .slice none 0 0] 24)))); (try have z1 : wc.frozen? ⟨w4.heap.size, 1, none⟩ = false := keepf hb (by show w4.heap.size < (w4.alloc (.cells #[.int .i64 0, .slice none 0 0] 24)).heap.size; simp) (by exact frozen_of_row _ _ 1 _ _ (heap_alloc_new w4 (.cells #[.int .i64 0, .slice none 0 0] 24)))))))
    all_goals
      go_wp2
      go_ret
      exact ⟨rfl, (by first | exact Below.step HB.out (Below.step hS (Below.new _ _)) | exact Below.step HB.out ((hS.setCell (Nat.le_refl _) _).setCell (Nat.le_refl _) _))⟩
  · have HX := Lib.hid hx
    clear hx
    obtain ⟨hm, hr⟩ := rep_may HG.out HO.out (show 1 ≤ 1 + v by omega) (by omega) HX.out
    obtain ⟨D, hD⟩ : ∃ D, D = repL F L o (1 + v) := ⟨_, rfl⟩
    have hgd := repL_good hm
    have hr' : repF F L o (1 + v) = F ∧ repL F L o (1 + v) = D ∧ repE F L o (1 + v) = 0 := ⟨hr.1, hD.symm, hr.2.2⟩
    have HNL : Hid (∀ p q : Nat → Bool, 2 * F + 1 ≤ ((pick p L).length : Int) → 2 * F + 1 ≤ ((pick q D).length : Int) → F ≤ (pairs (pick p L) (pick q D) : Int)) := Lib.hid (by rw [hD]; exact next_law hm)
    rw [← hD] at hgd
    have hdl : D.length ≤ 7 := by have := (goodC_len hgd).2.2; omega
    have HR := Lib.hid hr'
    have HGD := Lib.hid hgd
    clear hm hr hD hgd hr'
    go_cut [9, 10] (fun dv ev wx => DBox w4 F D dv ev wx)
    case first =>
      go_region_held3 (fun w' => w'.cell? ⟨w2.heap.size, 0, none⟩ = some (.int .i64 F) ∧ w'.cell? ⟨w2.heap.size, 1, none⟩ = some (.slice (some ⟨b, off, none⟩) L.length cap) ∧ w'.cell? ⟨w.heap.size + 1, 2, none⟩ = some (.int .i64 y2))
        (first
          | go_keep | assumption | exact ⟨keepc hS c0, keepc hS c1, keepc hS r2⟩ | exact ⟨keepc (Below.step hS (Below.new _ _)) c0, keepc (Below.step hS (Below.new _ _)) c1, keepc (Below.step hS (Below.new _ _)) r2⟩)
        ((first
          | (go_at_call 32; refine Calls.mono (bring_is HV.out _ (by omega) (by omega)) ?_; rintro e wc ⟨rfl, rfl⟩)
          | (go_at_call 82; (with_reducible refine Calls.mono (rep_is HR.out (some ⟨b, off, none⟩) cap _ ?hI ?hN ?hr) ?_); (case hI => exact (Ints.below HI.out (by first | exact hS | exact hS.drew | exact Below.step hS (Below.new _ _) | exact (Below.step hS (Below.new _ _)).drew))); (case hN => exact HN.out); (case hr => exact (by omega)); rintro e wc ⟨a5, cap5, rfl, hO5, hb⟩; have hS : Below w4.heap.size w4 wc := (by first | exact Below.step hS hb | exact Below.stepD hS hb | exact Below.step (Below.step hS (Below.new _ _)) hb | exact Below.stepD (Below.step hS (Below.new _ _)) hb); (try have x0 : wc.cell? ⟨w4.heap.size, 0, none⟩ = some (.int .i64 0) := keepc hb (by exact cell_of_row _ _ 0 _ _ _ (heap_alloc_new w4 (.cells #[.int .i64 0, .slice none 0 0] 24)))); (try have x1 : wc.cell? ⟨w4.heap.size, 1, none⟩ = some (.slice none 0 0) := keepc hb (by exact cell_of_row _ _ 1 _ _ _ (heap_alloc_new w4 (.cells #[.int .i64 0, .slice none 0 0] 24)))); (try have z0 : wc.frozen? ⟨w4.heap.size, 0, none⟩ = false := keepf hb (by show w4.heap.size < (w4.alloc (.cells #[.int .i64 0, .slice none 0 0] 24)).heap.size; simp) (by exact frozen_of_row _ _ 0 _ _ (heap_alloc_new w4 (.cells #[.int .i64 0, .slice none 0 0] 24)))); (try have z1 : wc.frozen? ⟨w4.heap.size, 1, none⟩ = false := keepf hb (by show w4.heap.size < (w4.alloc (.cells #[.int .i64 0, .slice none 0 0] 24)).heap.size; simp) (by exact frozen_of_row _ _ 1 _ _ (heap_alloc_new w4 (.cells #[.int .i64 0, .slice none 0 0] 24)))))))
      all_goals
        go_wp2_with fail
        go_meet
        first
          | exact DBox.new hS (Own.ints hO5 (by omega)) (Own.nocap hO5)
          | exact DBox.old hS hb hO5 (by omega) x0 x1
    case rest =>
      obtain ⟨g, a5, cap5, rfl, rfl, d0, d1, hID, hND, hB4, hg⟩ := hcut
      have c0 := keepc hB4 c0
      have c1 := keepc hB4 c1
      have r0 := keepc hB4 r0
      have HI := Lib.hid (HI.out.below hB4)
      have HID := Lib.hid hID
      have HB := Lib.hid (Below.step HB.out hB4)
      clear hID hND hB4 hg hS n0 n1 n2 r2
      go_wp2_with fail
      have hS : Below wc.heap.size wc wc := Below.refl _ _
      obtain ⟨we, rfl⟩ : ∃ we : World, we = wc := ⟨_, rfl⟩
      go_region_held3 (fun w' => w'.cell? ⟨w2.heap.size, 0, none⟩ = some (.int .i64 F) ∧ w'.cell? ⟨w2.heap.size, 1, none⟩ = some (.slice (some ⟨b, off, none⟩) L.length cap) ∧ w'.cell? ⟨g, 0, none⟩ = some (.int .i64 F) ∧ w'.cell? ⟨g, 1, none⟩ = some (.slice a5 D.length cap5) ∧ w'.cell? ⟨w.heap.size + 1, 0, none⟩ = some (.int .i64 y0))
        (first
          | go_keep | assumption | exact ⟨keepc hS c0, keepc hS c1, keepc hS d0, keepc hS d1, keepc hS r0⟩ | exact ⟨keepc (Below.step hS (Below.new _ _)) c0, keepc (Below.step hS (Below.new _ _)) c1, keepc (Below.step hS (Below.new _ _)) d0, keepc (Below.step hS (Below.new _ _)) d1, keepc (Below.step hS (Below.new _ _)) r0⟩)
        ((first
          | (go_at_call 89; (with_reducible refine Calls.mono (pick_get F (some ⟨b, off, none⟩) cap L pa _ ?hI hl7) ?_); (case hI => exact (Ints.below HI.out (by first | exact hS | exact hS.drew | exact Below.step hS (Below.new _ _) | exact (Below.step hS (Below.new _ _)).drew))); rintro e wc ⟨ma, aa, capa, HMa, rfl, hIa, hb⟩; have hS : Below we.heap.size we wc := (by first | exact Below.step hS hb | exact Below.stepD hS hb | exact Below.step (Below.step hS (Below.new _ _)) hb | exact Below.stepD (Below.step hS (Below.new _ _)) hb))
          | (go_at_call 89; (with_reducible refine Calls.mono (pick_get F a5 cap5 D y0 _ ?hI hdl) ?_); (case hI => exact (Ints.below HID.out (by first | exact hS | exact hS.drew | exact Below.step hS (Below.new _ _) | exact (Below.step hS (Below.new _ _)).drew))); rintro e wc ⟨mb, ab, capb, HMb, rfl, hIb, hb⟩; have hS : Below we.heap.size we wc := (by first | exact Below.step hS hb | exact Below.stepD hS hb | exact Below.step (Below.step hS (Below.new _ _)) hb | exact Below.stepD (Below.step hS (Below.new _ _)) hb); have hIa := Ints.below hIa hb)))
      have c0 := keepc hS c0
      have c1 := keepc hS c1
      have d0 := keepc hS d0
      have d1 := keepc hS d1
      have HI := Lib.hid (HI.out.below hS)
      have HID := Lib.hid (HID.out.below hS)
      have HB := Lib.hid (Below.step HB.out hS)
      have HIa := Lib.hid hIa
      have HIb := Lib.hid hIb
      have hla : ma.length ≤ 7 := by rw [HMa.out]; have := pick_len (bitP pa) L; omega
      have hlb : mb.length ≤ 7 := by rw [HMb.out]; have := pick_len (bitP y0) D; omega
      clear hS hIa hIb r0 hb
      obtain ⟨wf, rfl⟩ : ∃ wf : World, wf = wc := ⟨_, rfl⟩
      obtain ⟨Va, hVa⟩ : ∃ Va, Va = votesC F L ma := ⟨_, rfl⟩
      obtain ⟨Vb, hVb⟩ : ∃ Vb, Vb = votesC F D mb := ⟨_, rfl⟩
      obtain ⟨M, hM⟩ : ∃ M, M = mostC F L := ⟨_, rfl⟩
      have hMD : mostC F D = M := by rw [hM]; simp [mostC, HG.out, HGD.out]
      have t1 : ¬ Va < M → ¬ Vb < M → F ≤ (pairs ma mb : Int) := by
        intro h1 h2
        have eM : M = 2 * F + 1 := by rw [hM]; simp [mostC, HG.out]
        have ea : Va = (ma.length : Int) := by rw [hVa, HMa.out, votes_pick HG.out]
        have eb : Vb = (mb.length : Int) := by rw [hVb, HMb.out, votes_pick HGD.out]
        have := HNL.out (bitP pa) (bitP y0) (by rw [← HMa.out]; omega) (by rw [← HMb.out]; omega)
        rw [← HMa.out, ← HMb.out] at this
        exact this
      have HM := Lib.hid hM.symm
      have HMD := Lib.hid hMD
      have HVa := Lib.hid hVa.symm
      have HVb := Lib.hid hVb.symm
      have T1 := Lib.hid t1
      clear hM hMD hVa hVb t1
      go_wp2_with fail
      have hS : Below wf.heap.size wf wf := Below.refl _ _
      by_cases h1 : Va < M
      · first
          | (go_region_with (first
              | (go_at_call 86; (with_reducible refine Calls.mono (votes_is HVa.out (some ⟨b, off, none⟩) cap aa capa _ ?hI ?hJ) ?_); (case hI => exact (Ints.below HI.out (by first | exact hS | exact hS.drew | exact Below.step hS (Below.new _ _) | exact (Below.step hS (Below.new _ _)).drew))); (case hJ => exact (Ints.below HIa.out (by first | exact hS | exact hS.drew | exact Below.step hS (Below.new _ _) | exact (Below.step hS (Below.new _ _)).drew))); rintro e wc ⟨rfl, hb⟩; have hS : Below wf.heap.size wf wc := (by first | exact Below.step hS hb | exact Below.stepD hS hb | exact Below.step (Below.step hS (Below.new _ _)) hb | exact Below.stepD (Below.step hS (Below.new _ _)) hb); have c0 := keepc hb c0; have c1 := keepc hb c1; have d0 := keepc hb d0; have d1 := keepc hb d1)
              | (go_at_call 73; (with_reducible refine Calls.mono (most_is HM.out (some ⟨b, off, none⟩) cap _ ?hI) ?_); (case hI => exact (Ints.below HI.out (by first | exact hS | exact hS.drew | exact Below.step hS (Below.new _ _) | exact (Below.step hS (Below.new _ _)).drew))); rintro e wc ⟨rfl, hb⟩; have hS : Below wf.heap.size wf wc := (by first | exact Below.step hS hb | exact Below.stepD hS hb | exact Below.step (Below.step hS (Below.new _ _)) hb | exact Below.stepD (Below.step hS (Below.new _ _)) hb); have c0 := keepc hb c0; have c1 := keepc hb c1; have d0 := keepc hb d0; have d1 := keepc hb d1)))
          | fail
        all_goals
          go_wp2
          go_ret
          exact ⟨rfl, Below.step HB.out hS⟩
      · have e1 : decide (Va < M) = false := by rw [decide_eq_false_iff_not]; exact h1
        by_cases h2 : Vb < M
        · skip
          go_region_held3 (fun w' => w'.cell? ⟨w2.heap.size, 0, none⟩ = some (.int .i64 F) ∧ w'.cell? ⟨w2.heap.size, 1, none⟩ = some (.slice (some ⟨b, off, none⟩) L.length cap) ∧ w'.cell? ⟨g, 0, none⟩ = some (.int .i64 F) ∧ w'.cell? ⟨g, 1, none⟩ = some (.slice a5 D.length cap5))
            (first
              | go_keep | assumption | exact ⟨keepc hS c0, keepc hS c1, keepc hS d0, keepc hS d1⟩ | exact ⟨keepc (Below.step hS (Below.new _ _)) c0, keepc (Below.step hS (Below.new _ _)) c1, keepc (Below.step hS (Below.new _ _)) d0, keepc (Below.step hS (Below.new _ _)) d1⟩)
            ((first
              | (go_at_call 86; (with_reducible refine Calls.mono (votes_is HVa.out (some ⟨b, off, none⟩) cap aa capa _ ?hI ?hJ) ?_); (case hI => exact (Ints.below HI.out (by first | exact hS | exact hS.drew | exact Below.step hS (Below.new _ _) | exact (Below.step hS (Below.new _ _)).drew))); (case hJ => exact (Ints.below HIa.out (by first | exact hS | exact hS.drew | exact Below.step hS (Below.new _ _) | exact (Below.step hS (Below.new _ _)).drew))); rintro e wc ⟨rfl, hb⟩; have hS : Below wf.heap.size wf wc := (by first | exact Below.step hS hb | exact Below.stepD hS hb | exact Below.step (Below.step hS (Below.new _ _)) hb | exact Below.stepD (Below.step hS (Below.new _ _)) hb))
              | (go_at_call 86; (with_reducible refine Calls.mono (votes_is HVb.out a5 cap5 ab capb _ ?hI ?hJ) ?_); (case hI => exact (Ints.below HID.out (by first | exact hS | exact hS.drew | exact Below.step hS (Below.new _ _) | exact (Below.step hS (Below.new _ _)).drew))); (case hJ => exact (Ints.below HIb.out (by first | exact hS | exact hS.drew | exact Below.step hS (Below.new _ _) | exact (Below.step hS (Below.new _ _)).drew))); rintro e wc ⟨rfl, hb⟩; have hS : Below wf.heap.size wf wc := (by first | exact Below.step hS hb | exact Below.stepD hS hb | exact Below.step (Below.step hS (Below.new _ _)) hb | exact Below.stepD (Below.step hS (Below.new _ _)) hb))
              | (go_at_call 73; (with_reducible refine Calls.mono (most_is HM.out (some ⟨b, off, none⟩) cap _ ?hI) ?_); (case hI => exact (Ints.below HI.out (by first | exact hS | exact hS.drew | exact Below.step hS (Below.new _ _) | exact (Below.step hS (Below.new _ _)).drew))); rintro e wc ⟨rfl, hb⟩; have hS : Below wf.heap.size wf wc := (by first | exact Below.step hS hb | exact Below.stepD hS hb | exact Below.step (Below.step hS (Below.new _ _)) hb | exact Below.stepD (Below.step hS (Below.new _ _)) hb))
              | (go_at_call 73; (with_reducible refine Calls.mono (most_is HMD.out a5 cap5 _ ?hI) ?_); (case hI => exact (Ints.below HID.out (by first | exact hS | exact hS.drew | exact Below.step hS (Below.new _ _) | exact (Below.step hS (Below.new _ _)).drew))); rintro e wc ⟨rfl, hb⟩; have hS : Below wf.heap.size wf wc := (by first | exact Below.step hS hb | exact Below.stepD hS hb | exact Below.step (Below.step hS (Below.new _ _)) hb | exact Below.stepD (Below.step hS (Below.new _ _)) hb))))
          all_goals
            go_wp2
            go_ret
            exact ⟨rfl, Below.step HB.out hS⟩
        · have t3 := Lib.hid (T1.out (by omega) (by omega))
          have e2 : decide (Vb < M) = false := by rw [decide_eq_false_iff_not]; exact h2
          go_region_held3 (fun w' => w'.cell? ⟨w2.heap.size, 0, none⟩ = some (.int .i64 F) ∧ w'.cell? ⟨w2.heap.size, 1, none⟩ = some (.slice (some ⟨b, off, none⟩) L.length cap) ∧ w'.cell? ⟨g, 0, none⟩ = some (.int .i64 F) ∧ w'.cell? ⟨g, 1, none⟩ = some (.slice a5 D.length cap5))
            (first
              | go_keep | assumption | exact ⟨keepc hS c0, keepc hS c1, keepc hS d0, keepc hS d1⟩ | exact ⟨keepc (Below.step hS (Below.new _ _)) c0, keepc (Below.step hS (Below.new _ _)) c1, keepc (Below.step hS (Below.new _ _)) d0, keepc (Below.step hS (Below.new _ _)) d1⟩)
            ((first
              | (go_at_call 86; (with_reducible refine Calls.mono (votes_is HVa.out (some ⟨b, off, none⟩) cap aa capa _ ?hI ?hJ) ?_); (case hI => exact (Ints.below HI.out (by first | exact hS | exact hS.drew | exact Below.step hS (Below.new _ _) | exact (Below.step hS (Below.new _ _)).drew))); (case hJ => exact (Ints.below HIa.out (by first | exact hS | exact hS.drew | exact Below.step hS (Below.new _ _) | exact (Below.step hS (Below.new _ _)).drew))); rintro e wc ⟨rfl, hb⟩; have hS : Below wf.heap.size wf wc := (by first | exact Below.step hS hb | exact Below.stepD hS hb | exact Below.step (Below.step hS (Below.new _ _)) hb | exact Below.stepD (Below.step hS (Below.new _ _)) hb))
              | (go_at_call 86; (with_reducible refine Calls.mono (votes_is HVb.out a5 cap5 ab capb _ ?hI ?hJ) ?_); (case hI => exact (Ints.below HID.out (by first | exact hS | exact hS.drew | exact Below.step hS (Below.new _ _) | exact (Below.step hS (Below.new _ _)).drew))); (case hJ => exact (Ints.below HIb.out (by first | exact hS | exact hS.drew | exact Below.step hS (Below.new _ _) | exact (Below.step hS (Below.new _ _)).drew))); rintro e wc ⟨rfl, hb⟩; have hS : Below wf.heap.size wf wc := (by first | exact Below.step hS hb | exact Below.stepD hS hb | exact Below.step (Below.step hS (Below.new _ _)) hb | exact Below.stepD (Below.step hS (Below.new _ _)) hb))
              | (go_at_call 73; (with_reducible refine Calls.mono (most_is HM.out (some ⟨b, off, none⟩) cap _ ?hI) ?_); (case hI => exact (Ints.below HI.out (by first | exact hS | exact hS.drew | exact Below.step hS (Below.new _ _) | exact (Below.step hS (Below.new _ _)).drew))); rintro e wc ⟨rfl, hb⟩; have hS : Below wf.heap.size wf wc := (by first | exact Below.step hS hb | exact Below.stepD hS hb | exact Below.step (Below.step hS (Below.new _ _)) hb | exact Below.stepD (Below.step hS (Below.new _ _)) hb))
              | (go_at_call 73; (with_reducible refine Calls.mono (most_is HMD.out a5 cap5 _ ?hI) ?_); (case hI => exact (Ints.below HID.out (by first | exact hS | exact hS.drew | exact Below.step hS (Below.new _ _) | exact (Below.step hS (Below.new _ _)).drew))); rintro e wc ⟨rfl, hb⟩; have hS : Below wf.heap.size wf wc := (by first | exact Below.step hS hb | exact Below.stepD hS hb | exact Below.step (Below.step hS (Below.new _ _)) hb | exact Below.stepD (Below.step hS (Below.new _ _)) hb))))
          have c0 := keepc hS c0
          have c1 := keepc hS c1
          have HIa := Lib.hid (HIa.out.below hS)
          have HIb := Lib.hid (HIb.out.below hS)
          have HB := Lib.hid (Below.step HB.out hS)
          clear hS hb h1 h2 e1 e2 d0 d1
          obtain ⟨wg, rfl⟩ : ∃ wg : World, wg = wc := ⟨_, rfl⟩
          go_wp2_with fail
          go_loopw [13, 14] (fun bv i wr => ∃ k p : Nat, k ≤ ma.length ∧ p ≤ 7 * k ∧ i = .int .i64 k ∧ bv = .int .i64 p ∧ Hid (p = pairs (ma.take k) mb) ∧ Below wg.heap.size wg wr) (fun _ i _ => ma.length - (intOf i).toNat)
          case atStart => exact ⟨0, 0, by omega, by omega, rfl, rfl, Lib.hid (by simp [pairs]), Below.refl _ _⟩
          case round =>
            obtain ⟨k, p, hk, hp, rfl, rfl, HP, hbr⟩ := hrel
            have c0 := keepc hbr c0
            by_cases hlt : k < ma.length
            · obtain ⟨ba, oa, rfl, hba, hca⟩ := (HIa.out.below hbr).at_lt hlt
              have hx0 := hca k hlt
              obtain ⟨x, hx⟩ : ∃ x, x = ma[k] := ⟨_, rfl⟩
              rw [← hx] at hx0
              have HPS : Hid (pairs (ma.take (k + 1)) mb = p + mb.count x) := Lib.hid (by rw [List.take_succ_eq_append_getElem hlt, pairs_snoc, HP.out, hx])
              obtain ⟨wo, rfl⟩ : ∃ wo : World, wo = wr := ⟨_, rfl⟩
              clear hx hca
              go_wp2_with fail
              go_loopw [13, 15] (fun bv jv wi => ∃ j c : Nat, j ≤ mb.length ∧ c ≤ j ∧ jv = .int .i64 j ∧ bv = .int .i64 ((p + c : Nat) : Int) ∧ Hid (c = (mb.take j).count x) ∧ Below wo.heap.size wo wi) (fun _ j _ => mb.length - (intOf j).toNat)
              case atStart => exact ⟨0, 0, by omega, by omega, rfl, rfl, Lib.hid (by simp), Below.refl _ _⟩
              case round =>
                obtain ⟨j, c, hj, hcj, rfl, rfl, HC, hbi⟩ := hrel
                have hxi : wr.cell? ⟨ba, oa + k, none⟩ = some (.int .i64 x) := keepb hbi (by exact hba) hx0
                by_cases hjl : j < mb.length
                · obtain ⟨bb2, ob, rfl, hbb2, hcb⟩ := (HIb.out.below (Below.step hbr hbi)).at_lt hjl
                  have hyi := hcb j hjl
                  obtain ⟨y, hy⟩ : ∃ y, y = mb[j] := ⟨_, rfl⟩
                  rw [← hy] at hyi
                  have HCS : Hid ((mb.take (j + 1)).count x = c + (if y = x then 1 else 0)) := Lib.hid (by
                    rw [List.take_succ_eq_append_getElem hjl, List.count_append, HC.out, hy]
                    by_cases e : mb[j] = x <;> simp [e, List.count_cons])
                  clear hy hcb
                  by_cases hq : x = y
                  · have hq' : (x == y) = true := by simp [hq]
                    have HQ := Lib.hid hq
                    clear hq
                    go_wp2_with fail
                    go_quiet (fail)
                    go_wp2
                    go_roundw
                    case rel => exact ⟨j + 1, c + 1, by omega, by omega, by go_num, by go_num, Lib.hid (by rw [HCS.out, if_pos HQ.out.symm]), below_drewN hbi _⟩
                    case measure => simp [intOf]; omega
                  · have hq' : (x == y) = false := by simp [hq]
                    have HQ := Lib.hid hq
                    clear hq
                    go_wp2_with fail
                    go_quiet (fail)
                    go_wp2
                    go_roundw
                    case rel => exact ⟨j + 1, c, by omega, by omega, by go_num, by go_num, Lib.hid (by rw [HCS.out, if_neg (fun e => HQ.out e.symm)]; rfl), below_drewN hbi _⟩
                    case measure => simp [intOf]; omega
                · have HCC : Hid (p + c = pairs (ma.take (k + 1)) mb) := Lib.hid (by
                    have := HC.out
                    rw [List.take_of_length_le (by omega)] at this
                    rw [HPS.out, this])
                  have hbo := Below.step hbr hbi
                  go_wp2
                  go_roundw
                  case rel => exact ⟨k + 1, p + c, by omega, by omega, by go_num, by go_num, HCC, hbo⟩
                  case measure => simp [intOf]; omega
            · have hfin : F ≤ (p : Int) := by
                have := HP.out
                rw [List.take_of_length_le (by omega)] at this
                rw [this]; exact t3.out
              go_wp2
              go_ret
              exact ⟨rfl, Below.step HB.out hbr⟩
end Go.Proofs.Ytldcpnabgpjgiaa.Walks
