/-
  The walk of the law CrewThere.
-/
import Derived.Test.YtldcpnabgpjgiaaCrewQ
namespace Go.Proofs.Ytldcpnabgpjgiaa.Walks
open Go.RowKit Plain
set_option linter.unusedVariables false

theorem bring_is {i n r : Int} (h : bringI i n = r) (w : World) (h0 : 0 < n) (h1 : n ≤ 4611686018427387904) :
    Calls Try.prog 32 #[.int .i64 i, .int .i64 n] w fun e w' => e = .returned (.int .i64 r) ∧ w = w' := by subst h; exact bring_any i n w h0 h1
theorem rep_not {f : Int} {l : List Int} {old next : Int} (hg : goodC f l = true) (ho : old ∈ l) (h1 : 1 ≤ next) (h2 : next ≤ 28) (hx : next ∈ l) : repF f l old next = 0 ∧ repL f l old next = [] ∧ repE f l old next = 110 := by
  have hm : mayC f l old next = false := by simp [mayC, hx]
  refine ⟨by simp [repF, hm], by simp [repL, hm], ?_⟩
  rcases repE_node hg ho h1 h2 with h | h
  · exact h.2
  · rw [hm] at h; cases h.1
theorem rep_may {f : Int} {l : List Int} {old next : Int} (hg : goodC f l = true) (ho : old ∈ l) (h1 : 1 ≤ next) (h2 : next ≤ 28) (hx : next ∉ l) : mayC f l old next = true ∧ repF f l old next = f ∧ repL f l old next = repL f l old next ∧ repE f l old next = 0 := by
  rcases repE_node hg ho h1 h2 with h | h
  · exact absurd h.1 hx
  · exact ⟨h.1, h.2.2, rfl, h.2.1⟩

set_option maxRecDepth 100000 in
set_option maxHeartbeats 4000000 in
theorem crewThere_walk (x0 x1 x2 x3 x4 x5 x6 x7 : Int) (pa pb : Int) (w : World) : Calls Try.prog 23 #[.agg #[.int .i64 x0, .int .i64 x1, .int .i64 x2, .int .i64 x3, .int .i64 x4, .int .i64 x5, .int .i64 x6, .int .i64 x7], .int .i64 pa, .int .i64 pb] w fun e w' => e = .returned (.bool true) ∧ Below w.heap.size w w' := by
  go_enter Try.func23, Try.ntmps23
  go_wp2_with fail
  obtain ⟨wb, hwb⟩ : ∃ wb : World, wb = (w.alloc (.cells #[.int .i64 x0, .int .i64 x1, .int .i64 x2, .int .i64 x3, .int .i64 x4, .int .i64 x5, .int .i64 x6, .int .i64 x7] 128)) := ⟨_, rfl⟩
  have hbb : Below w.heap.size w wb := by
    rw [hwb]; exact Below.new w _
  have hh0 : wb.heap[w.heap.size]? = some (.cells #[.int .i64 x0, .int .i64 x1, .int .i64 x2, .int .i64 x3, .int .i64 x4, .int .i64 x5, .int .i64 x6, .int .i64 x7] 128 (0, 0)) := by
    rw [hwb]
    have := heap_alloc_new w (.cells #[.int .i64 x0, .int .i64 x1, .int .i64 x2, .int .i64 x3, .int .i64 x4, .int .i64 x5, .int .i64 x6, .int .i64 x7] 128)
    simpa using this
  rw [← hwb]
  clear hwb
  refine Calls.mono (works_any _) ?_
  rintro e w1 ⟨rfl, hb1⟩
  have q0 : w1.cell? ⟨w.heap.size, 0, none⟩ = some (.int .i64 x0) := keepc hb1 (cell_of_row _ _ 0 _ _ _ hh0)
  have q1 : w1.cell? ⟨w.heap.size, 1, none⟩ = some (.int .i64 x1) := keepc hb1 (cell_of_row _ _ 1 _ _ _ hh0)
  have q2 : w1.cell? ⟨w.heap.size, 2, none⟩ = some (.int .i64 x2) := keepc hb1 (cell_of_row _ _ 2 _ _ _ hh0)
  have q3 : w1.cell? ⟨w.heap.size, 3, none⟩ = some (.int .i64 x3) := keepc hb1 (cell_of_row _ _ 3 _ _ _ hh0)
  have q4 : w1.cell? ⟨w.heap.size, 4, none⟩ = some (.int .i64 x4) := keepc hb1 (cell_of_row _ _ 4 _ _ _ hh0)
  have q5 : w1.cell? ⟨w.heap.size, 5, none⟩ = some (.int .i64 x5) := keepc hb1 (cell_of_row _ _ 5 _ _ _ hh0)
  have q6 : w1.cell? ⟨w.heap.size, 6, none⟩ = some (.int .i64 x6) := keepc hb1 (cell_of_row _ _ 6 _ _ _ hh0)
  have q7 : w1.cell? ⟨w.heap.size, 7, none⟩ = some (.int .i64 x7) := keepc hb1 (cell_of_row _ _ 7 _ _ _ hh0)
  go_wp2_with fail
  refine Calls.mono (mk_good x0 x1 x2 x3 x4 x5 x6 x7 _) ?_
  rintro e w2 ⟨F, L, a, cap, HG, rfl, hO, hb2⟩
  have hlen := goodC_len HG.out
  have hf0 := hlen.1
  have hf2 := hlen.2.1
  have hl7 : L.length ≤ 7 := by have := hlen.2.2; omega
  have hl1 : 1 ≤ L.length := by have := hlen.2.2; omega
  obtain ⟨c0, c1⟩ := crew_box (w := w2) (F := F) (v := .slice a L.length cap)
  have HI := Lib.hid ((Own.ints hO (by omega)).alloc (.cells #[.int .i64 F, .slice a L.length cap] 24))
  have HN := Lib.hid (Own.nocap hO)
  have HB := Lib.hid (Below.step (Below.step (Below.step hbb hb1) hb2) (Below.new w2 (.cells #[.int .i64 F, .slice a L.length cap] 24)))
  clear hlen hO hb1 hb2 hbb hh0 q0 q1 q2 q3 q4 q5 q6 q7
  go_wp2_with fail
  generalize (w2.alloc (.cells #[.int .i64 F, .slice a L.length cap] 24)) = w3 at *
  have hI0 := HI.out
  have hk0 := bringI_nonneg pa L.length
  have hk1 := bringI_lt pa (n := L.length) (by omega)
  obtain ⟨k, hk⟩ := Int.eq_ofNat_of_zero_le hk0
  have hkl : k < L.length := by omega
  have hkl' : (k : Int) < L.length := by omega
  have hkl0 : (0 : Int) ≤ k := by omega
  have hln : (0 : Int) < L.length := by omega
  have hln2 : (L.length : Int) ≤ 4611686018427387904 := by omega
  have HK := Lib.hid hk
  obtain ⟨b, off, rfl, hbb, hc⟩ := hI0.at_lt hkl
  have hcell := hc k hkl
  obtain ⟨o, ho⟩ : ∃ o, o = L[k] := ⟨_, rfl⟩
  rw [← ho] at hcell
  have HO : Hid (o ∈ L) := Lib.hid (by rw [ho]; exact List.getElem_mem _)
  clear hI0 hk0 hk1 hk hc ho
  go_quiet ((go_at_call 32; exact quiet_of_eq (bring_is HK.out _ hln hln2)))
  go_wp2_with fail
  have hv0 := bringI_nonneg pb 28
  have hv1 := bringI_lt pb (n := 28) (by omega)
  refine Calls.mono (bring_any pb 28 _ (by omega) (by omega)) ?_
  rintro e w' ⟨rfl, rfl⟩
  generalize bringI pb 28 = v at *
  have c0 : (w3.drewN nq).cell? ⟨w2.heap.size, 0, none⟩ = some (.int .i64 F) := c0
  have c1 : (w3.drewN nq).cell? ⟨w2.heap.size, 1, none⟩ = some (.slice (some ⟨b, off, none⟩) L.length cap) := c1
  have HI : Hid (Ints (w3.drewN nq) (some ⟨b, off, none⟩) L) := Lib.hid HI.out
  have HB := Lib.hid (below_drewN HB.out nq)
  generalize w3.drewN nq = w4 at *
  go_wp2_with fail
  by_cases hx : 1 + v ∈ L
  · have HX := Lib.hid hx
    clear hx
    refine Calls.mono (rep_is (rep_not HG.out HO.out (by omega) (by omega) HX.out) (some ⟨b, off, none⟩) cap _ HI.out HN.out (by omega)) ?_
    rintro e w5 ⟨a5, cap5, rfl, hO5, hb5⟩
    have c0 := keepc (Below.step hb5 (Below.new w5 (.cells #[.int .i64 0, .slice a5 0 cap5] 24))) c0
    have c1 := keepc (Below.step hb5 (Below.new w5 (.cells #[.int .i64 0, .slice a5 0 cap5] 24))) c1
    have HI := Lib.hid (HI.out.below (Below.step hb5 (Below.new w5 (.cells #[.int .i64 0, .slice a5 0 cap5] 24))))
    have HB := Lib.hid (Below.step HB.out (Below.step hb5 (Below.new w5 (.cells #[.int .i64 0, .slice a5 0 cap5] 24))))
    clear hO5 hb5
    go_wp2_with fail
    refine Calls.mono (has_is (q := true) (by simp [hasC, HG.out, HX.out]) (some ⟨b, off, none⟩) cap _ HI.out (by omega)) ?_
    rintro e w6 ⟨rfl, hb6⟩
    go_wp2
    go_ret
    exact ⟨rfl, Below.step HB.out hb6⟩
  · have HX := Lib.hid hx
    clear hx
    obtain ⟨hm, hr⟩ := rep_may HG.out HO.out (show 1 ≤ 1 + v by omega) (by omega) HX.out
    have HM := Lib.hid hm
    obtain ⟨D, hD⟩ : ∃ D, D = repL F L o (1 + v) := ⟨_, rfl⟩
    have hth := there_law hm
    have hgd := repL_good hm
    rw [← hD] at hth hgd
    have hr' : repF F L o (1 + v) = F ∧ repL F L o (1 + v) = D ∧ repE F L o (1 + v) = 0 := ⟨hr.1, hD.symm, hr.2.2⟩
    have hdl : D.length ≤ 7 := by have := (goodC_len hgd).2.2; omega
    have HR := Lib.hid hr'
    have HTH := Lib.hid hth
    have HGD := Lib.hid hgd
    clear hm hr hD hth hgd hr'
    refine Calls.mono (rep_is HR.out (some ⟨b, off, none⟩) cap _ HI.out HN.out (by omega)) ?_
    rintro e w5 ⟨a5, cap5, rfl, hO5, hb5⟩
    have d01 := crew_box (w := w5) (F := F) (v := .slice a5 D.length cap5)
    have d0 := d01.1
    have d1 := d01.2
    have HID := Lib.hid ((Own.ints hO5 (by omega)).alloc (.cells #[.int .i64 F, .slice a5 D.length cap5] 24))
    have HND := Lib.hid (Own.nocap hO5)
    have hb55 := Below.step hb5 (Below.new w5 (.cells #[.int .i64 F, .slice a5 D.length cap5] 24))
    have c0 := keepc hb55 c0
    have c1 := keepc hb55 c1
    have HI := Lib.hid (HI.out.below hb55)
    have HB := Lib.hid (Below.step HB.out hb55)
    clear hO5 hb5 hb55 d01
    go_wp2_with fail
    generalize (w5.alloc (.cells #[.int .i64 F, .slice a5 D.length cap5] 24)) = w6 at *
    have hob := good_mem HG.out o HO.out
    obtain ⟨hm2, hr2⟩ := rep_may (f := F) (l := D) (old := 1 + v) (next := o) HGD.out (by have := HTH.out.1; simp [hasC] at this; exact this.2) hob.1 hob.2 (by have := HTH.out.2.1; simp [hasC, HGD.out] at this; exact this)
    have HR2 : Hid (repF F D (1 + v) o = F ∧ repL F D (1 + v) o = L ∧ repE F D (1 + v) o = 0) := Lib.hid ⟨hr2.1, HTH.out.2.2.2.2, hr2.2.2⟩
    clear hm2 hr2 hob
    refine Calls.mono (rep_is HR2.out a5 cap5 _ HID.out HND.out (by omega)) ?_
    rintro e w7 ⟨a7, cap7, rfl, hO7, hb7⟩
    have e01 := crew_box (w := w7) (F := F) (v := .slice a7 L.length cap7)
    have e0 := e01.1
    have e1 := e01.2
    have HIE := Lib.hid ((Own.ints hO7 (by omega)).alloc (.cells #[.int .i64 F, .slice a7 L.length cap7] 24))
    have hb77 := Below.step hb7 (Below.new w7 (.cells #[.int .i64 F, .slice a7 L.length cap7] 24))
    have c0 := keepc hb77 c0
    have c1 := keepc hb77 c1
    have d0 := keepc hb77 d0
    have d1 := keepc hb77 d1
    have HI := Lib.hid (HI.out.below hb77)
    have HID := Lib.hid (HID.out.below hb77)
    have HB := Lib.hid (Below.step HB.out hb77)
    clear hO7 hb7 hb77 e01
    go_wp2_with fail
    generalize (w7.alloc (.cells #[.int .i64 F, .slice a7 L.length cap7] 24)) = w8 at *
    obtain ⟨V, hV⟩ : ∃ V, V = votesC F D L := ⟨_, rfl⟩
    have hv : (V == (L.length : Int) - 1) = true := by rw [beq_iff_eq, hV]; exact HTH.out.2.2.1
    have u1 : IntKind.i64.wrap ((L.length : Int) - 1) = (L.length : Int) - 1 := IntWalk.i64_in _ (by omega)
    have HV := Lib.hid hV.symm
    have H1 := Lib.hid HTH.out.1
    have H2 := Lib.hid HTH.out.2.1
    clear hV
    have hS : Below w8.heap.size w8 w8 := Below.refl _ _
    go_region_held3 (fun w' => w'.cell? ⟨w2.heap.size, 0, none⟩ = some (.int .i64 F) ∧ w'.cell? ⟨w2.heap.size, 1, none⟩ = some (.slice (some ⟨b, off, none⟩) L.length cap) ∧ w'.cell? ⟨w5.heap.size, 0, none⟩ = some (.int .i64 F) ∧ w'.cell? ⟨w5.heap.size, 1, none⟩ = some (.slice a5 D.length cap5) ∧ w'.cell? ⟨w7.heap.size, 0, none⟩ = some (.int .i64 F) ∧ w'.cell? ⟨w7.heap.size, 1, none⟩ = some (.slice a7 L.length cap7))
      (first
        | go_keep | assumption | exact ⟨keepc hS c0, keepc hS c1, keepc hS d0, keepc hS d1, keepc hS e0, keepc hS e1⟩)
      ((first
        | (go_at_call 69; (with_reducible refine Calls.mono (check_is (errC_good HGD.out) a5 cap5 _ ?hI) ?_); (case hI => exact (Ints.below HID.out (by first | exact hS | exact hS.drew | exact Below.step hS (Below.new _ _)))); rintro e wc ⟨rfl, hb⟩; have hS : Below w8.heap.size w8 wc := (by first | exact Below.step hS hb | exact Below.stepD hS hb | exact Below.step (Below.step hS (Below.new _ _)) hb))
        | (go_at_call 79; (with_reducible refine Calls.mono (has_is H1.out a5 cap5 _ ?hI ?hr) ?_); (case hI => exact (Ints.below HID.out (by first | exact hS | exact hS.drew | exact Below.step hS (Below.new _ _)))); (case hr => exact (by omega)); rintro e wc ⟨rfl, hb⟩; have hS : Below w8.heap.size w8 wc := (by first | exact Below.step hS hb | exact Below.stepD hS hb | exact Below.step (Below.step hS (Below.new _ _)) hb))
        | (go_at_call 79; (with_reducible refine Calls.mono (has_is H2.out a5 cap5 _ ?hI ?hr) ?_); (case hI => exact (Ints.below HID.out (by first | exact hS | exact hS.drew | exact Below.step hS (Below.new _ _)))); (case hr => exact (by omega)); rintro e wc ⟨rfl, hb⟩; have hS : Below w8.heap.size w8 wc := (by first | exact Below.step hS hb | exact Below.stepD hS hb | exact Below.step (Below.step hS (Below.new _ _)) hb))
        | (go_at_call 86; (with_reducible refine Calls.mono (votes_is HV.out a5 cap5 _ _ _ ?hI ?hJ) ?_); (case hI => exact (Ints.below HID.out (by first | exact hS | exact hS.drew | exact Below.step hS (Below.new _ _)))); (case hJ => exact (Ints.below HI.out (by first | exact hS | exact hS.drew | exact Below.step hS (Below.new _ _)))); rintro e wc ⟨rfl, hb⟩; have hS : Below w8.heap.size w8 wc := (by first | exact Below.step hS hb | exact Below.stepD hS hb | exact Below.step (Below.step hS (Below.new _ _)) hb))
        | (go_at_call 31; (with_reducible refine Calls.mono (same_true (l := L) (l' := L) rfl rfl _ _ _ _ _ ?hI ?hJ) ?_); (case hI => exact (Ints.below HIE.out (by first | exact hS | exact hS.drew | exact Below.step hS (Below.new _ _)))); (case hJ => exact (Ints.below HI.out (by first | exact hS | exact hS.drew | exact Below.step hS (Below.new _ _)))); rintro e wc ⟨rfl, hb⟩; have hS : Below w8.heap.size w8 wc := (by first | exact Below.step hS hb | exact Below.stepD hS hb | exact Below.step (Below.step hS (Below.new _ _)) hb))))
    all_goals
      go_wp2
      go_ret
      exact ⟨rfl, Below.step HB.out hS⟩
end Go.Proofs.Ytldcpnabgpjgiaa.Walks
