/-
  The walk of the law CrewMeet.
-/
import Derived.Test.YtldcpnabgpjgiaaCrewQ
import Derived.Test.YtldcpnabgpjgiaaCrewBits
namespace Go.Proofs.Ytldcpnabgpjgiaa.Walks
open Go.RowKit Plain
set_option linter.unusedVariables false

theorem pick_get (f : Int) (a : Option Addr) (cap : Nat) (l : List Int) (b : Int) (w : World) (hI : Ints w a l) (hr : l.length ≤ 7) :
    Calls Try.prog 89 #[.agg #[.int .i64 f, .slice a l.length cap], .int .i64 b] w fun e w' => ∃ (m : List Int) (a' : Option Addr) (cap' : Nat), Hid (m = pick (bitP b) l) ∧ e = .returned (.slice a' m.length cap') ∧ Ints w' a' m ∧ Below w.heap.size w w' := by
  refine Calls.mono (pick_any f a cap l b w hI hr) ?_
  rintro e w' ⟨a', cap', rfl, h1, h2⟩
  exact ⟨_, a', cap', Lib.hid rfl, rfl, h1.ints (by have := pick_len (bitP b) l; omega), h2⟩

set_option maxRecDepth 100000 in
set_option maxHeartbeats 4000000 in
theorem crewMeet_walk (x0 x1 x2 x3 x4 x5 x6 x7 : Int) (pa pb : Int) (w : World) : Calls Try.prog 19 #[.agg #[.int .i64 x0, .int .i64 x1, .int .i64 x2, .int .i64 x3, .int .i64 x4, .int .i64 x5, .int .i64 x6, .int .i64 x7], .int .i64 pa, .int .i64 pb] w fun e w' => e = .returned (.bool true) ∧ Below w.heap.size w w' := by
  go_enter Try.func19, Try.ntmps19
  go_wp2_with fail
  obtain ⟨wb, hwb⟩ : ∃ wb : World, wb = (w.alloc (.cells #[.int .i64 x0, .int .i64 x1, .int .i64 x2, .int .i64 x3, .int .i64 x4, .int .i64 x5, .int .i64 x6, .int .i64 x7] 128)) := ⟨_, rfl⟩
  have hbb : Below w.heap.size w wb := by
    rw [hwb]; exact Below.new w _
  have hh0 : wb.heap[w.heap.size]? = some (.cells #[.int .i64 x0, .int .i64 x1, .int .i64 x2, .int .i64 x3, .int .i64 x4, .int .i64 x5, .int .i64 x6, .int .i64 x7] 128 (0, 0)) := by
    rw [hwb]
    have := heap_alloc_new w (.cells #[.int .i64 x0, .int .i64 x1, .int .i64 x2, .int .i64 x3, .int .i64 x4, .int .i64 x5, .int .i64 x6, .int .i64 x7] 128)
    simpa using this
  rw [← hwb]
  clear hwb
  refine Calls.mono (works_any _) ?_
  rintro e w1 ⟨rfl, hb1⟩
  have q0 : w1.cell? ⟨w.heap.size, 0, none⟩ = some (.int .i64 x0) := keepc hb1 (cell_of_row _ _ 0 _ _ _ hh0)
  have q1 : w1.cell? ⟨w.heap.size, 1, none⟩ = some (.int .i64 x1) := keepc hb1 (cell_of_row _ _ 1 _ _ _ hh0)
  have q2 : w1.cell? ⟨w.heap.size, 2, none⟩ = some (.int .i64 x2) := keepc hb1 (cell_of_row _ _ 2 _ _ _ hh0)
  have q3 : w1.cell? ⟨w.heap.size, 3, none⟩ = some (.int .i64 x3) := keepc hb1 (cell_of_row _ _ 3 _ _ _ hh0)
  have q4 : w1.cell? ⟨w.heap.size, 4, none⟩ = some (.int .i64 x4) := keepc hb1 (cell_of_row _ _ 4 _ _ _ hh0)
  have q5 : w1.cell? ⟨w.heap.size, 5, none⟩ = some (.int .i64 x5) := keepc hb1 (cell_of_row _ _ 5 _ _ _ hh0)
  have q6 : w1.cell? ⟨w.heap.size, 6, none⟩ = some (.int .i64 x6) := keepc hb1 (cell_of_row _ _ 6 _ _ _ hh0)
  have q7 : w1.cell? ⟨w.heap.size, 7, none⟩ = some (.int .i64 x7) := keepc hb1 (cell_of_row _ _ 7 _ _ _ hh0)
  go_wp2_with fail
  refine Calls.mono (mk_good x0 x1 x2 x3 x4 x5 x6 x7 _) ?_
  rintro e w2 ⟨F, L, a, cap, HG, rfl, hO, hb2⟩
  have hlen := goodC_len HG.out
  have hf0 := hlen.1
  have hf2 := hlen.2.1
  have hl7 : L.length ≤ 7 := by have := hlen.2.2; omega
  have hl1 : 1 ≤ L.length := by have := hlen.2.2; omega
  obtain ⟨c0, c1⟩ := crew_box (w := w2) (F := F) (v := .slice a L.length cap)
  have HI := Lib.hid ((Own.ints hO (by omega)).alloc (.cells #[.int .i64 F, .slice a L.length cap] 24))
  have HN := Lib.hid (Own.nocap hO)
  have HB := Lib.hid (Below.step (Below.step (Below.step hbb hb1) hb2) (Below.new w2 (.cells #[.int .i64 F, .slice a L.length cap] 24)))
  clear hlen hO hb1 hb2 hbb hh0 q0 q1 q2 q3 q4 q5 q6 q7
  go_wp2_with fail
  generalize (w2.alloc (.cells #[.int .i64 F, .slice a L.length cap] 24)) = w3 at *
  have hS : Below w3.heap.size w3 w3 := Below.refl _ _
  obtain ⟨pc, hpc⟩ : ∃ pc, pc = bits .and .i64 pa pb := ⟨_, rfl⟩
  have HPC := Lib.hid hpc
  have hpc' := hpc.symm
  clear hpc
  go_region_held3 (fun w' => w'.cell? ⟨w2.heap.size, 0, none⟩ = some (.int .i64 F) ∧ w'.cell? ⟨w2.heap.size, 1, none⟩ = some (.slice a L.length cap))
    (first
      | go_keep | assumption | exact ⟨keepc hS c0, keepc hS c1⟩)
    ((first
      | (go_at_call 89; (with_reducible refine Calls.mono (pick_get F a cap L pa _ ?hI hl7) ?_); (case hI => exact (Ints.below HI.out (by first | exact hS | exact hS.drew | exact Below.step hS (Below.new _ _)))); rintro e wc ⟨ma, aa, capa, HMa, rfl, hIa, hb⟩; have hS : Below w3.heap.size w3 wc := (by first | exact Below.step hS hb | exact Below.stepD hS hb | exact Below.step (Below.step hS (Below.new _ _)) hb))
      | (go_at_call 89; (with_reducible refine Calls.mono (pick_get F a cap L pb _ ?hI hl7) ?_); (case hI => exact (Ints.below HI.out (by first | exact hS | exact hS.drew | exact Below.step hS (Below.new _ _)))); rintro e wc ⟨mb, ab, capb, HMb, rfl, hIb, hb⟩; have hS : Below w3.heap.size w3 wc := (by first | exact Below.step hS hb | exact Below.stepD hS hb | exact Below.step (Below.step hS (Below.new _ _)) hb); have hIa := Ints.below hIa hb)
      | (go_at_call 89; (with_reducible refine Calls.mono (pick_get F a cap L pc _ ?hI hl7) ?_); (case hI => exact (Ints.below HI.out (by first | exact hS | exact hS.drew | exact Below.step hS (Below.new _ _)))); rintro e wc ⟨mc, ac, capc, HMc, rfl, hIc, hb⟩; have hS : Below w3.heap.size w3 wc := (by first | exact Below.step hS hb | exact Below.stepD hS hb | exact Below.step (Below.step hS (Below.new _ _)) hb); have hIa := Ints.below hIa hb; have hIb := Ints.below hIb hb)))
  have c0 := keepc hS c0
  have c1 := keepc hS c1
  have HI := Lib.hid (HI.out.below hS)
  have HB := Lib.hid (Below.step HB.out hS)
  have HIa := Lib.hid hIa
  have HIb := Lib.hid hIb
  have HIc := Lib.hid hIc
  clear hS hIa hIb hIc
  obtain ⟨wd, rfl⟩ : ∃ wd : World, wd = wc := ⟨_, rfl⟩
  obtain ⟨Va, hVa⟩ : ∃ Va, Va = votesC F L ma := ⟨_, rfl⟩
  obtain ⟨Vb, hVb⟩ : ∃ Vb, Vb = votesC F L mb := ⟨_, rfl⟩
  obtain ⟨Vc, hVc⟩ : ∃ Vc, Vc = votesC F L mc := ⟨_, rfl⟩
  obtain ⟨M, hM⟩ : ∃ M, M = mostC F L := ⟨_, rfl⟩
  obtain ⟨S, hS'⟩ : ∃ S, S = someC F L := ⟨_, rfl⟩
  have t1 : ¬ Va < M → ¬ Vb < M → S ≤ Vc := by
    intro h1 h2
    have eM : M = 2 * F + 1 := by rw [hM]; simp [mostC, HG.out]
    have eS : S = F + 1 := by rw [hS']; simp [someC, HG.out]
    have ea : Va = (ma.length : Int) := by rw [hVa, HMa.out, votes_pick HG.out]
    have eb : Vb = (mb.length : Int) := by rw [hVb, HMb.out, votes_pick HG.out]
    have ec : Vc = (mc.length : Int) := by rw [hVc, HMc.out, votes_pick HG.out]
    have hp : pick (bitP pc) L = pick (fun i => bitP pa i && bitP pb i) L := pick_congr (fun i hi => by rw [HPC.out]; exact bits_and pa pb (by omega))
    have := meet_law HG.out (bitP pa) (bitP pb) (by rw [← HMa.out]; omega) (by rw [← HMb.out]; omega)
    rw [← hp, ← HMc.out] at this
    omega
  have t2 : ((mc.length : Int) == Vc) = true := by
    rw [beq_iff_eq, hVc, HMc.out, votes_pick HG.out]
  have HM := Lib.hid hM.symm
  have HS' := Lib.hid hS'.symm
  have HVa := Lib.hid hVa.symm
  have HVb := Lib.hid hVb.symm
  have HVc := Lib.hid hVc.symm
  have T1 := Lib.hid t1
  clear hM hS' hVa hVb hVc t1
  have hS : Below wd.heap.size wd wd := Below.refl _ _
  by_cases h1 : Va < M
  · go_wp2_with fail
    have c0 := c0
    have c1 := c1
    first
      | (go_region_with (first
          | (go_at_call 86; (with_reducible refine Calls.mono (votes_is HVa.out a cap aa capa _ ?hI ?hJ) ?_); (case hI => exact (Ints.below HI.out (by first | exact hS | exact hS.drew | exact Below.step hS (Below.new _ _)))); (case hJ => exact (Ints.below HIa.out (by first | exact hS | exact hS.drew | exact Below.step hS (Below.new _ _)))); rintro e wc ⟨rfl, hb⟩; have hS : Below wd.heap.size wd wc := (by first | exact Below.step hS hb | exact Below.stepD hS hb | exact Below.step (Below.step hS (Below.new _ _)) hb); have c0 := keepc hb c0; have c1 := keepc hb c1)
          | (go_at_call 73; refine Calls.mono (most_is HM.out a cap _ (Ints.below HI.out (by first | exact hS | exact hS.drew | exact Below.step hS (Below.new _ _)))) ?_; rintro e wc ⟨rfl, hb⟩; have hS : Below wd.heap.size wd wc := (by first | exact Below.step hS hb | exact Below.stepD hS hb | exact Below.step (Below.step hS (Below.new _ _)) hb); have c0 := keepc hb c0; have c1 := keepc hb c1)))
      | fail
    all_goals
      go_wp2
      go_ret
      exact ⟨rfl, Below.step HB.out hS⟩
  · have d1 : decide (Va < M) = false := by rw [decide_eq_false_iff_not]; exact h1
    by_cases h2 : Vb < M
    · go_wp2_with fail
      go_region_held3 (fun w' => w'.cell? ⟨w2.heap.size, 0, none⟩ = some (.int .i64 F) ∧ w'.cell? ⟨w2.heap.size, 1, none⟩ = some (.slice a L.length cap))
        (first
          | go_keep | assumption | exact ⟨keepc hS c0, keepc hS c1⟩)
        ((first
          | (go_at_call 86; (with_reducible refine Calls.mono (votes_is HVa.out a cap aa capa _ ?hI ?hJ) ?_); (case hI => exact (Ints.below HI.out (by first | exact hS | exact hS.drew | exact Below.step hS (Below.new _ _)))); (case hJ => exact (Ints.below HIa.out (by first | exact hS | exact hS.drew | exact Below.step hS (Below.new _ _)))); rintro e wc ⟨rfl, hb⟩; have hS : Below wd.heap.size wd wc := (by first | exact Below.step hS hb | exact Below.stepD hS hb | exact Below.step (Below.step hS (Below.new _ _)) hb))
          | (go_at_call 86; (with_reducible refine Calls.mono (votes_is HVb.out a cap ab capb _ ?hI ?hJ) ?_); (case hI => exact (Ints.below HI.out (by first | exact hS | exact hS.drew | exact Below.step hS (Below.new _ _)))); (case hJ => exact (Ints.below HIb.out (by first | exact hS | exact hS.drew | exact Below.step hS (Below.new _ _)))); rintro e wc ⟨rfl, hb⟩; have hS : Below wd.heap.size wd wc := (by first | exact Below.step hS hb | exact Below.stepD hS hb | exact Below.step (Below.step hS (Below.new _ _)) hb))
          | (go_at_call 73; refine Calls.mono (most_is HM.out a cap _ (Ints.below HI.out (by first | exact hS | exact hS.drew | exact Below.step hS (Below.new _ _)))) ?_; rintro e wc ⟨rfl, hb⟩; have hS : Below wd.heap.size wd wc := (by first | exact Below.step hS hb | exact Below.stepD hS hb | exact Below.step (Below.step hS (Below.new _ _)) hb))))
      all_goals
        go_wp2
        go_ret
        exact ⟨rfl, Below.step HB.out hS⟩
    · have t3 := T1.out h1 h2
      have d2 : decide (Vb < M) = false := by rw [decide_eq_false_iff_not]; exact h2
      go_wp2_with fail
      go_region_held3 (fun w' => w'.cell? ⟨w2.heap.size, 0, none⟩ = some (.int .i64 F) ∧ w'.cell? ⟨w2.heap.size, 1, none⟩ = some (.slice a L.length cap))
        (first
          | go_keep | assumption | exact ⟨keepc hS c0, keepc hS c1⟩)
        ((first
          | (go_at_call 86; (with_reducible refine Calls.mono (votes_is HVa.out a cap aa capa _ ?hI ?hJ) ?_); (case hI => exact (Ints.below HI.out (by first | exact hS | exact hS.drew | exact Below.step hS (Below.new _ _)))); (case hJ => exact (Ints.below HIa.out (by first | exact hS | exact hS.drew | exact Below.step hS (Below.new _ _)))); rintro e wc ⟨rfl, hb⟩; have hS : Below wd.heap.size wd wc := (by first | exact Below.step hS hb | exact Below.stepD hS hb | exact Below.step (Below.step hS (Below.new _ _)) hb))
          | (go_at_call 86; (with_reducible refine Calls.mono (votes_is HVb.out a cap ab capb _ ?hI ?hJ) ?_); (case hI => exact (Ints.below HI.out (by first | exact hS | exact hS.drew | exact Below.step hS (Below.new _ _)))); (case hJ => exact (Ints.below HIb.out (by first | exact hS | exact hS.drew | exact Below.step hS (Below.new _ _)))); rintro e wc ⟨rfl, hb⟩; have hS : Below wd.heap.size wd wc := (by first | exact Below.step hS hb | exact Below.stepD hS hb | exact Below.step (Below.step hS (Below.new _ _)) hb))
          | (go_at_call 73; refine Calls.mono (most_is HM.out a cap _ (Ints.below HI.out (by first | exact hS | exact hS.drew | exact Below.step hS (Below.new _ _)))) ?_; rintro e wc ⟨rfl, hb⟩; have hS : Below wd.heap.size wd wc := (by first | exact Below.step hS hb | exact Below.stepD hS hb | exact Below.step (Below.step hS (Below.new _ _)) hb))))
      go_wp2_with fail
      have c0 := keepc hS c0
      have c1 := keepc hS c1
      have HI := Lib.hid (HI.out.below hS)
      have HB := Lib.hid (Below.step HB.out hS)
      have HIc := Lib.hid (HIc.out.below hS)
      clear hS
      obtain ⟨we, rfl⟩ : ∃ we : World, we = wc := ⟨_, rfl⟩
      have hS : Below we.heap.size we we := Below.refl _ _
      go_region_held3 (fun w' => w'.cell? ⟨w2.heap.size, 0, none⟩ = some (.int .i64 F) ∧ w'.cell? ⟨w2.heap.size, 1, none⟩ = some (.slice a L.length cap))
        (first
          | go_keep | assumption | exact ⟨keepc hS c0, keepc hS c1⟩)
        ((first
          | (go_at_call 86; (with_reducible refine Calls.mono (votes_is HVc.out a cap ac capc _ ?hI ?hJ) ?_); (case hI => exact (Ints.below HI.out (by first | exact hS | exact hS.drew | exact Below.step hS (Below.new _ _)))); (case hJ => exact (Ints.below HIc.out (by first | exact hS | exact hS.drew | exact Below.step hS (Below.new _ _)))); rintro e wc ⟨rfl, hb⟩; have hS : Below we.heap.size we wc := (by first | exact Below.step hS hb | exact Below.stepD hS hb | exact Below.step (Below.step hS (Below.new _ _)) hb))
          | (go_at_call 75; refine Calls.mono (some_is HS'.out a cap _ (Ints.below HI.out (by first | exact hS | exact hS.drew | exact Below.step hS (Below.new _ _)))) ?_; rintro e wc ⟨rfl, hb⟩; have hS : Below we.heap.size we wc := (by first | exact Below.step hS hb | exact Below.stepD hS hb | exact Below.step (Below.step hS (Below.new _ _)) hb))))
      all_goals
        go_wp2
        go_ret
        exact ⟨rfl, Below.step HB.out hS⟩
end Go.Proofs.Ytldcpnabgpjgiaa.Walks
