/-
  The walks of the laws CrewEnough and CrewMeet.
-/
import Derived.Test.YtldcpnabgpjgiaaCrewP
import Derived.IntWalk
namespace Go.Proofs.Ytldcpnabgpjgiaa.Walks
open Go.RowKit Plain
set_option linter.unusedVariables false

theorem mk_good (x0 x1 x2 x3 x4 x5 x6 x7 : Int) (w : World) : Calls Try.prog 88 #[.agg #[.int .i64 x0, .int .i64 x1, .int .i64 x2, .int .i64 x3, .int .i64 x4, .int .i64 x5, .int .i64 x6, .int .i64 x7]] w
    fun e w' => ∃ (F : Int) (L : List Int) (a' : Option Addr) (cap' : Nat), Hid (goodC F L = true) ∧ e = .returned (.agg #[.int .i64 F, .slice a' L.length cap']) ∧ Own w' w.heap.size a' L cap' ∧ Below w.heap.size w w' := by
  refine Calls.mono (mk_any x0 x1 x2 x3 x4 x5 x6 x7 w) ?_
  rintro e w' ⟨a', cap', rfl, h1, h2⟩
  exact ⟨_, _, a', cap', Lib.hid (some_good _), rfl, h1, h2⟩
theorem crew_box {w : World} {F : Int} {v : Value} : (w.alloc (.cells #[.int .i64 F, v] 24)).cell? ⟨w.heap.size, 0, none⟩ = some (.int .i64 F) ∧ (w.alloc (.cells #[.int .i64 F, v] 24)).cell? ⟨w.heap.size, 1, none⟩ = some v :=
  ⟨cell_of_row _ _ 0 _ _ _ (heap_alloc_new _ _), cell_of_row _ _ 1 _ _ _ (heap_alloc_new _ _)⟩

set_option maxRecDepth 100000 in
set_option maxHeartbeats 4000000 in
theorem crewEnough_walk (x0 x1 x2 x3 x4 x5 x6 x7 : Int)  (w : World) : Calls Try.prog 20 #[.agg #[.int .i64 x0, .int .i64 x1, .int .i64 x2, .int .i64 x3, .int .i64 x4, .int .i64 x5, .int .i64 x6, .int .i64 x7]] w fun e w' => e = .returned (.bool true) ∧ Below w.heap.size w w' := by
  go_enter Try.func20, Try.ntmps20
  go_wp2_with fail
  obtain ⟨wb, hwb⟩ : ∃ wb : World, wb = (w.alloc (.cells #[.int .i64 x0, .int .i64 x1, .int .i64 x2, .int .i64 x3, .int .i64 x4, .int .i64 x5, .int .i64 x6, .int .i64 x7] 128)) := ⟨_, rfl⟩
  have hbb : Below w.heap.size w wb := by
    rw [hwb]; exact Below.new w _
  have hh0 : wb.heap[w.heap.size]? = some (.cells #[.int .i64 x0, .int .i64 x1, .int .i64 x2, .int .i64 x3, .int .i64 x4, .int .i64 x5, .int .i64 x6, .int .i64 x7] 128 (0, 0)) := by
    rw [hwb]
    have := heap_alloc_new w (.cells #[.int .i64 x0, .int .i64 x1, .int .i64 x2, .int .i64 x3, .int .i64 x4, .int .i64 x5, .int .i64 x6, .int .i64 x7] 128)
    simpa using this
  rw [← hwb]
  clear hwb
  refine Calls.mono (works_any _) ?_
  rintro e w1 ⟨rfl, hb1⟩
  have q0 : w1.cell? ⟨w.heap.size, 0, none⟩ = some (.int .i64 x0) := keepc hb1 (cell_of_row _ _ 0 _ _ _ hh0)
  have q1 : w1.cell? ⟨w.heap.size, 1, none⟩ = some (.int .i64 x1) := keepc hb1 (cell_of_row _ _ 1 _ _ _ hh0)
  have q2 : w1.cell? ⟨w.heap.size, 2, none⟩ = some (.int .i64 x2) := keepc hb1 (cell_of_row _ _ 2 _ _ _ hh0)
  have q3 : w1.cell? ⟨w.heap.size, 3, none⟩ = some (.int .i64 x3) := keepc hb1 (cell_of_row _ _ 3 _ _ _ hh0)
  have q4 : w1.cell? ⟨w.heap.size, 4, none⟩ = some (.int .i64 x4) := keepc hb1 (cell_of_row _ _ 4 _ _ _ hh0)
  have q5 : w1.cell? ⟨w.heap.size, 5, none⟩ = some (.int .i64 x5) := keepc hb1 (cell_of_row _ _ 5 _ _ _ hh0)
  have q6 : w1.cell? ⟨w.heap.size, 6, none⟩ = some (.int .i64 x6) := keepc hb1 (cell_of_row _ _ 6 _ _ _ hh0)
  have q7 : w1.cell? ⟨w.heap.size, 7, none⟩ = some (.int .i64 x7) := keepc hb1 (cell_of_row _ _ 7 _ _ _ hh0)
  go_wp2_with fail
  refine Calls.mono (mk_good x0 x1 x2 x3 x4 x5 x6 x7 _) ?_
  rintro e w2 ⟨F, L, a, cap, HG, rfl, hO, hb2⟩
  have hlen := goodC_len HG.out
  have hf0 := hlen.1
  have hf2 := hlen.2.1
  obtain ⟨M, hM⟩ : ∃ M, M = mostC F L := ⟨_, rfl⟩
  obtain ⟨S, hS'⟩ : ∃ S, S = someC F L := ⟨_, rfl⟩
  have eM : M = 2 * F + 1 := by rw [hM]; simp [mostC, HG.out]
  have eS : S = F + 1 := by rw [hS']; simp [someC, HG.out]
  have t1 : (M - F == S) = true := by rw [beq_iff_eq]; omega
  have t2 : F < S := by omega
  have t3 : ((L.length : Int) - F == M) = true := by rw [beq_iff_eq]; omega
  have t4 : 0 ≤ M := by omega
  have t5 : M ≤ 5 := by omega
  have t6 : L.length ≤ 7 := by omega
  have HM := Lib.hid hM.symm
  have HS' := Lib.hid hS'.symm
  obtain ⟨c0, c1⟩ := crew_box (w := w2) (F := F) (v := .slice a L.length cap)
  have HI := Lib.hid ((Own.ints hO (by omega)).alloc (.cells #[.int .i64 F, .slice a L.length cap] 24))
  have HB := Lib.hid (Below.step (Below.step (Below.step hbb hb1) hb2) (Below.new w2 (.cells #[.int .i64 F, .slice a L.length cap] 24)))
  have u1 : IntKind.i64.wrap (M - F) = M - F := IntWalk.i64_in _ (by omega)
  have u2 : IntKind.i64.wrap ((L.length : Int) - F) = (L.length : Int) - F := IntWalk.i64_in _ (by omega)
  clear hM hS' eM eS hlen hO hb1 hb2 hbb hh0 q0 q1 q2 q3 q4 q5 q6 q7
  go_wp2_with fail
  generalize (w2.alloc (.cells #[.int .i64 F, .slice a L.length cap] 24)) = w3 at *
  have hS : Below w3.heap.size w3 w3 := Below.refl _ _
  go_region_held3 (fun w' => w'.cell? ⟨w2.heap.size, 0, none⟩ = some (.int .i64 F) ∧ w'.cell? ⟨w2.heap.size, 1, none⟩ = some (.slice a L.length cap))
    (first
      | go_keep | assumption | exact ⟨keepc hS c0, keepc hS c1⟩)
    ((first
      | (go_at_call 69; refine Calls.mono (check_is (errC_good HG.out) a cap _ (Ints.below HI.out (by first | exact hS | exact hS.drew | exact Below.step hS (Below.new _ _)))) ?_; rintro e wc ⟨rfl, hb⟩; have hS : Below w3.heap.size w3 wc := (by first | exact Below.step hS hb | exact Below.stepD hS hb | exact Below.step (Below.step hS (Below.new _ _)) hb))
      | (go_at_call 73; refine Calls.mono (most_is HM.out a cap _ (Ints.below HI.out (by first | exact hS | exact hS.drew | exact Below.step hS (Below.new _ _)))) ?_; rintro e wc ⟨rfl, hb⟩; have hS : Below w3.heap.size w3 wc := (by first | exact Below.step hS hb | exact Below.stepD hS hb | exact Below.step (Below.step hS (Below.new _ _)) hb))
      | (go_at_call 75; refine Calls.mono (some_is HS'.out a cap _ (Ints.below HI.out (by first | exact hS | exact hS.drew | exact Below.step hS (Below.new _ _)))) ?_; rintro e wc ⟨rfl, hb⟩; have hS : Below w3.heap.size w3 wc := (by first | exact Below.step hS hb | exact Below.stepD hS hb | exact Below.step (Below.step hS (Below.new _ _)) hb))))
  all_goals
    go_wp2
    go_ret
    exact ⟨rfl, Below.step HB.out hS⟩
end Go.Proofs.Ytldcpnabgpjgiaa.Walks
