/-
  The law's helpers: directory, old, nodes, told; the hand's methods at known answers.
-/
import Derived.Test.YtldcpnabgpjgiaaHandF
import Derived.Test.YtldcpnabgpjgiaaCrewP
namespace Go.Proofs.Ytldcpnabgpjgiaa.Walks
open Go.RowKit Plain
set_option linter.unusedVariables false

theorem dir_any (w : World) : Calls Try.prog 44 #[] w fun e w' => ∃ a' cap', e = .returned (.agg #[.int .i64 1, .slice a' 4 cap']) ∧ Own w' w.heap.size a' [1, 2, 3, 4] cap' ∧ Below w.heap.size w w' := by
  go_enter Try.func44, Try.ntmps44
  go_wp2
  have h1 := heap_alloc2_old w (.cells #[.int .i64 1, .slice (some ⟨w.heap.size + 1, 0, none⟩) 4 4] 24) (.cells #[.int .i64 1, .int .i64 2, .int .i64 3, .int .i64 4] 3)
  have h2 := heap_alloc2_new w (.cells #[.int .i64 1, .slice (some ⟨w.heap.size + 1, 0, none⟩) 4 4] 24) (.cells #[.int .i64 1, .int .i64 2, .int .i64 3, .int .i64 4] 3)
  have r1 := load24 (cell_of_row _ _ 0 _ _ _ h1) (cell_of_row _ _ 1 _ _ _ h1)
  refine bodyPost_ret (v := .agg #[.int .i64 1, .slice (some ⟨w.heap.size + 1, 0, none⟩) 4 4]) (by simp [results, Try.results44, asAddr, r1]) rfl ?_
  exact ⟨_, _, rfl, ⟨rfl, .inr ⟨w.heap.size + 1, 4, _, rfl, by omega, h2, Nat.le_refl _, by decide, rfl, rfl⟩⟩, (Below.new w _).alloc (by simp) _⟩
theorem old_any (w : World) : Calls Try.prog 47 #[] w fun e w' => ∃ a' cap', e = .returned (.agg #[.int .i64 1, .slice a' 4 cap']) ∧ Own w' w.heap.size a' [5, 6, 7, 8] cap' ∧ Below w.heap.size w w' := by
  go_enter Try.func47, Try.ntmps47
  go_wp2
  have h1 := heap_alloc2_old w (.cells #[.int .i64 1, .slice (some ⟨w.heap.size + 1, 0, none⟩) 4 4] 24) (.cells #[.int .i64 5, .int .i64 6, .int .i64 7, .int .i64 8] 3)
  have h2 := heap_alloc2_new w (.cells #[.int .i64 1, .slice (some ⟨w.heap.size + 1, 0, none⟩) 4 4] 24) (.cells #[.int .i64 5, .int .i64 6, .int .i64 7, .int .i64 8] 3)
  have r1 := load24 (cell_of_row _ _ 0 _ _ _ h1) (cell_of_row _ _ 1 _ _ _ h1)
  refine bodyPost_ret (v := .agg #[.int .i64 1, .slice (some ⟨w.heap.size + 1, 0, none⟩) 4 4]) (by simp [results, Try.results47, asAddr, r1]) rfl ?_
  exact ⟨_, _, rfl, ⟨rfl, .inr ⟨w.heap.size + 1, 4, _, rfl, by omega, h2, Nat.le_refl _, by decide, rfl, rfl⟩⟩, (Below.new w _).alloc (by simp) _⟩
def nodesL (n : Int) : List Int := [5, 6, 7, 9 + bringI n 4]
theorem nodesL_good (n : Int) : goodC 1 (nodesL n) = true := by
  have h1 := bringI_nonneg n 4
  have h2 := bringI_lt n (n := 4) (by omega)
  simp [goodC, nodesL, okFrom]
  omega
theorem nodes_any (n : Int) (w : World) : Calls Try.prog 45 #[.int .i64 n] w fun e w' => ∃ a' cap', e = .returned (.slice a' 4 cap') ∧ Own w' w.heap.size a' (nodesL n) cap' ∧ Below w.heap.size w w' := by
  have h1 := bringI_nonneg n 4
  have h2 := bringI_lt n (n := 4) (by omega)
  go_enter Try.func45, Try.ntmps45
  go_wp2_with fail
  refine Calls.mono (bring_any n 4 _ (by omega) (by omega)) ?_
  rintro e w' ⟨rfl, rfl⟩
  go_wp2
  go_ret
  have h2 := heap_alloc_new w (.cells #[.int .i64 5, .int .i64 6, .int .i64 7, .int .i64 (9 + bringI n 4)] 3)
  exact ⟨_, _, rfl, ⟨rfl, .inr ⟨w.heap.size, 4, _, rfl, by omega, h2, Nat.le_refl _, by decide, rfl, rfl⟩⟩, Below.new w _⟩
end Go.Proofs.Ytldcpnabgpjgiaa.Walks
