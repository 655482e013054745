/-
  Hands that were never made: every method says so.
-/
import Derived.Test.YtldcpnabgpjgiaaHandH
namespace Go.Proofs.Ytldcpnabgpjgiaa.Walks
open Go.RowKit Plain
set_option linter.unusedVariables false
attribute [local go_sem] isLoad38_mk isLoad47_mk loadOp_mk headOf_mk blockOf_mk isMark_mk isRoot_mk isI_mk isB_mk seqOf_mk byteOf_mk byteO_mk intOf_mk drew_setRow alloc_setRow row47_new row38_new row47_drew rowOf_drew rowOf_new row38_drew row38_alloc row47_alloc rowOf_alloc
attribute [local go_sem ↓] exec_load38g exec_load47g exec_load38 exec_load47 exec_alloc47 exec_store47 exec_alloc38 exec_store38 exec_build47 exec_build47z exec_build38 exec_build38c exec_build47c exec_build38z exec_eql47

/-- No hand, or one that was never made. -/
def NoHand (w : World) (v : Value) : Prop := v = .pointer none ∨ ∃ g, v = .pointer (some ⟨g, 0, none⟩) ∧ w.cell? ⟨g, 2, none⟩ = some (.map none)
theorem NoHand.below {w w' : World} {v : Value} (h : NoHand w v) (hb : Below w.heap.size w w') : NoHand w' v := by
  rcases h with h | ⟨g, h, hc⟩
  · exact .inl h
  · exact .inr ⟨g, h, keepc hb hc⟩
theorem none_no {w : World} {v : Value} (h : NoHand w v) : Calls Try.prog 92 #[v] w fun e w' => e = .returned (.bool true) ∧ w = w' := by
  rcases h with rfl | ⟨g, rfl, hc⟩
  · exact none_nil w
  · exact none_any g none w hc
set_option maxRecDepth 100000 in
set_option maxHeartbeats 2000000 in
theorem order_no {w : World} {v : Value} (h : NoHand w v) (n e : Int) (s : Value) : Calls Try.prog 34 #[v, .int .i64 n, .int .i64 e, s] w fun e' w' => e' = .returned (.int .i64 1) ∧ Below w.heap.size w w' := by
  go_enter Try.func34, Try.ntmps34
  go_wp2_with fail
  refine Calls.mono (none_no h) ?_
  rintro e0 w' ⟨rfl, rfl⟩
  go_wp2
  go_ret
  exact ⟨rfl, Below.refl _ _⟩
set_option maxRecDepth 100000 in
set_option maxHeartbeats 2000000 in
theorem sealed_no {w : World} {v : Value} (h : NoHand w v) (n of e s r : Int) (sl : Value) : Calls Try.prog 37 #[v, .int .i64 n, .agg #[.int .i64 of, sl], .int .i64 e, .int .i64 s, .agg (rootC r)] w fun e' w' => e' = .returned (.int .i64 1) ∧ Below w.heap.size w w' := by
  go_enter Try.func37, Try.ntmps37
  go_wp2_with fail
  have hb2 := (Below.new w (.cells #[.int .i64 of, sl] 24)).alloc (by simp) (.cells (rootC r) 38)
  refine Calls.mono (none_no (h.below hb2)) ?_
  rintro e0 w' ⟨rfl, rfl⟩
  go_wp2
  go_ret
  exact ⟨rfl, hb2⟩
set_option maxRecDepth 100000 in
set_option maxHeartbeats 2000000 in
theorem crew_no {w : World} {v : Value} (h : NoHand w v) (e : Int) : Calls Try.prog 39 #[v, .int .i64 e] w fun e' w' => e' = .returned (.tuple #[.agg #[.int .i64 0, .slice none 0 0], .bool false]) ∧ Below w.heap.size w w' := by
  go_enter Try.func39, Try.ntmps39
  go_wp2_with fail
  have hb2 := Below.new w (.cells #[.int .i64 0, .slice none 0 0] 24)
  refine Calls.mono (none_no (h.below hb2)) ?_
  rintro e0 w' ⟨rfl, rfl⟩
  have q0 : (w.alloc (.cells #[.int .i64 0, .slice none 0 0] 24)).cell? ⟨w.heap.size, 0, none⟩ = some (.int .i64 0) := crew_box2.1
  have q1 : (w.alloc (.cells #[.int .i64 0, .slice none 0 0] 24)).cell? ⟨w.heap.size, 1, none⟩ = some (.slice none 0 0) := crew_box2.2
  have q2 : (w.alloc (.cells #[.int .i64 0, .slice none 0 0] 24)).frozen? ⟨w.heap.size, 0, none⟩ = false := crew_boxF.1
  have q3 : (w.alloc (.cells #[.int .i64 0, .slice none 0 0] 24)).frozen? ⟨w.heap.size, 1, none⟩ = false := crew_boxF.2
  generalize (w.alloc (.cells #[.int .i64 0, .slice none 0 0] 24)) = w1 at *
  go_wp2
  have r1 := put2_load (x := .int .i64 0) (y := .slice none 0 0) q0 q1
  refine bodyPost_ret (v := .tuple #[.agg #[.int .i64 0, .slice none 0 0], .bool false]) (by simp [results, Try.results39, asAddr, r1, Result.andThen]) rfl ?_
  exact ⟨rfl, put2_below hb2 (Nat.le_refl _)⟩
set_option maxRecDepth 100000 in
set_option maxHeartbeats 2000000 in
theorem end_no {w : World} {v : Value} (h : NoHand w v) (of e : Int) (sl : Value) : Calls Try.prog 41 #[v, .agg #[.int .i64 of, sl], .int .i64 e] w fun e' w' => e' = .returned (.tuple #[.agg (markC 0 0), .bool false]) ∧ Below w.heap.size w w' := by
  go_enter Try.func41, Try.ntmps41
  go_wp2_with fail
  have hb2 := (Below.new w (.cells #[.int .i64 of, sl] 24)).alloc (by simp) (.cells (markC 0 0) 47)
  refine Calls.mono (none_no (h.below hb2)) ?_
  rintro e0 w' ⟨rfl, rfl⟩
  have hr0 := heap_alloc_new (w.alloc (.cells #[.int .i64 of, sl] 24)) (.cells (markC 0 0) 47)
  simp only [World.size_alloc] at hr0
  generalize ((w.alloc (.cells #[.int .i64 of, sl] 24)).alloc (.cells (markC 0 0) 47)) = w1 at *
  have hry : Row47 w1 (w.heap.size + 1) := row47_of hr0 rfl
  go_wp2
  have hr1 := setRow_heap w1 (w.heap.size + 1) _ (markC 0 0) _ _ hr0
  have r1 := run_loadVar_row (P := Try.prog) _ (w.heap.size + 1) 47 47 _ (0, 0) _ hr1 Try.underlying47 rfl (by rw [markC_size]; exact z47)
  refine bodyPost_ret (v := .tuple #[.agg (markC 0 0), .bool false]) (by simp [results, Try.results41, asAddr, r1, Result.andThen]) rfl ?_
  exact ⟨rfl, below_setRow hb2 (by omega) _⟩
end Go.Proofs.Ytldcpnabgpjgiaa.Walks
