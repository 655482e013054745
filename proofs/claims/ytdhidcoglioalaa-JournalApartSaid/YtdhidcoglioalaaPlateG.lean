/-
  A plate is made.
-/
import Derived.Test.YtdhidcoglioalaaPlateF
import Derived.Laws.MakeOwn
namespace Go.Proofs.Ytdhidcoglioalaa.Walks
open Go.RowKit Plain
open Go.Maps (Keyed IsMap)
set_option linter.unusedVariables false
attribute [local go_sem ↓] exec_load88 exec_store88 exec_alloc88
attribute [local go_sem] isPt_mk adOf_mk isSec_mk sOf_mk alloc_setCells is_new at_new room_new is_past at_past room_past is_drew at_drew room_drew setCells_past setCells_size setCells_drew

theorem info88 : (Try.prog.info? 88).map (fun i => (i.size, i.bytes)) = some (64, 64) := by kernel_rfl
theorem info88z : (Try.prog.info? 88).map (·.zero) = some (some (.agg (Array.replicate 64 (.int .u8 0)))) := by kernel_rfl
theorem zeroC : secC zeroS = Array.replicate 64 (.int .u8 0) := by
  apply Array.ext_getElem?
  intro j
  by_cases hj : j < 64
  · rw [show (secC zeroS)[j]? = some (byteV (zeroS j)) by simp [secC, secL_get _ hj], Array.getElem?_replicate, if_pos hj]
    rfl
  · rw [Array.getElem?_eq_none (by rw [secC_size]; omega), Array.getElem?_eq_none (by simp; omega)]
theorem new_err (w : World) (n : Int) (h : n < 1 ∨ 4096 < n) : Calls Try.prog 14 #[.int .i64 n] w fun e w' => e = .returned (.tuple #[.pointer none, .int .i64 9]) ∧ w = w' := by
  by_cases h1 : n < 1
  · clear h
    go_enter Try.func14, Try.ntmps14
    go_wp2
    refine bodyPost_ret (results_tmp2 rfl _ _ _) rfl ?_
    exact ⟨rfl, rfl⟩
  · have h2 : 4096 < n := by omega
    clear h
    go_enter Try.func14, Try.ntmps14
    go_wp2
    refine bodyPost_ret (results_tmp2 rfl _ _ _) rfl ?_
    exact ⟨rfl, rfl⟩
/-- The block of a plate's sectors, all noughts. -/
def rowZ (n : Nat) : Array Value := madeCells (Array.replicate 64 (.int .u8 0)) (n * 64)
theorem rowZ_get (n : Nat) {i : Nat} (hi : i < n * 64) : (rowZ n)[i]? = some (.int .u8 0) := by
  unfold rowZ madeCells
  rw [Array.getElem?_map, Array.getElem?_range, if_pos hi]
  have : i % 64 < 64 := Nat.mod_lt _ (by omega)
  simp [this]
theorem made_at (w : World) (n : Nat) (h1 : 1 ≤ n) (h2 : n ≤ 4096) : PlateAt (((w.alloc (.cells (rowZ n) 88)).alloc (.map #[] 0)).alloc (.cells #[.slice (some ⟨w.heap.size, 0, none⟩) n n, .map (some (w.heap.size + 1)), .bool false, .bool false, .int .i64 0, .slice none 0 0] 62))
    ⟨w.heap.size + 1 + 1, w.heap.size, w.heap.size + 1, []⟩ (Pl.made n) := by
  obtain ⟨wa, hwa⟩ : ∃ x, x = w.alloc (.cells (rowZ n) 88) := ⟨_, rfl⟩
  obtain ⟨wb, hwb⟩ : ∃ x, x = wa.alloc (.map #[] 0) := ⟨_, rfl⟩
  have sa : wa.heap.size = w.heap.size + 1 := by rw [hwa]; simp
  have sb : wb.heap.size = w.heap.size + 1 + 1 := by rw [hwb]; simp [sa]
  rw [← hwa, ← hwb]
  have hb : ∀ cs : Array Value, Below wa.heap.size wa (wb.alloc (.cells cs 62)) := fun cs => by rw [hwb]; exact Below.step (Below.new _ _) (Below.new _ _)
  have hcell : ∀ i, i < n * 64 → wa.cell? ⟨w.heap.size, i, none⟩ = some (.int .u8 0) := fun i hi => by rw [hwa, cell_new]; exact rowZ_get n hi
  have hp : ∀ (cs : Array Value) (j : Nat), (wb.alloc (.cells cs 62)).cell? ⟨w.heap.size + 1 + 1, j, none⟩ = cs[j]? := fun cs j => by rw [← sb]; exact cell_new _ _ _ _
  have hs : ∀ (cs : Array Value) (j : Nat), (wb.alloc (.cells cs 62)).cell? ⟨w.heap.size, j, none⟩ = wa.cell? ⟨w.heap.size, j, none⟩ := fun cs j => World.cell?_of_block ((hb cs).block _ (by show w.heap.size < _; omega))
  refine ⟨by rw [hp]; rfl, by rw [hp]; rfl, by rw [hp]; rfl, by rw [hp]; rfl, by rw [hp]; rfl, ⟨none, 0, by rw [hp]; rfl, Bools.nil _ _, (fun h0 => absurd rfl h0)⟩, fun i => by rw [← sb]; exact frozen_new _ _ _ _, ?_, ?_, ?_, (by show w.heap.size + 1 + 1 ≠ w.heap.size; omega), Pl.ok_made h1 h2, (fun b hb => by simp at hb)⟩
  · intro i hi j v hv
    have hj : j < 64 := by
      have := (List.getElem?_eq_some_iff.1 hv).1
      rwa [secL_length] at this
    rw [secL_get _ hj] at hv
    have hi' : i < n := hi
    rw [hs, hcell _ (by show i * 64 + j < n * 64; omega), ← hv]
    rfl
  · intro i hi j hj
    have hi' : i < n := hi
    refine ⟨by rw [hs, hcell _ (by show i * 64 + j < n * 64; omega)]; rfl, ?_⟩
    have h1 : (wb.alloc (.cells #[.slice (some ⟨w.heap.size, 0, none⟩) n n, .map (some (w.heap.size + 1)), .bool false, .bool false, .int .i64 0, .slice none 0 0] 62)).frozen? ⟨w.heap.size, i * 64 + j, none⟩ = wa.frozen? ⟨w.heap.size, i * 64 + j, none⟩ := (hb _).frozen (p := ⟨w.heap.size, i * 64 + j, none⟩) (by simp [sa])
    rw [h1, hwa]
    exact frozen_new _ _ _ _
  · show IM ES _ (w.heap.size + 1) (wmap fun _ => none)
    rw [wmap_none]
    have h0 := IM.new ES wa
    rw [sa, ← hwb] at h0
    exact h0.block (heap_alloc_lt (by omega))
set_option maxRecDepth 10000 in
theorem new_ok (w : World) (n : Nat) (h1 : 1 ≤ n) (h2 : n ≤ 4096) : Calls Try.prog 14 #[.int .i64 n] w fun e w' => ∃ q : PLoc, e = .returned (.tuple #[pv q, .int .i64 0]) ∧ PlateAt w' q (Pl.made n) ∧ Below w.heap.size w w' ∧ (∀ b ∈ q.R, w.heap.size ≤ b) ∧ w'.cell? ⟨q.p, 5, none⟩ = some (.slice none 0 0) := by
  have hmk : (Instr.makeSlice 59 (.int .i64 n) (.int .i64 n)).run Try.prog w = .ok (.slice (some ⟨w.heap.size, 0, none⟩) n n) (w.alloc (.cells (rowZ n) 88)) := by
    cases hi : Try.prog.info? 88 with
    | none => have := info88; rw [hi] at this; cases this
    | some i =>
      have := info88
      rw [hi] at this
      simp only [Option.map_some, Option.some.injEq, Prod.mk.injEq] at this
      obtain ⟨e1, e2⟩ := this
      have hz : i.zero = some (.agg (Array.replicate 64 (.int .u8 0))) := by
        have hz := info88z
        rw [hi] at hz
        exact Option.some.inj hz
      have := run_makeSlice w 59 88 i (.agg (Array.replicate 64 (.int .u8 0))) Try.underlying59 hi hz .i64 .i64 n n (by omega) (by omega) (by rw [e1]; simp; omega) (by rw [e2]; omega) (by omega)
      rw [e1] at this
      simpa [rowZ, Value.cells] using this
  have hmap := @run_makeMap Try.prog
  have hl1 : ¬ ((n : Int) < 1) := by omega
  have hl2 : ¬ (4096 < (n : Int)) := by omega
  go_enter Try.func14, Try.ntmps14
  go_wp2
  refine bodyPost_ret (results_tmp2 rfl _ _ _) rfl ?_
  refine ⟨⟨w.heap.size + 1 + 1, w.heap.size, w.heap.size + 1, []⟩, rfl, made_at w n h1 h2, Below.step (Below.step (Below.new _ _) (Below.new _ _)) (Below.new _ _), ?_, ?_⟩
  case refine_2 =>
    have h := cell_new ((w.alloc (.cells (rowZ n) 88)).alloc (.map #[] 0)) #[.slice (some ⟨w.heap.size, 0, none⟩) n n, .map (some (w.heap.size + 1)), .bool false, .bool false, .int .i64 0, .slice none 0 0] 62 5
    rw [World.size_alloc, World.size_alloc] at h
    exact h
  intro b hb
  simp [PLoc.R] at hb
  omega
end Go.Proofs.Ytdhidcoglioalaa.Walks
