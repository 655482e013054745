/-
  A head's fields; a sector is read.
-/
import Derived.Test.YtdhidcoglioalaaJB
import Derived.Laws.ResultCell
namespace Go.Proofs.Ytdhidcoglioalaa.Walks
open Go.RowKit Plain
set_option linter.unusedVariables false

theorem z116 : (Try.prog.info? 116).map (·.size) = some 51 := by kernel_rfl
theorem z112 : (Try.prog.info? 112).map (·.size) = some 48 := by kernel_rfl
def zeroSct : Sct := ⟨0, 0, 0, zeroB⟩
theorem zeroSct_eq : (sctL zeroSct).toArray = (#[.int .i64 0, .int .i64 0, .int .i64 0] ++ Array.replicate 48 (.int .u8 0)) := by
  unfold sctL blkL
  have : (bytesB zeroB) = List.replicate 48 0 := by decide
  show (_ :: _ :: _ :: (bytesB zeroB).map byteV).toArray = _
  rw [this]
  rfl
theorem zero116 (w : World) : (zeroValue 116).run Try.prog w = .ok (sctV zeroSct) w := by
  kernel_rfl
theorem zero112 (w : World) : (zeroValue 112).run Try.prog w = .ok (blkV zeroB) w := by
  kernel_rfl
section
variable {ρ : Operand → Value} {d : Option Tmp} {x y : Operand} {t : TypeId} {p : String} {af : Array Edge} {gd : Option (Nat × Bool)} {w : World}
theorem exec_load116 (h1 : isPt (ρ x) = true) (h2 : IsRow 51 w (adOf (ρ x))) : (execOp ρ ⟨d, .load 116 x, t, p, af, gd⟩).run Try.prog w = .ok (.value (.agg (cellL 51 w (adOf (ρ x))).toArray)) w := exec_loadN Try.underlying116 rfl z116 h1 h2
theorem exec_store116 (h1 : isPt (ρ x) = true) (h2 : RoomN 51 w (adOf (ρ x))) (h3 : OneN 51 (ρ y)) : (execOp ρ ⟨d, .store 116 x y, t, p, af, gd⟩).run Try.prog w = .ok .skip (w.setCells (adOf (ρ x)).block (adOf (ρ x)).off (cellsV (ρ y))) := exec_storeN z116 h1 h2 h3
theorem exec_alloc116 : (execOp ρ ⟨d, .alloc 116, t, p, af, gd⟩).run Try.prog w = .ok (.value (.pointer (some ⟨w.heap.size, 0, none⟩))) (w.alloc (.cells (sctL zeroSct).toArray 116)) := exec_allocN zero116
theorem exec_load112 (h1 : isPt (ρ x) = true) (h2 : IsRow 48 w (adOf (ρ x))) : (execOp ρ ⟨d, .load 112 x, t, p, af, gd⟩).run Try.prog w = .ok (.value (.agg (cellL 48 w (adOf (ρ x))).toArray)) w := exec_loadN Try.underlying112 rfl z112 h1 h2
theorem exec_store112 (h1 : isPt (ρ x) = true) (h2 : RoomN 48 w (adOf (ρ x))) (h3 : OneN 48 (ρ y)) : (execOp ρ ⟨d, .store 112 x y, t, p, af, gd⟩).run Try.prog w = .ok .skip (w.setCells (adOf (ρ x)).block (adOf (ρ x)).off (cellsV (ρ y))) := exec_storeN z112 h1 h2 h3
theorem exec_alloc112 : (execOp ρ ⟨d, .alloc 112, t, p, af, gd⟩).run Try.prog w = .ok (.value (.pointer (some ⟨w.heap.size, 0, none⟩))) (w.alloc (.cells (blkL zeroB).toArray 112)) := exec_allocN zero112
end
/-! A struct of fields -/
def isI : Value → Bool
  | .int .i64 _ => true
  | _ => false
def iOf : Value → Int
  | .int _ n => n
  | _ => 0
theorem isI_mk (n : Int) : isI (.int .i64 n) = true := not_rfl rfl
theorem iOf_mk (n : Int) : iOf (.int .i64 n) = n := not_rfl rfl
theorem isI_eq {v : Value} (h : isI v = true) : v = .int .i64 (iOf v) := by
  unfold isI at h
  split at h
  · rfl
  · cases h
theorem build3 (k t n : Int) (w : World) : (Instr.build 116 #[(0, .int .i64 k), (1, .int .i64 t), (2, .int .i64 n)]).run Try.prog w = .ok (sctV ⟨k, t, n, zeroB⟩) w := by
  kernel_rfl
theorem build4 (k t n : Int) (f : Nat → Value) (w : World) : (Instr.build 116 #[(0, .int .i64 k), (1, .int .i64 t), (2, .int .i64 n), (3, .agg ((List.range 48).map f).toArray)]).run Try.prog w = .ok (.agg (.int .i64 k :: .int .i64 t :: .int .i64 n :: (List.range 48).map f).toArray) w := by
  kernel_rfl
section
variable {ρ : Operand → Value} {d : Option Tmp} {x y z u : Operand} {t : TypeId} {p : String} {af : Array Edge} {gd : Option (Nat × Bool)} {w : World}
theorem exec_build3 (h1 : isI (ρ x) = true) (h2 : isI (ρ y) = true) (h3 : isI (ρ z) = true) : (execOp ρ ⟨d, .build 116 #[(0, x), (1, y), (2, z)], t, p, af, gd⟩).run Try.prog w = .ok (.value (sctV ⟨iOf (ρ x), iOf (ρ y), iOf (ρ z), zeroB⟩)) w := by
  have e1 := isI_eq h1
  have e2 := isI_eq h2
  have e3 := isI_eq h3
  have hb := build3 (iOf (ρ x)) (iOf (ρ y)) (iOf (ρ z)) w
  rw [← e1, ← e2, ← e3] at hb
  simp only [execOp, List.map_toArray, List.map_cons, List.map_nil]
  simp only [Sem.run_bind, hb, Result.andThen_ok, Sem.run_pure]
theorem exec_build4 (h1 : isI (ρ x) = true) (h2 : isI (ρ y) = true) (h3 : isI (ρ z) = true) (h4 : OneN 48 (ρ u)) : (execOp ρ ⟨d, .build 116 #[(0, x), (1, y), (2, z), (3, u)], t, p, af, gd⟩).run Try.prog w = .ok (.value (.agg (.int .i64 (iOf (ρ x)) :: .int .i64 (iOf (ρ y)) :: .int .i64 (iOf (ρ z)) :: cellsV (ρ u)).toArray)) w := by
  have e1 := isI_eq h1
  have e2 := isI_eq h2
  have e3 := isI_eq h3
  obtain ⟨vs, hn, _, e4⟩ := h4
  have e5 : vs = (List.range 48).map fun j => vs.getD j undef := by
    apply List.ext_getElem?
    intro j
    by_cases hj : j < 48
    · simp [hj, List.getD_eq_getElem?_getD, List.getElem?_eq_getElem (show j < vs.length by omega)]
    · rw [List.getElem?_eq_none (by omega), List.getElem?_eq_none (by simp; omega)]
  have hb := build4 (iOf (ρ x)) (iOf (ρ y)) (iOf (ρ z)) (fun j => vs.getD j undef) w
  rw [← e5, ← e4, ← e1, ← e2, ← e3] at hb
  simp only [execOp, List.map_toArray, List.map_cons, List.map_nil]
  simp only [Sem.run_bind, hb, Result.andThen_ok, Sem.run_pure]
  rw [← e1, ← e2, ← e3]
  conv => rhs; rw [e4, cellsV_mk]
end
theorem oneN_sct (s : Sct) : OneN 51 (.agg (sctL s).toArray) := ⟨_, sctL_length s, sctL_one s, rfl⟩
theorem oneN_blk (b : Blk) : OneN 48 (.agg (blkL b).toArray) := ⟨_, blkL_length b, blkL_one b, rfl⟩
theorem sct_fold (k t n : Int) (b : Blk) : (Value.int .i64 k :: .int .i64 t :: .int .i64 n :: blkL b) = sctL ⟨k, t, n, b⟩ := not_rfl rfl
attribute [local go_sem ↓] exec_load116 exec_store116 exec_alloc116 exec_load112 exec_store112 exec_alloc112 exec_build3 exec_build4
attribute [local go_sem] isPt_mk adOf_mk isI_mk iOf_mk cellsV_mk sctL_length blkL_length setCells_drew oneN_sct oneN_blk roomN_new isRow_new cellL_new alloc_setN roomN_past isRow_past cellL_past roomN_drew isRow_drew cellL_drew setCells_size setCells_past
theorem bytes_blkOf {l : List Byte} (h : l.length ≤ 48) : bytesB (blkOf l) = l ++ List.replicate (48 - l.length) 0 := by
  apply List.ext_getElem?
  intro j
  by_cases hj : j < 48
  · rw [bytesB_get _ hj]
    unfold blkOf
    rw [if_pos hj, List.getD_eq_getElem?_getD]
    by_cases hl : j < l.length
    · rw [List.getElem?_append_left hl, List.getElem?_eq_getElem hl]; rfl
    · rw [List.getElem?_append_right (by omega), List.getElem?_eq_none (by omega), List.getElem?_replicate, if_pos (by omega)]; rfl
  · rw [List.getElem?_eq_none (by rw [bytesB_length]; omega), List.getElem?_eq_none (by simp; omega)]
theorem blkL_zero : blkL zeroB = List.replicate 48 (byteV 0) := by
  unfold blkL
  rw [show bytesB zeroB = List.replicate 48 0 by decide, List.map_replicate]
/-- A number is put into a sector's data. -/
theorem put_data (X : World) (k t n : Int) (l m : List Byte) (h : l.length + m.length ≤ 48) : (X.alloc (.cells (sctL ⟨k, t, n, blkOf l⟩).toArray 116)).setCells X.heap.size (3 + l.length) (m.map byteV) = X.alloc (.cells (sctL ⟨k, t, n, blkOf (l ++ m)⟩).toArray 116) := by
  have h1 := alloc_setCellsL X 116 (m.map byteV) (.int .i64 k :: .int .i64 t :: .int .i64 n :: l.map byteV) (List.replicate m.length (byteV 0)) (List.replicate (48 - (l.length + m.length)) (byteV 0)) (by simp)
  have e1 : (sctL ⟨k, t, n, blkOf l⟩) = (.int .i64 k :: .int .i64 t :: .int .i64 n :: l.map byteV) ++ List.replicate m.length (byteV 0) ++ List.replicate (48 - (l.length + m.length)) (byteV 0) := by
    unfold sctL blkL
    rw [bytes_blkOf (by omega), List.map_append, List.map_replicate, List.append_assoc, List.replicate_append_replicate, show m.length + (48 - (l.length + m.length)) = 48 - l.length by omega]
    rfl
  have e2 : (sctL ⟨k, t, n, blkOf (l ++ m)⟩) = (.int .i64 k :: .int .i64 t :: .int .i64 n :: l.map byteV) ++ m.map byteV ++ List.replicate (48 - (l.length + m.length)) (byteV 0) := by
    unfold sctL blkL
    rw [bytes_blkOf (by rw [List.length_append]; omega), List.map_append, List.map_append, List.map_replicate, List.length_append]
    rfl
  rw [e1, e2, ← h1]
  congr 1
  simp
  omega
theorem zeroB_of : zeroB = blkOf [] := by
  funext j
  unfold blkOf zeroB
  split <;> rfl
theorem res73 (W : World) (s : Sct) (o : Obj) (tmps : Array Value) (ht : tmps.getD 8 undef = .pointer (some ⟨W.heap.size, 0, none⟩)) :
    (results Try.f73 tmps).run Try.prog ((W.alloc (.cells (sctL s).toArray 116)).alloc o) = .ok (sctV s) ((W.alloc (.cells (sctL s).toArray 116)).alloc o) :=
  results_cell_row (p := 8) (ty := 116) rfl tmps _ W.heap.size 116 (sctL s).toArray (0, 0) _ ht ((heap_alloc_lt (by simp)).trans (heap_alloc_new _ _)) Try.underlying116 rfl (by rw [List.size_toArray, sctL_length]; exact z116)
set_option maxRecDepth 10000 in
theorem headOf_any (w : World) (turn log at_ next : Nat) (ha : at_ ≤ 9223372036854775807) (hn : next ≤ 9223372036854775807) : Calls Try.prog 73 #[.int .i64 turn, .int .i64 log, .int .i64 at_, .int .i64 next] w fun e w' => e = .returned (sctV (headSct turn log at_ next)) ∧ Below w.heap.size w w' := by
  have hp1 := put_data (w.alloc (.cells (sctL zeroSct).toArray 116)) 1 turn log [] (numB 2 at_) (by simp [numB_length])
  have hp2 := put_data (w.alloc (.cells (sctL zeroSct).toArray 116)) 1 turn log (numB 2 at_) (numB 5 next) (by simp [numB_length])
  rw [numB_length] at hp2
  simp only [← zeroB_of, List.length_nil, List.nil_append, Nat.add_zero, World.size_alloc] at hp1 hp2
  have HP1 := Lib.hid hp1
  have HP2 := Lib.hid hp2
  clear hp1 hp2
  have R : ∀ (d : Blk) (o n : Nat), o + n ≤ 51 → RoomN n ((w.alloc (.cells (sctL zeroSct).toArray 116)).alloc (.cells (sctL ⟨1, turn, log, d⟩).toArray 116)) ⟨w.heap.size + 1, o, none⟩ := fun d o n h => by
    have := (roomN_new (w.alloc (.cells (sctL zeroSct).toArray 116)) 116 (sctL ⟨1, turn, log, d⟩) (n := w.heap.size + 1) (by simp) (sctL_length _)).2
    exact ⟨rfl, fun j hj => by have := this (o + j) (by omega); rw [Nat.zero_add] at this; exact this⟩
  have HR := Lib.hid R
  clear R
  go_enter Try.func73, Try.ntmps73
  go_wp2_with fail
  refine Calls.mono (put_any _ (w.heap.size + 1) 3 2 48 at_ (by omega) (HR.out _ 3 2 (by omega)) (by omega)) ?_
  rintro e w' ⟨⟨u, rfl⟩, rfl⟩
  rw [HP1.out]
  go_wp2_with fail
  refine Calls.mono (put_any _ (w.heap.size + 1) 5 5 46 next (by omega) (HR.out _ 5 5 (by omega)) (by omega)) ?_
  rintro e w' ⟨⟨u, rfl⟩, rfl⟩
  rw [HP2.out]
  go_wp2_with fail
  refine bodyPost_ret (res73 _ _ _ _ rfl) rfl ?_
  exact ⟨rfl, Below.step (Below.new _ _) (Below.new _ _)⟩
end Go.Proofs.Ytdhidcoglioalaa.Walks
