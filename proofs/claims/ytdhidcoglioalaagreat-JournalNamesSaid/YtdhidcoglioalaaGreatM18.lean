/-
  A head's fields; a sector is read.
  A sector is read.
-/
import Derived.Test.YtdhidcoglioalaaGreatM12
import Derived.Laws.ResultCell
import Derived.Deep.RegionHeld3
import Derived.Deep.DrawnRows
import Derived.Deep.CutRange
namespace Go.Proofs.YtdhidcoglioalaaGreat.Walks
open Go.RowKit Plain
set_option linter.unusedVariables false

theorem z116 : (Tryz.prog.info? 52).map (·.size) = some 51 := by kernel_rfl
theorem z112 : (Tryz.prog.info? 48).map (·.size) = some 48 := by kernel_rfl
def zeroSct : Sct := ⟨0, 0, 0, zeroB⟩
theorem zeroSct_eq : (sctL zeroSct).toArray = (#[.int .i64 0, .int .i64 0, .int .i64 0] ++ Array.replicate 48 (.int .u8 0)) := by
  unfold sctL blkL
  have : (bytesB zeroB) = List.replicate 48 0 := by decide
  show (_ :: _ :: _ :: (bytesB zeroB).map byteV).toArray = _
  rw [this]
  rfl
theorem zero116 (w : World) : (zeroValue 52).run Tryz.prog w = .ok (sctV zeroSct) w := by
  kernel_rfl
theorem zero112 (w : World) : (zeroValue 48).run Tryz.prog w = .ok (blkV zeroB) w := by
  kernel_rfl
section
variable {ρ : Operand → Value} {d : Option Tmp} {x y : Operand} {t : TypeId} {p : String} {af : Array Edge} {gd : Option (Nat × Bool)} {w : World}
theorem exec_load116 (h1 : isPt (ρ x) = true) (h2 : IsRow 51 w (adOf (ρ x))) : (execOp ρ ⟨d, .load 52 x, t, p, af, gd⟩).run Tryz.prog w = .ok (.value (.agg (cellL 51 w (adOf (ρ x))).toArray)) w := exec_loadN Tryz.underlying52 rfl z116 h1 h2
theorem exec_store116 (h1 : isPt (ρ x) = true) (h2 : RoomN 51 w (adOf (ρ x))) (h3 : OneN 51 (ρ y)) : (execOp ρ ⟨d, .store 52 x y, t, p, af, gd⟩).run Tryz.prog w = .ok .skip (w.setCells (adOf (ρ x)).block (adOf (ρ x)).off (cellsV (ρ y))) := exec_storeN z116 h1 h2 h3
theorem exec_alloc116 : (execOp ρ ⟨d, .alloc 52, t, p, af, gd⟩).run Tryz.prog w = .ok (.value (.pointer (some ⟨w.heap.size, 0, none⟩))) (w.alloc (.cells (sctL zeroSct).toArray 52)) := exec_allocN zero116
theorem exec_load112 (h1 : isPt (ρ x) = true) (h2 : IsRow 48 w (adOf (ρ x))) : (execOp ρ ⟨d, .load 48 x, t, p, af, gd⟩).run Tryz.prog w = .ok (.value (.agg (cellL 48 w (adOf (ρ x))).toArray)) w := exec_loadN Tryz.underlying48 rfl z112 h1 h2
theorem exec_store112 (h1 : isPt (ρ x) = true) (h2 : RoomN 48 w (adOf (ρ x))) (h3 : OneN 48 (ρ y)) : (execOp ρ ⟨d, .store 48 x y, t, p, af, gd⟩).run Tryz.prog w = .ok .skip (w.setCells (adOf (ρ x)).block (adOf (ρ x)).off (cellsV (ρ y))) := exec_storeN z112 h1 h2 h3
theorem exec_alloc112 : (execOp ρ ⟨d, .alloc 48, t, p, af, gd⟩).run Tryz.prog w = .ok (.value (.pointer (some ⟨w.heap.size, 0, none⟩))) (w.alloc (.cells (blkL zeroB).toArray 48)) := exec_allocN zero112
end
/-! A struct of fields -/
def isI : Value → Bool
  | .int .i64 _ => true
  | _ => false
def iOf : Value → Int
  | .int _ n => n
  | _ => 0
theorem isI_mk (n : Int) : isI (.int .i64 n) = true := not_rfl rfl
theorem iOf_mk (n : Int) : iOf (.int .i64 n) = n := not_rfl rfl
theorem isI_eq {v : Value} (h : isI v = true) : v = .int .i64 (iOf v) := by
  unfold isI at h
  split at h
  · rfl
  · cases h
theorem build3 (k t n : Int) (w : World) : (Instr.build 52 #[(0, .int .i64 k), (1, .int .i64 t), (2, .int .i64 n)]).run Tryz.prog w = .ok (sctV ⟨k, t, n, zeroB⟩) w := by
  kernel_rfl
theorem build4 (k t n : Int) (f : Nat → Value) (w : World) : (Instr.build 52 #[(0, .int .i64 k), (1, .int .i64 t), (2, .int .i64 n), (3, .agg ((List.range 48).map f).toArray)]).run Tryz.prog w = .ok (.agg (.int .i64 k :: .int .i64 t :: .int .i64 n :: (List.range 48).map f).toArray) w := by
  kernel_rfl
section
variable {ρ : Operand → Value} {d : Option Tmp} {x y z u : Operand} {t : TypeId} {p : String} {af : Array Edge} {gd : Option (Nat × Bool)} {w : World}
theorem exec_build3 (h1 : isI (ρ x) = true) (h2 : isI (ρ y) = true) (h3 : isI (ρ z) = true) : (execOp ρ ⟨d, .build 52 #[(0, x), (1, y), (2, z)], t, p, af, gd⟩).run Tryz.prog w = .ok (.value (sctV ⟨iOf (ρ x), iOf (ρ y), iOf (ρ z), zeroB⟩)) w := by
  have e1 := isI_eq h1
  have e2 := isI_eq h2
  have e3 := isI_eq h3
  have hb := build3 (iOf (ρ x)) (iOf (ρ y)) (iOf (ρ z)) w
  rw [← e1, ← e2, ← e3] at hb
  simp only [execOp, List.map_toArray, List.map_cons, List.map_nil]
  simp only [Sem.run_bind, hb, Result.andThen_ok, Sem.run_pure]
theorem exec_build4 (h1 : isI (ρ x) = true) (h2 : isI (ρ y) = true) (h3 : isI (ρ z) = true) (h4 : OneN 48 (ρ u)) : (execOp ρ ⟨d, .build 52 #[(0, x), (1, y), (2, z), (3, u)], t, p, af, gd⟩).run Tryz.prog w = .ok (.value (.agg (.int .i64 (iOf (ρ x)) :: .int .i64 (iOf (ρ y)) :: .int .i64 (iOf (ρ z)) :: cellsV (ρ u)).toArray)) w := by
  have e1 := isI_eq h1
  have e2 := isI_eq h2
  have e3 := isI_eq h3
  obtain ⟨vs, hn, _, e4⟩ := h4
  have e5 : vs = (List.range 48).map fun j => vs.getD j undef := by
    apply List.ext_getElem?
    intro j
    by_cases hj : j < 48
    · simp [hj, List.getD_eq_getElem?_getD, List.getElem?_eq_getElem (show j < vs.length by omega)]
    · rw [List.getElem?_eq_none (by omega), List.getElem?_eq_none (by simp; omega)]
  have hb := build4 (iOf (ρ x)) (iOf (ρ y)) (iOf (ρ z)) (fun j => vs.getD j undef) w
  rw [← e5, ← e4, ← e1, ← e2, ← e3] at hb
  simp only [execOp, List.map_toArray, List.map_cons, List.map_nil]
  simp only [Sem.run_bind, hb, Result.andThen_ok, Sem.run_pure]
  rw [← e1, ← e2, ← e3]
  conv => rhs; rw [e4, cellsV_mk]
end
theorem oneN_sct (s : Sct) : OneN 51 (.agg (sctL s).toArray) := ⟨_, sctL_length s, sctL_one s, rfl⟩
theorem oneN_blk (b : Blk) : OneN 48 (.agg (blkL b).toArray) := ⟨_, blkL_length b, blkL_one b, rfl⟩
theorem sct_fold (k t n : Int) (b : Blk) : (Value.int .i64 k :: .int .i64 t :: .int .i64 n :: blkL b) = sctL ⟨k, t, n, b⟩ := not_rfl rfl
attribute [local go_sem ↓] exec_load116 exec_store116 exec_alloc116 exec_load112 exec_store112 exec_alloc112 exec_build3 exec_build4
attribute [local go_sem] isPt_mk adOf_mk isI_mk iOf_mk cellsV_mk sctL_length blkL_length setCells_drew oneN_sct oneN_blk roomN_new isRow_new cellL_new alloc_setN roomN_past isRow_past cellL_past roomN_drew isRow_drew cellL_drew setCells_size setCells_past
theorem bytes_blkOf {l : List Byte} (h : l.length ≤ 48) : bytesB (blkOf l) = l ++ List.replicate (48 - l.length) 0 := by
  apply List.ext_getElem?
  intro j
  by_cases hj : j < 48
  · rw [bytesB_get _ hj]
    unfold blkOf
    rw [if_pos hj, List.getD_eq_getElem?_getD]
    by_cases hl : j < l.length
    · rw [List.getElem?_append_left hl, List.getElem?_eq_getElem hl]; rfl
    · rw [List.getElem?_append_right (by omega), List.getElem?_eq_none (by omega), List.getElem?_replicate, if_pos (by omega)]; rfl
  · rw [List.getElem?_eq_none (by rw [bytesB_length]; omega), List.getElem?_eq_none (by simp; omega)]
theorem blkL_zero : blkL zeroB = List.replicate 48 (byteV 0) := by
  unfold blkL
  rw [show bytesB zeroB = List.replicate 48 0 by decide, List.map_replicate]
/-- A number is put into a sector's data. -/
theorem put_data (X : World) (k t n : Int) (l m : List Byte) (h : l.length + m.length ≤ 48) : (X.alloc (.cells (sctL ⟨k, t, n, blkOf l⟩).toArray 52)).setCells X.heap.size (3 + l.length) (m.map byteV) = X.alloc (.cells (sctL ⟨k, t, n, blkOf (l ++ m)⟩).toArray 52) := by
  have h1 := alloc_setCellsL X 52 (m.map byteV) (.int .i64 k :: .int .i64 t :: .int .i64 n :: l.map byteV) (List.replicate m.length (byteV 0)) (List.replicate (48 - (l.length + m.length)) (byteV 0)) (by simp)
  have e1 : (sctL ⟨k, t, n, blkOf l⟩) = (.int .i64 k :: .int .i64 t :: .int .i64 n :: l.map byteV) ++ List.replicate m.length (byteV 0) ++ List.replicate (48 - (l.length + m.length)) (byteV 0) := by
    unfold sctL blkL
    rw [bytes_blkOf (by omega), List.map_append, List.map_replicate, List.append_assoc, List.replicate_append_replicate, show m.length + (48 - (l.length + m.length)) = 48 - l.length by omega]
    rfl
  have e2 : (sctL ⟨k, t, n, blkOf (l ++ m)⟩) = (.int .i64 k :: .int .i64 t :: .int .i64 n :: l.map byteV) ++ m.map byteV ++ List.replicate (48 - (l.length + m.length)) (byteV 0) := by
    unfold sctL blkL
    rw [bytes_blkOf (by rw [List.length_append]; omega), List.map_append, List.map_append, List.map_replicate, List.length_append]
    rfl
  rw [e1, e2, ← h1]
  congr 1
  simp
  omega
theorem zeroB_of : zeroB = blkOf [] := by
  funext j
  unfold blkOf zeroB
  split <;> rfl
theorem res73 (W : World) (s : Sct) (o : Obj) (tmps : Array Value) (ht : tmps.getD 8 undef = .pointer (some ⟨W.heap.size, 0, none⟩)) :
    (results Tryz.f26 tmps).run Tryz.prog ((W.alloc (.cells (sctL s).toArray 52)).alloc o) = .ok (sctV s) ((W.alloc (.cells (sctL s).toArray 52)).alloc o) :=
  results_cell_row (p := 8) (ty := 52) rfl tmps _ W.heap.size 52 (sctL s).toArray (0, 0) _ ht ((heap_alloc_lt (by simp)).trans (heap_alloc_new _ _)) Tryz.underlying52 rfl (by rw [List.size_toArray, sctL_length]; exact z116)
set_option maxRecDepth 10000 in
theorem headOf_any (w : World) (turn log at_ next : Nat) (ha : at_ ≤ 9223372036854775807) (hn : next ≤ 9223372036854775807) : Calls Tryz.prog 26 #[.int .i64 turn, .int .i64 log, .int .i64 at_, .int .i64 next] w fun e w' => e = .returned (sctV (headSct turn log at_ next)) ∧ Below w.heap.size w w' := by
  have hp1 := put_data (w.alloc (.cells (sctL zeroSct).toArray 52)) 1 turn log [] (numB 2 at_) (by simp [numB_length])
  have hp2 := put_data (w.alloc (.cells (sctL zeroSct).toArray 52)) 1 turn log (numB 2 at_) (numB 5 next) (by simp [numB_length])
  rw [numB_length] at hp2
  simp only [← zeroB_of, List.length_nil, List.nil_append, Nat.add_zero, World.size_alloc] at hp1 hp2
  have HP1 := Lib.hid hp1
  have HP2 := Lib.hid hp2
  clear hp1 hp2
  have R : ∀ (d : Blk) (o n : Nat), o + n ≤ 51 → RoomN n ((w.alloc (.cells (sctL zeroSct).toArray 52)).alloc (.cells (sctL ⟨1, turn, log, d⟩).toArray 52)) ⟨w.heap.size + 1, o, none⟩ := fun d o n h => by
    have := (roomN_new (w.alloc (.cells (sctL zeroSct).toArray 52)) 52 (sctL ⟨1, turn, log, d⟩) (n := w.heap.size + 1) (by simp) (sctL_length _)).2
    exact ⟨rfl, fun j hj => by have := this (o + j) (by omega); rw [Nat.zero_add] at this; exact this⟩
  have HR := Lib.hid R
  clear R
  go_enter Tryz.func26, Tryz.ntmps26
  go_wp2_with fail
  refine Calls.mono (put_any _ (w.heap.size + 1) 3 2 48 at_ (by omega) (HR.out _ 3 2 (by omega)) (by omega)) ?_
  rintro e w' ⟨⟨u, rfl⟩, rfl⟩
  rw [HP1.out]
  go_wp2_with fail
  refine Calls.mono (put_any _ (w.heap.size + 1) 5 5 46 next (by omega) (HR.out _ 5 5 (by omega)) (by omega)) ?_
  rintro e w' ⟨⟨u, rfl⟩, rfl⟩
  rw [HP2.out]
  go_wp2_with fail
  refine bodyPost_ret (res73 _ _ _ _ rfl) rfl ?_
  exact ⟨rfl, Below.step (Below.new _ _) (Below.new _ _)⟩
end Go.Proofs.YtdhidcoglioalaaGreat.Walks
namespace Go.Proofs.YtdhidcoglioalaaGreat.Walks
open Go.RowKit Plain
set_option linter.unusedVariables false
attribute [local go_sem ↓] exec_load116 exec_store116 exec_alloc116 exec_load112 exec_store112 exec_alloc112 exec_build3 exec_build4 Go.wp_at_zero Go.wp_at_succ
attribute [local go_sem] isPt_mk adOf_mk isI_mk iOf_mk cellsV_mk sctL_length blkL_length setCells_drew oneN_sct oneN_blk roomN_new isRow_new cellL_new alloc_setN roomN_past isRow_past cellL_past roomN_drew isRow_drew cellL_drew setCells_size setCells_past

section
variable {ρ : Operand → Value} {d : Option Tmp} {x y : Operand} {t T : TypeId} {p : String} {af : Array Edge} {gd : Option (Nat × Bool)} {w : World}
theorem exec_load112T (hT : Hid (T = 48)) (h1 : isPt (ρ x) = true) (h2 : IsRow 48 w (adOf (ρ x))) : (execOp ρ ⟨d, .load T x, t, p, af, gd⟩).run Tryz.prog w = .ok (.value (.agg (cellL 48 w (adOf (ρ x))).toArray)) w := by
  rw [hT.out]
  exact exec_load112 h1 h2
theorem exec_store116T (hT : Hid (T = 52)) (h1 : isPt (ρ x) = true) (h2 : RoomN 51 w (adOf (ρ x))) (h3 : OneN 51 (ρ y)) : (execOp ρ ⟨d, .store T x y, t, p, af, gd⟩).run Tryz.prog w = .ok .skip (w.setCells (adOf (ρ x)).block (adOf (ρ x)).off (cellsV (ρ y))) := by
  rw [hT.out]
  exact exec_store116 h1 h2 h3
theorem exec_load116T (hT : Hid (T = 52)) (h1 : isPt (ρ x) = true) (h2 : IsRow 51 w (adOf (ρ x))) : (execOp ρ ⟨d, .load T x, t, p, af, gd⟩).run Tryz.prog w = .ok (.value (.agg (cellL 51 w (adOf (ρ x))).toArray)) w := by
  rw [hT.out]
  exact exec_load116 h1 h2
end
theorem oneN_fields (k t n : Int) (d : Blk) : OneN 51 (.agg (.int .i64 k :: .int .i64 t :: .int .i64 n :: blkL d).toArray) := oneN_sct ⟨k, t, n, d⟩
theorem Bys.cut {w : World} {g o : Nat} {b : Sec} (h : Bys w (some ⟨g, o, none⟩) (bytesOf b)) (i n : Nat) (hi : i + n ≤ 64) : Bys w (some ⟨g, o + i, none⟩) (cutS b i n) := by
  have hl := cutS_length b i n
  refine ⟨by omega, .inr ⟨g, o + i, rfl, fun j hj => ?_⟩⟩
  rw [hl] at hj
  obtain ⟨b', off', e, _, hc⟩ := h.at_lt (i := 0) (by rw [bytesOf_length]; omega)
  cases e
  have := hc (i + j) (by rw [bytesOf_length]; omega)
  rw [Nat.add_assoc, this]
  simp [bytesOf, cutS]
theorem Bys.row48 {w : World} {g o : Nat} {l : List Byte} (h : Bys w (some ⟨g, o, none⟩) l) (hl : l.length = 48) : RowAt w ⟨g, o, none⟩ (blkL (blkOf l)) := by
  refine ⟨rfl, fun j v hv => ?_⟩
  unfold blkL at hv
  rw [bytes_blk hl, List.getElem?_map] at hv
  obtain ⟨x, hx, rfl⟩ := Option.map_eq_some_iff.1 hv
  obtain ⟨hj, rfl⟩ := List.getElem?_eq_some_iff.1 hx
  obtain ⟨b', off', e, _, hc⟩ := h.at_lt hj
  cases e
  exact hc j hj
theorem arrayAt112 (w : World) (ad : Addr) (cap : Nat) : (Instr.arrayAt 48 (.slice (some ad) 48 cap)).run Tryz.prog w = .ok (.pointer (some ad)) w := by
  simp [Instr.arrayAt, run_underlying Tryz.underlying48]
theorem getV5 (b : Sec) : getV (cutS b 1 5) = getN (cutS b 1 5) := getV_small (by rw [cutS_length]; omega)
theorem getV2 (b : Sec) : getV (cutS b 6 2) = getN (cutS b 6 2) := getV_small (by rw [cutS_length]; omega)
theorem getN5_lt (b : Sec) : getN (cutS b 1 5) < 1099511627776 := by have := getN_lt (cutS b 1 5); rw [cutS_length] at this; exact this
theorem getN2_lt (b : Sec) : getN (cutS b 6 2) < 65536 := by have := getN_lt (cutS b 6 2); rw [cutS_length] at this; exact this
set_option maxRecDepth 10000 in
theorem get_n (w : World) (a : Option Addr) (l : List Byte) (n cap : Nat) (hl : l.length = n) (hB : Bys w a l) : Calls Tryz.prog 49 #[.slice a n cap] w fun e w' => e = .returned (.int .i64 (getV l)) ∧ w = w' := by
  subst hl
  exact get_any w a l cap hB
attribute [local go_sem ↓] exec_load112T exec_store116T exec_load116T
attribute [local go_sem] oneN_fields
theorem res70 {W : World} {s : Sct} {ok : Bool} {g : Nat} {tmps : Array Value} (h2 : tmps.getD 2 undef = .pointer (some ⟨g, 0, none⟩)) (h3 : tmps.getD 3 undef = .bool ok) (h : RowAt W ⟨g, 0, none⟩ (sctL s)) :
    (results Tryz.f17 tmps).run Tryz.prog W = .ok (.tuple #[sctV s, .bool ok]) W := by
  have hr : (loadVar 52 ⟨g, 0, none⟩).run Tryz.prog W = .ok (sctV s) W := run_loadVar_mid W g 0 52 (sctL s) _ h.2 Tryz.underlying52 rfl (by rw [sctL_length]; exact z116)
  rw [Array.getD_eq_getD_getElem?] at h2 h3
  simp [results, Tryz.results17, asAddr, h2, h3, hr, Result.andThen]
set_option maxHeartbeats 400000 in
set_option maxRecDepth 10000 in
theorem parse_any (w : World) (g o : Nat) (b : Sec) (hB : Bys w (some ⟨g, o, none⟩) (bytesOf b)) : Calls Tryz.prog 17 #[.slice (some ⟨g, o, none⟩) 64 64] w fun e w' =>
    e = .returned (.tuple #[sctV (parseS b), .bool (parseOk b)]) ∧ Below w.heap.size w w' := by
  obtain ⟨b', off', e, hg, hc⟩ := hB.at_lt (i := 0) (by rw [bytesOf_length]; omega)
  cases e
  obtain ⟨w1, hw1⟩ : ∃ x, x = w.alloc (.cells (sctL zeroSct).toArray 52) := ⟨_, rfl⟩
  have hb1 : Below w.heap.size w w1 := by rw [hw1]; exact Below.new _ _
  have HBW := Lib.hid hb1
  have hB1 := hB.below hb1
  have hg1 : g < w1.heap.size := Nat.lt_of_lt_of_le hg hb1.size
  have c0 : w1.cell? ⟨g, o, none⟩ = some (.int .u8 ((b 0).toNat : Int)) := by
    obtain ⟨b', off', e, _, hc⟩ := hB1.at_lt (i := 0) (by rw [bytesOf_length]; omega)
    cases e
    have := hc 0 (by rw [bytesOf_length]; omega)
    rw [Nat.add_zero] at this
    rw [this]
    simp [bytesOf, byteV]
  obtain ⟨v5, hv5⟩ : ∃ v, v = getV (cutS b 1 5) := ⟨_, rfl⟩
  obtain ⟨v2, hv2⟩ : ∃ v, v = getV (cutS b 6 2) := ⟨_, rfl⟩
  have HC5 : Hid (∀ w', Below w1.heap.size w1 w' → Calls Tryz.prog 49 #[.slice (some ⟨g, o + 1, none⟩) 5 63] w' fun e w'' => e = .returned (.int .i64 v5) ∧ w' = w'') := Lib.hid fun w' hb => by
    rw [hv5]; exact get_n w' _ _ 5 63 (cutS_length _ _ _) ((hB1.cut 1 5 (by omega)).below hb)
  have HC2 : Hid (∀ w', Below w1.heap.size w1 w' → Calls Tryz.prog 49 #[.slice (some ⟨g, o + 6, none⟩) 2 58] w' fun e w'' => e = .returned (.int .i64 v2) ∧ w' = w'') := Lib.hid fun w' hb => by
    rw [hv2]; exact get_n w' _ _ 2 58 (cutS_length _ _ _) ((hB1.cut 6 2 (by omega)).below hb)
  have hw0 := IntWalk.i64_in (n := ((b 0).toNat : Int)) (by have := (b 0).isLt; omega)
  have HV5 := Lib.hid hv5
  have HV2 := Lib.hid hv2
  clear hv5 hv2
  have HG8 := Lib.hid (hB1.cut 56 8 (by omega))
  have HG56 := Lib.hid (hB1.cut 0 56 (by omega))
  have hrow := (hB1.cut 8 48 (by omega)).row48 (cutS_length _ _ _)
  have his := hrow.is (blkL_length _)
  have hcl := hrow.cells (blkL_length _)
  have MK : Hid (∀ w', Below w1.heap.size w1 w' → w'.cell? ⟨g, o, none⟩ = some (.int .u8 ((b 0).toNat : Int)) ∧ IsRow 48 w' ⟨g, o + 8, none⟩ ∧ cellL 48 w' ⟨g, o + 8, none⟩ = blkL (blkOf (cutS b 8 48))) := Lib.hid fun w' hb => by
    have hr := hrow.below hb hg1
    exact ⟨(hb.cell (p := ⟨g, o, none⟩) hg1).trans c0, hr.is (blkL_length _), hr.cells (blkL_length _)⟩
  have hat := arrayAt112
  have HB1 := Lib.hid hb1
  have hS : Below w1.heap.size w1 w1 := Below.refl _ _
  obtain ⟨S0, S1, S2⟩ := MK.out w1 hS
  have HRoom : Hid (∀ w', Below w1.heap.size w1 w' → RoomN 51 w' ⟨w.heap.size, 0, none⟩) := Lib.hid fun w' hb => by
    have h0 : RoomN 51 w1 ⟨w.heap.size, 0, none⟩ := by rw [hw1]; exact roomN_new w 52 _ rfl (sctL_length _)
    have hl : w.heap.size < w1.heap.size := by rw [hw1]; simp
    exact ⟨rfl, fun j hj => by
      obtain ⟨h1, h2⟩ := h0.2 j hj
      exact ⟨by rw [hb.cell (p := ⟨w.heap.size, 0 + j, none⟩) hl]; exact h1, by rw [hb.frozen (p := ⟨w.heap.size, 0 + j, none⟩) hl]; exact h2⟩⟩
  have HSz := Lib.hid (show w1.heap.size = w.heap.size + 1 by rw [hw1]; simp)
  have HPS : Hid (sctL (parseS b) = (.int .i64 ((b 0).toNat : Int) :: .int .i64 v5 :: .int .i64 v2 :: blkL (blkOf (cutS b 8 48)))) := Lib.hid (by
    rw [HV5.out, HV2.out, getV5, getV2]; rfl)
  clear hB hc hB1 hb1 hrow c0 his hcl
  obtain ⟨v8, hv8⟩ : ∃ v, v = getV (cutS b 56 8) := ⟨_, rfl⟩
  obtain ⟨x, hx⟩ : ∃ x, x = Math.sumOf (cutS b 0 56) := ⟨_, rfl⟩
  have HC8 : Hid (∀ w', Below w1.heap.size w1 w' → Calls Tryz.prog 49 #[.slice (some ⟨g, o + 56, none⟩) 8 8] w' fun e w'' => e = .returned (.int .i64 v8) ∧ w' = w'') := Lib.hid fun w' hb => by
    rw [hv8]; exact get_n w' _ _ 8 8 (cutS_length _ _ _) (HG8.out.below hb)
  have HCS : Hid (∀ w', Below w1.heap.size w1 w' → Calls Tryz.prog 50 #[.slice (some ⟨g, o, none⟩) 56 64] w' fun e w'' => e = .returned (.int .u64 (x.toNat : Int)) ∧ Below w'.heap.size w' w'') := Lib.hid fun w' hb => by
    have := sumOf_any w' (some ⟨g, o + 0, none⟩) (cutS b 0 56) 64 (HG56.out.below hb)
    rw [cutS_length, Nat.add_zero, ← hx] at this
    exact this
  have hok : ((IntKind.u64.wrap v8 == (x.toNat : Int))) = parseOk b := by
    unfold parseOk
    rw [hv8, hx, getV]
    generalize BitVec.ofNat 64 (getN (cutS b 56 8)) = p
    generalize Math.sumOf (cutS b 0 56) = q
    have h1 : IntKind.u64.wrap p.toInt = (p.toNat : Int) := by
      have h := BitVec.toInt_eq_toNat_cond p
      have hx := p.isLt
      have e' : (2 ^ 64 : Nat) = 18446744073709551616 := by decide
      rw [e'] at *
      rw [IntKind.wrap_u64]
      split at h <;> omega
    rw [h1]
    by_cases e : p = q
    · rw [e]; simp
    · have h2 : ¬ p.toNat = q.toNat := fun h => e (BitVec.eq_of_toNat_eq h)
      rw [decide_eq_false e, beq_eq_false_iff_ne]
      omega
  have HV8 := Lib.hid hv8
  have HX := Lib.hid hx
  have HOK := Lib.hid hok
  clear hv8 hx hok
  go_enter Tryz.func17, Tryz.ntmps17
  go_upto_region 1 with (fail)
  rw [← hw1]
  clear hw1
  go_cut [4] from 4 to 20 (fun v4 wx => v4 = .pointer (some ⟨w1.heap.size, 0, none⟩) ∧ Hid (Below w1.heap.size w1 wx) ∧ Hid (RowAt wx ⟨w1.heap.size, 0, none⟩ (sctL (parseS b))) ∧ Hid (w1.heap.size < wx.heap.size))
  case first =>
    obtain ⟨T, hT⟩ : ∃ T : TypeId, T = 48 := ⟨_, rfl⟩
    rw [show Op.load 48 (Operand.tmp 17) = Op.load T (Operand.tmp 17) by rw [hT]]
    have HT := Lib.hid hT
    clear hT
    obtain ⟨T6, hT6⟩ : ∃ T : TypeId, T = 52 := ⟨_, rfl⟩
    rw [show Op.store 52 (Operand.tmp 4) (Operand.tmp 19) = Op.store T6 (Operand.tmp 4) (Operand.tmp 19) by rw [hT6]]
    have HT6 := Lib.hid hT6
    clear hT6
    go_region_held3 (fun w' => w'.cell? ⟨g, o, none⟩ = some (.int .u8 ((b 0).toNat : Int)) ∧ IsRow 48 w' ⟨g, o + 8, none⟩ ∧ cellL 48 w' ⟨g, o + 8, none⟩ = blkL (blkOf (cutS b 8 48)))
      (first | with_reducible exact MK.out _ hS | with_reducible exact MK.out _ hS.drew | with_reducible exact MK.out _ (Below.step hS (Below.new _ _)) | with_reducible exact MK.out _ (Below.step hS.drew (Below.new _ _)))
      ((first
      | (go_at_call 49; ((with_reducible refine Calls.mono (HC5.out _ ?_) ?_); (first | with_reducible exact hS | with_reducible exact Below.drew hS | with_reducible exact Below.step hS (Below.new _ _) | with_reducible exact Below.step (Below.drew hS) (Below.new _ _) | with_reducible exact Below.drew (Below.step hS (Below.new _ _))); rintro e w' ⟨rfl, rfl⟩))
      | (go_at_call 49; ((with_reducible refine Calls.mono (HC2.out _ ?_) ?_); (first | with_reducible exact hS | with_reducible exact Below.drew hS | with_reducible exact Below.step hS (Below.new _ _) | with_reducible exact Below.step (Below.drew hS) (Below.new _ _) | with_reducible exact Below.drew (Below.step hS (Below.new _ _))); rintro e w' ⟨rfl, rfl⟩))))
    all_goals
      go_wp2_with fail
      go_meet
      refine ⟨rfl, Lib.hid (Below.new _ _).drew, Lib.hid ?_, Lib.hid (by simp)⟩
      rw [HPS.out]
      exact row_new w1 52 _ rfl
  case rest =>
    obtain ⟨rfl, HBC, HRC, HLC⟩ := hcut
    have hroom := HRoom.out wc HBC.out
    have hrow := HRC.out
    have MK2 : Hid (∀ w', Below wc.heap.size wc w' → RoomN 51 w' ⟨w.heap.size, 0, none⟩ ∧ IsRow 51 w' ⟨w1.heap.size, 0, none⟩ ∧ cellL 51 w' ⟨w1.heap.size, 0, none⟩ = sctL (parseS b)) := Lib.hid fun w' hb => by
      have hr := HRC.out.below hb HLC.out
      exact ⟨HRoom.out w' (HBC.out.trans (hb.mono HBC.out.size)), hr.is (sctL_length _), hr.cells (sctL_length _)⟩
    have MK3 : Hid (∀ w', Below wc.heap.size wc w' → RoomN 51 (w'.setCells w.heap.size 0 (sctL (parseS b))) ⟨w.heap.size, 0, none⟩ ∧ IsRow 51 (w'.setCells w.heap.size 0 (sctL (parseS b))) ⟨w1.heap.size, 0, none⟩ ∧ cellL 51 (w'.setCells w.heap.size 0 (sctL (parseS b))) ⟨w1.heap.size, 0, none⟩ = sctL (parseS b)) := Lib.hid fun w' hb => by
      have hr := (HRC.out.below hb HLC.out).only (Only.setCells (R := [w.heap.size]) (b := w.heap.size) (by simp) (sctL (parseS b)) 0 (Only.refl _ w')) (by have := HSz.out; simp; omega)
      have hm := HRoom.out w' (HBC.out.trans (hb.mono HBC.out.size))
      exact ⟨⟨rfl, World.there_setCells hm.2 _ _ _⟩, hr.is (sctL_length _), hr.cells (sctL_length _)⟩
    have hS2 : Below wc.heap.size wc wc := Below.refl _ _
    obtain ⟨S0, S1, S2⟩ := MK2.out wc hS2
    clear hroom hrow hS
    go_wp2_with fail
    obtain ⟨T, hT⟩ : ∃ T : TypeId, T = 52 := ⟨_, rfl⟩
    rw [show Op.load 52 (Operand.tmp 4) = Op.load T (Operand.tmp 4) by rw [hT], show Op.store 52 (Operand.tmp 2) (Operand.tmp 20) = Op.store T (Operand.tmp 2) (Operand.tmp 20) by rw [hT]]
    have HT := Lib.hid hT
    clear hT
    go_region_held3 (fun w' => RoomN 51 w' ⟨w.heap.size, 0, none⟩ ∧ IsRow 51 w' ⟨w1.heap.size, 0, none⟩ ∧ cellL 51 w' ⟨w1.heap.size, 0, none⟩ = sctL (parseS b))
      (first | with_reducible exact MK2.out _ hS2 | with_reducible exact MK2.out _ hS2.drew | with_reducible exact MK3.out _ hS2 | with_reducible exact MK3.out _ hS2.drew)
      ((first
      | (go_at_call 49; ((with_reducible refine Calls.mono (HC8.out _ ?_) ?_); (refine HBC.out.trans (Below.mono (?_ : Below wc.heap.size wc _) HBC.out.size); (first | with_reducible exact hS2 | with_reducible exact Below.drew hS2 | with_reducible exact Below.step hS2 (Below.new _ _) | with_reducible exact Below.step (Below.drew hS2) (Below.new _ _) | with_reducible exact Below.drew (Below.step hS2 (Below.new _ _)))); rintro e w' ⟨rfl, rfl⟩))
      | (go_at_call 50; ((with_reducible refine Calls.mono (HCS.out _ ?_) ?_); (refine HBC.out.trans (Below.mono (?_ : Below wc.heap.size wc _) HBC.out.size); (first | with_reducible exact hS2 | with_reducible exact Below.drew hS2 | with_reducible exact Below.step hS2 (Below.new _ _) | with_reducible exact Below.step (Below.drew hS2) (Below.new _ _) | with_reducible exact Below.drew (Below.step hS2 (Below.new _ _)))); rintro e w' ⟨rfl, hb⟩; have hS2 : Below wc.heap.size wc w' := (by first | exact Below.step hS2 hb | exact Below.step hS2.drew hb)))))
    all_goals
      go_wp2_with fail
      rw [HOK.out]
      have hb0 := HBC.out.trans (hS2.mono HBC.out.size)
      refine bodyPost_ret (v := .tuple #[sctV (parseS b), .bool (parseOk b)]) (res70 rfl rfl ?_) rfl ⟨rfl, ?_⟩
      · first
          | exact ⟨rfl, World.rangeAt_setCells_same _ _ _ _ (by rw [sctL_length]; exact (HRoom.out _ hb0).2)⟩
          | exact ⟨rfl, World.rangeAt_setCells_same _ _ _ _ (by rw [sctL_length]; exact (HRoom.out _ hb0.drew).2)⟩
      · first
          | exact (Only.setCells (R := [w.heap.size]) (b := w.heap.size) (by simp) (sctL (parseS b)) 0 (Only.refl _ _)).below (HBW.out.trans (hb0.mono HBW.out.size)) (by simp) (Nat.le_refl _)
          | exact (Only.setCells (R := [w.heap.size]) (b := w.heap.size) (by simp) (sctL (parseS b)) 0 (Only.refl _ _)).below (HBW.out.trans (hb0.drew.mono HBW.out.size)) (by simp) (Nat.le_refl _)
end Go.Proofs.YtdhidcoglioalaaGreat.Walks
