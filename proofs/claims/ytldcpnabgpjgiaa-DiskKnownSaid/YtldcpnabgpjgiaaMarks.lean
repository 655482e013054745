/-
  Digests and marks as whole values: they are boxed, laid, loaded, stored, built and compared at one go.
-/
import Derived.Test.YtldcpnabgpjgiaaBase
import Derived.Laws.StructEq
import Derived.DeepKeys4
namespace Go.Proofs.Ytldcpnabgpjgiaa.Walks
open Go.RowKit
set_option linter.unusedVariables false

/-- A digest that begins with a byte, and a mark of it: their cells. -/
def rootC (r : Int) : Array Value := #[.int .u8 r, .int .u8 0, .int .u8 0, .int .u8 0, .int .u8 0, .int .u8 0, .int .u8 0, .int .u8 0, .int .u8 0, .int .u8 0, .int .u8 0, .int .u8 0, .int .u8 0, .int .u8 0, .int .u8 0, .int .u8 0, .int .u8 0, .int .u8 0, .int .u8 0, .int .u8 0, .int .u8 0, .int .u8 0, .int .u8 0, .int .u8 0, .int .u8 0, .int .u8 0, .int .u8 0, .int .u8 0, .int .u8 0, .int .u8 0, .int .u8 0, .int .u8 0]
def markC (s r : Int) : Array Value := #[.int .i64 s, .int .u8 r, .int .u8 0, .int .u8 0, .int .u8 0, .int .u8 0, .int .u8 0, .int .u8 0, .int .u8 0, .int .u8 0, .int .u8 0, .int .u8 0, .int .u8 0, .int .u8 0, .int .u8 0, .int .u8 0, .int .u8 0, .int .u8 0, .int .u8 0, .int .u8 0, .int .u8 0, .int .u8 0, .int .u8 0, .int .u8 0, .int .u8 0, .int .u8 0, .int .u8 0, .int .u8 0, .int .u8 0, .int .u8 0, .int .u8 0, .int .u8 0, .int .u8 0]
def rootV (r : Int) : Value := .agg (rootC r)
def markV (x : Int × Int) : Value := .agg (markC x.1 x.2)
/-- The cells of a block. -/
def rowOf (w : World) (g : Nat) : Array Value := match w.heap[g]? with | some (.cells c _ _) => c | _ => #[]
theorem rowOf_of {w : World} {g : Nat} {cs : Array Value} {t : TypeId} (h : w.heap[g]? = some (.cells cs t (0, 0))) : rowOf w g = cs := by simp [rowOf, h]
def Row38 (w : World) (g : Nat) : Prop := w.heap[g]? = some (.cells (rowOf w g) 38 (0, 0)) ∧ (rowOf w g).size = 32
def Row47 (w : World) (g : Nat) : Prop := w.heap[g]? = some (.cells (rowOf w g) 47 (0, 0)) ∧ (rowOf w g).size = 33
theorem row38_of {w : World} {g : Nat} {cs : Array Value} (h : w.heap[g]? = some (.cells cs 38 (0, 0))) (h1 : cs.size = 32) : Row38 w g := by
  have e := rowOf_of h
  exact ⟨by rw [e]; exact h, by rw [e]; exact h1⟩
theorem row47_of {w : World} {g : Nat} {cs : Array Value} (h : w.heap[g]? = some (.cells cs 47 (0, 0))) (h1 : cs.size = 33) : Row47 w g := by
  have e := rowOf_of h
  exact ⟨by rw [e]; exact h, by rw [e]; exact h1⟩
theorem z38 : (Try.prog.info? 38).map (·.size) = some 32 := by kernel_rfl
theorem z47 : (Try.prog.info? 47).map (·.size) = some 33 := by kernel_rfl
theorem load38 {w : World} {g : Nat} (h : Row38 w g) : (Instr.loadAt 38 (.pointer (some ⟨g, 0, none⟩))).run Try.prog w = .ok (.agg (rowOf w g)) w := by
  simp only [Instr.loadAt, Instr.sureAddr, Sem.run_bind, Sem.run_pure, Result.andThen_ok]
  exact run_loadVar_row w g 38 38 _ (0, 0) _ h.1 Try.underlying38 rfl (by rw [h.2]; exact z38)
theorem load47 {w : World} {g : Nat} (h : Row47 w g) : (Instr.loadAt 47 (.pointer (some ⟨g, 0, none⟩))).run Try.prog w = .ok (.agg (rowOf w g)) w := by
  simp only [Instr.loadAt, Instr.sureAddr, Sem.run_bind, Sem.run_pure, Result.andThen_ok]
  exact run_loadVar_row w g 47 47 _ (0, 0) _ h.1 Try.underlying47 rfl (by rw [h.2]; exact z47)
def headOf : Value → Bool
  | .pointer (some ⟨_, 0, none⟩) => true
  | _ => false
def blockOf : Value → Nat
  | .pointer (some a) => a.block
  | _ => 0
/-- A proof that simp does not take for a definition's. -/
theorem not_rfl {α : Type} {a b : α} (h : a = b) : a = b := by cases h; rfl
theorem headOf_mk (g : Nat) : headOf (.pointer (some ⟨g, 0, none⟩)) = true := not_rfl rfl
theorem blockOf_mk (g o : Nat) (s : Option Nat) : blockOf (.pointer (some ⟨g, o, s⟩)) = g := rfl
theorem head_eq {v : Value} (h : headOf v = true) : v = .pointer (some ⟨blockOf v, 0, none⟩) := by
  unfold headOf at h
  split at h
  · rfl
  · cases h
section
variable {ρ : Operand → Value} {d : Option Tmp} {x y : Operand} {t : TypeId} {p : String} {af : Array Edge} {gd : Option (Nat × Bool)} {w : World}
theorem exec_load38 (h1 : headOf (ρ x) = true) (h2 : Row38 w (blockOf (ρ x))) :
    (execOp ρ ⟨d, .load 38 x, t, p, af, gd⟩).run Try.prog w = .ok (.value (.agg (rowOf w (blockOf (ρ x))))) w := by
  have e := head_eq h1
  simp only [execOp]
  rw [e] at h2 ⊢
  simp only [blockOf_mk] at h2 ⊢
  simp [load38 h2, Result.andThen]
theorem exec_load47 (h1 : headOf (ρ x) = true) (h2 : Row47 w (blockOf (ρ x))) :
    (execOp ρ ⟨d, .load 47 x, t, p, af, gd⟩).run Try.prog w = .ok (.value (.agg (rowOf w (blockOf (ρ x))))) w := by
  have e := head_eq h1
  simp only [execOp]
  rw [e] at h2 ⊢
  simp only [blockOf_mk] at h2 ⊢
  simp [load47 h2, Result.andThen]
/-- The same where the operation is not written out. -/
def isLoad (t : TypeId) (o : Oper) : Bool := match o.op with
  | .load t' _ => t' == t
  | _ => false
def loadOp (o : Oper) : Operand := match o.op with
  | .load _ x => x
  | _ => .tmp 0
theorem isLoad38_mk {d : Option Tmp} {x : Operand} {t : TypeId} {p : String} {af : Array Edge} {gd : Option (Nat × Bool)} : isLoad 38 ⟨d, .load 38 x, t, p, af, gd⟩ = true := not_rfl rfl
theorem isLoad47_mk {d : Option Tmp} {x : Operand} {t : TypeId} {p : String} {af : Array Edge} {gd : Option (Nat × Bool)} : isLoad 47 ⟨d, .load 47 x, t, p, af, gd⟩ = true := not_rfl rfl
theorem loadOp_mk {d : Option Tmp} {x : Operand} {t t' : TypeId} {p : String} {af : Array Edge} {gd : Option (Nat × Bool)} : loadOp ⟨d, .load t' x, t, p, af, gd⟩ = x := rfl
theorem load_eq {t : TypeId} {o : Oper} (h : isLoad t o = true) : o = ⟨o.dst, .load t (loadOp o), o.type, o.pos, o.after, o.guard⟩ := by
  obtain ⟨d, op, ty, p, af, gd⟩ := o
  unfold isLoad at h
  unfold loadOp
  cases op <;> simp at h ⊢
  exact h
theorem exec_load38g {o : Oper} (h0 : isLoad 38 o = true) (h1 : headOf (ρ (loadOp o)) = true) (h2 : Row38 w (blockOf (ρ (loadOp o)))) :
    (execOp ρ o).run Try.prog w = .ok (.value (.agg (rowOf w (blockOf (ρ (loadOp o)))))) w := by
  rw [load_eq h0]
  exact exec_load38 h1 h2
theorem exec_load47g {o : Oper} (h0 : isLoad 47 o = true) (h1 : headOf (ρ (loadOp o)) = true) (h2 : Row47 w (blockOf (ρ (loadOp o)))) :
    (execOp ρ o).run Try.prog w = .ok (.value (.agg (rowOf w (blockOf (ρ (loadOp o)))))) w := by
  rw [load_eq h0]
  exact exec_load47 h1 h2
/-- Is it a mark; its number, its byte. -/
def seqOf (v : Value) : Int := intOf (v.cells.getD 0 undef)
def byteOf (v : Value) : Int := intOf (v.cells.getD 1 undef)
def byteO (v : Value) : Int := intOf (v.cells.getD 0 undef)
def isMark (v : Value) : Prop := v = .agg (markC (seqOf v) (byteOf v))
def isRoot (v : Value) : Prop := v = .agg (rootC (byteO v))
def isI (v : Value) : Prop := v = .int .i64 (intOf v)
theorem isMark_mk (s r : Int) : isMark (.agg (markC s r)) := rfl
theorem isRoot_mk (r : Int) : isRoot (.agg (rootC r)) := rfl
theorem isI_mk (n : Int) : isI (.int .i64 n) := rfl
theorem seqOf_mk (s r : Int) : seqOf (.agg (markC s r)) = s := rfl
theorem byteOf_mk (s r : Int) : byteOf (.agg (markC s r)) = r := rfl
theorem byteO_mk (r : Int) : byteO (.agg (rootC r)) = r := rfl
theorem intOf_mk (k : IntKind) (n : Int) : intOf (.int k n) = n := rfl
theorem markC_size (s r : Int) : (markC s r).size = 33 := rfl
theorem rootC_size (r : Int) : (rootC r).size = 32 := rfl
theorem markC_one (s r : Int) : (markC s r).all (·.oneCell') = true := by simp [markC, Value.oneCell']
theorem zero47 (w : World) : (zeroValue 47).run Try.prog w = .ok (.agg (markC 0 0)) w := by kernel_rfl
theorem zero38 (w : World) : (zeroValue 38).run Try.prog w = .ok (.agg (rootC 0)) w := by kernel_rfl
theorem exec_alloc47 : (execOp ρ ⟨d, .alloc 47, t, p, af, gd⟩).run Try.prog w = .ok (.value (.pointer (some ⟨w.heap.size, 0, none⟩))) (w.alloc (.cells (markC 0 0) 47)) := by
  simp only [execOp, Instr.alloc]
  simp only [Sem.run_bind, zero47, Result.andThen_ok]
  rfl
theorem exec_store47 (h1 : headOf (ρ x) = true) (h2 : Row47 w (blockOf (ρ x))) (h3 : isMark (ρ y)) :
    (execOp ρ ⟨d, .store 47 x y, t, p, af, gd⟩).run Try.prog w = .ok .skip (w.setRow (blockOf (ρ x)) (markC (seqOf (ρ y)) (byteOf (ρ y)))) := by
  have e := head_eq h1
  simp only [execOp]
  unfold isMark at h3
  generalize seqOf (ρ y) = s at *
  generalize byteOf (ρ y) = r at *
  rw [h3]
  rw [e] at h2 ⊢
  simp only [blockOf_mk] at h2 ⊢
  have := run_storeVar_row (P := Try.prog) w (blockOf (ρ x)) 47 47 _ (markC s r) h2.1 (by rw [markC_size]; exact z47) (by rw [h2.2, markC_size]) (markC_one s r)
  simp [Instr.storeAt, Instr.sureAddr, this, Result.andThen]
theorem build47 (s r : Int) (w : World) : (Instr.build 47 #[(0, .int .i64 s), (1, .agg (rootC r))]).run Try.prog w = .ok (.agg (markC s r)) w := by kernel_rfl
theorem build47z (w : World) : (Instr.build 47 #[]).run Try.prog w = .ok (.agg (markC 0 0)) w := by kernel_rfl
theorem exec_build47 (h1 : isI (ρ x)) (h2 : isRoot (ρ y)) :
    (execOp ρ ⟨d, .build 47 #[(0, x), (1, y)], t, p, af, gd⟩).run Try.prog w = .ok (.value (.agg (markC (intOf (ρ x)) (byteO (ρ y))))) w := by
  simp only [execOp]
  have e1 : ρ x = .int .i64 (intOf (ρ x)) := h1
  have e2 : ρ y = .agg (rootC (byteO (ρ y))) := h2
  have : (Array.map (fun z : Nat × Operand => (z.1, ρ z.2)) #[(0, x), (1, y)]) = #[(0, ρ x), (1, ρ y)] := by simp
  simp only [this]
  rw [e1, e2]
  simp only [intOf_mk, byteO_mk, build47, Sem.run_bind, Result.andThen_ok, Sem.run_pure]
theorem exec_build47z : (execOp ρ ⟨d, .build 47 #[], t, p, af, gd⟩).run Try.prog w = .ok (.value (.agg (markC 0 0))) w := by
  simp only [execOp]
  have : (Array.map (fun z : Nat × Operand => (z.1, ρ z.2)) #[]) = #[] := by simp
  simp only [this, build47z, Sem.run_bind, Result.andThen_ok, Sem.run_pure]
end
theorem rootC_one (r : Int) : (rootC r).all (·.oneCell') = true := by simp [rootC, Value.oneCell']
section
variable {ρ : Operand → Value} {d : Option Tmp} {x y : Operand} {t : TypeId} {p : String} {af : Array Edge} {gd : Option (Nat × Bool)} {w : World}
theorem exec_alloc38 : (execOp ρ ⟨d, .alloc 38, t, p, af, gd⟩).run Try.prog w = .ok (.value (.pointer (some ⟨w.heap.size, 0, none⟩))) (w.alloc (.cells (rootC 0) 38)) := by
  simp only [execOp, Instr.alloc]
  simp only [Sem.run_bind, zero38, Result.andThen_ok]
  rfl
theorem exec_store38 (h1 : headOf (ρ x) = true) (h2 : Row38 w (blockOf (ρ x))) (h3 : isRoot (ρ y)) :
    (execOp ρ ⟨d, .store 38 x y, t, p, af, gd⟩).run Try.prog w = .ok .skip (w.setRow (blockOf (ρ x)) (rootC (byteO (ρ y)))) := by
  have e := head_eq h1
  simp only [execOp]
  unfold isRoot at h3
  generalize byteO (ρ y) = r at *
  rw [h3]
  rw [e] at h2 ⊢
  simp only [blockOf_mk] at h2 ⊢
  have := run_storeVar_row (P := Try.prog) w (blockOf (ρ x)) 38 38 _ (rootC r) h2.1 (by rw [rootC_size]; exact z38) (by rw [h2.2, rootC_size]) (rootC_one r)
  simp [Instr.storeAt, Instr.sureAddr, this, Result.andThen]
theorem build38 (r : Int) (w : World) : (Instr.build 38 #[(0, .int .u8 r)]).run Try.prog w = .ok (.agg (rootC r)) w := by kernel_rfl
theorem build38z (w : World) : (Instr.build 38 #[]).run Try.prog w = .ok (.agg (rootC 0)) w := by kernel_rfl
def isB : Value → Bool
  | .int .u8 _ => true
  | _ => false
theorem isB_mk (n : Int) : isB (.int .u8 n) = true := not_rfl rfl
theorem isB_eq {v : Value} (h : isB v = true) : v = .int .u8 (intOf v) := by
  unfold isB at h
  split at h
  · rfl
  · cases h
theorem exec_build38 (h1 : isB (ρ x) = true) : (execOp ρ ⟨d, .build 38 #[(0, x)], t, p, af, gd⟩).run Try.prog w = .ok (.value (.agg (rootC (intOf (ρ x))))) w := by
  simp only [execOp]
  have e1 : ρ x = .int .u8 (intOf (ρ x)) := isB_eq h1
  have : (Array.map (fun z : Nat × Operand => (z.1, ρ z.2)) #[(0, x)]) = #[(0, ρ x)] := by simp
  simp only [this]
  rw [e1]
  simp only [intOf_mk, build38, Sem.run_bind, Result.andThen_ok, Sem.run_pure]
theorem exec_build38c {a : Act} {n : Int} : (execOp a.eval ⟨d, .build 38 #[(0, .const (.int .u8 n))], t, p, af, gd⟩).run Try.prog w = .ok (.value (.agg (rootC n))) w := exec_build38 rfl
theorem exec_build47c {a : Act} {n : Int} (h2 : isRoot (a.eval y)) : (execOp a.eval ⟨d, .build 47 #[(0, .const (.int .i64 n)), (1, y)], t, p, af, gd⟩).run Try.prog w = .ok (.value (.agg (markC n (byteO (a.eval y))))) w := exec_build47 rfl h2
theorem exec_build38z : (execOp ρ ⟨d, .build 38 #[], t, p, af, gd⟩).run Try.prog w = .ok (.value (.agg (rootC 0))) w := by
  simp only [execOp]
  have : (Array.map (fun z : Nat × Operand => (z.1, ρ z.2)) #[]) = #[] := by simp
  simp only [this, build38z, Sem.run_bind, Result.andThen_ok, Sem.run_pure]
end
theorem row38_new (w : World) (r : Int) : Row38 (w.alloc (.cells (rootC r) 38)) w.heap.size := row38_of (heap_alloc_new _ _) rfl
theorem alloc_setRow (w : World) (cs cs' : Array Value) (t : TypeId) : (w.alloc (.cells cs t)).setRow w.heap.size cs' = w.alloc (.cells cs' t) := by
  have : (w.heap.push (.cells cs t)).modify w.heap.size (fun | .cells _ elem frozen => .cells cs' elem frozen | o => o) = w.heap.push (.cells cs' t) := by
    apply Array.ext_getElem?
    intro i
    rw [Array.getElem?_modify, Array.getElem?_push, Array.getElem?_push]
    by_cases e : w.heap.size = i
    · subst e; simp
    · rw [if_neg e, if_neg (fun h => e h.symm), if_neg (fun h => e h.symm)]
  show { w with heap := (w.heap.push (.cells cs t)).modify w.heap.size _ } = { w with heap := w.heap.push (.cells cs' t) }
  exact congrArg (fun h => { w with heap := h }) this
theorem drew_setRow (w : World) (g : Nat) (cs : Array Value) : w.drew.setRow g cs = (w.setRow g cs).drew := rfl
theorem row47_new (w : World) (s r : Int) : Row47 (w.alloc (.cells (markC s r) 47)) w.heap.size := row47_of (heap_alloc_new _ _) rfl
theorem row47_drew (w : World) (g : Nat) : Row47 w.drew g ↔ Row47 w g := Iff.rfl
theorem rowOf_drew (w : World) (g : Nat) : rowOf w.drew g = rowOf w g := rfl
theorem rowOf_new (w : World) (cs : Array Value) (t : TypeId) : rowOf (w.alloc (.cells cs t)) w.heap.size = cs := rowOf_of (heap_alloc_new _ _)
theorem row38_drew (w : World) (g : Nat) : Row38 w.drew g ↔ Row38 w g := Iff.rfl
theorem row38_alloc (w : World) (g : Nat) (o : Obj) (h : g < w.heap.size) : Row38 (w.alloc o) g ↔ Row38 w g := by
  unfold Row38 rowOf; rw [heap_alloc_lt h]
theorem row47_alloc (w : World) (g : Nat) (o : Obj) (h : g < w.heap.size) : Row47 (w.alloc o) g ↔ Row47 w g := by
  unfold Row47 rowOf; rw [heap_alloc_lt h]
theorem rowOf_alloc (w : World) (g : Nat) (o : Obj) (h : g < w.heap.size) : rowOf (w.alloc o) g = rowOf w g := by
  unfold rowOf; rw [heap_alloc_lt h]

/-! ### == on marks -/
def okMark (v : Value) : Prop := isMark v ∧ (Lit.int .i64 (seqOf v)).wf = true ∧ (Lit.int .u8 (byteOf v)).wf = true
theorem okMark_mk {s r : Int} (h1 : -9223372036854775808 ≤ s ∧ s ≤ 9223372036854775807) (h2 : 0 ≤ r ∧ r ≤ 255) : okMark (.agg (markC s r)) :=
  ⟨rfl, WalkArith.wf_i64 h1, by show (decide ((0 : Int) ≤ r) && decide (r ≤ 255)) = true; simp [h2]⟩
theorem under38 : Try.prog.underlying 38 = some (.array 32 5) := Try.underlying38
theorem cells47 : Try.prog.cellsOf 47 = 33 := by kernel_rfl
theorem cells38 : Try.prog.cellsOf 38 = 32 := by kernel_rfl
theorem cells5 : Try.prog.cellsOf 5 = 1 := by kernel_rfl
theorem cells3' : Try.prog.cellsOf 3 = 1 := by kernel_rfl
def litsC (s r : Int) : List Lit := [.int .i64 s, .int .u8 r, .int .u8 0, .int .u8 0, .int .u8 0, .int .u8 0, .int .u8 0, .int .u8 0, .int .u8 0, .int .u8 0, .int .u8 0, .int .u8 0, .int .u8 0, .int .u8 0, .int .u8 0, .int .u8 0, .int .u8 0, .int .u8 0, .int .u8 0, .int .u8 0, .int .u8 0, .int .u8 0, .int .u8 0, .int .u8 0, .int .u8 0, .int .u8 0, .int .u8 0, .int .u8 0, .int .u8 0, .int .u8 0, .int .u8 0, .int .u8 0, .int .u8 0]
theorem range32 : List.range 32 = [0, 1, 2, 3, 4, 5, 6, 7, 8, 9, 10, 11, 12, 13, 14, 15, 16, 17, 18, 19, 20, 21, 22, 23, 24, 25, 26, 27, 28, 29, 30, 31] := by decide
set_option maxHeartbeats 2000000 in
theorem keyLits47 {s r : Int} (h1 : (Lit.int .i64 s).wf = true) (h2 : (Lit.int .u8 r).wf = true) (d : Nat) : Try.prog.keyLits (d + 3) 47 (Value.agg (markC s r)).cells.toList = some (litsC s r) := by
  have h0 : (Lit.int .u8 0).wf = true := by decide
  have hb : ∀ (n : Int), (Lit.int .u8 n).wf = true → Try.prog.keyLits (d + 1) 5 [.int .u8 n] = some [.int .u8 n] := fun n hn => by
    unfold Program.keyLits
    rw [Try.underlying5]
    simp [hn]
  have hi : Try.prog.keyLits (d + 2) 3 [.int .i64 s] = some [.int .i64 s] := by
    unfold Program.keyLits
    rw [Try.underlying3]
    simp [h1]
  have ha : Try.prog.keyLits (d + 2) 38 (rootC r).toList = some (litsC s r).tail := by
    unfold Program.keyLits
    rw [under38]
    simp only [cells38, cells5, rootC, range32]
    simp [List.mapM_cons, hb r h2, hb 0 h0, litsC]
  unfold Program.keyLits
  rw [Try.underlying47]
  simp only [cells47, Value.cells, markC]
  simp only [rootC] at ha
  simp [List.mapM_cons, cells3', cells38, hi, ha, litsC]
theorem litsC_eq {s r s' r' : Int} : litsC s r = litsC s' r' ↔ s = s' ∧ r = r' := by simp [litsC]
theorem formed47 (s r : Int) : (Value.agg (markC s r)).formed Try.prog 47 = true := by simp [Value.formed, Try.underlying47, cells47, markC]
theorem keyAt47 : Try.prog.keyTypeAt 3 47 = true := by kernel_rfl
theorem guard47 : Try.prog.eqGuardType Try.prog.depth 47 = false := by kernel_rfl
theorem equal47 {s r s' r' : Int} (h1 : (Lit.int .i64 s).wf = true) (h2 : (Lit.int .u8 r).wf = true) (h3 : (Lit.int .i64 s').wf = true) (h4 : (Lit.int .u8 r').wf = true) (w : World) :
    (Op.equalIn 10000 47 (.agg (markC s r)) (.agg (markC s' r'))).run Try.prog w = .ok (decide (s = s') && decide (r = r')) w := by
  obtain ⟨b, hb, hiff⟩ := run_equalIn_deep (P := Try.prog) 9997 3 47 keyAt47 w 3 3 _ _ _ _ (formed47 s r) (formed47 s' r') (keyLits47 h1 h2 0) (keyLits47 h3 h4 0)
  rw [show 9997 + 3 = 10000 from rfl] at hb
  rw [hb]
  rw [litsC_eq] at hiff
  cases b with
  | true =>
    obtain ⟨e1, e2⟩ := hiff.1 rfl
    simp [e1, e2]
  | false =>
    have : ¬ (s = s' ∧ r = r') := fun h => by simpa using hiff.2 h
    have hh : (decide (s = s') && decide (r = r')) = false := by
      rw [← Bool.decide_and, decide_eq_false_iff_not]; exact this
    rw [hh]
section
variable {ρ : Operand → Value} {d : Option Tmp} {x y : Operand} {t ty : TypeId} {p : String} {af : Array Edge} {gd : Option (Nat × Bool)} {w : World}
theorem exec_eql47 (h1 : okMark (ρ x)) (h2 : okMark (ρ y)) :
    (execOp ρ ⟨d, .binOp .eql 47 x y ty, t, p, af, gd⟩).run Try.prog w = .ok (.value (.bool (decide (seqOf (ρ x) = seqOf (ρ y)) && decide (byteOf (ρ x) = byteOf (ρ y))))) w := by
  obtain ⟨e1, w1, v1⟩ := h1
  obtain ⟨e2, w2, v2⟩ := h2
  unfold isMark at e1 e2
  simp only [execOp]
  generalize seqOf (ρ x) = s at *
  generalize byteOf (ρ x) = r at *
  generalize seqOf (ρ y) = s' at *
  generalize byteOf (ρ y) = r' at *
  rw [e1, e2]
  simp only [Sem.run_bind, run_eqGuard_agg _ _ _ _ _ _ _ guard47, Result.andThen_ok, run_eql_struct, equal47 w1 v1 w2 v2, Sem.run_pure]
end
end Go.Proofs.Ytldcpnabgpjgiaa.Walks
