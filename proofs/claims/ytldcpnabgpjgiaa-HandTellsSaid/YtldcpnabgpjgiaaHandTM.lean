/-
  A mark in the midst of a block is loaded at one go.
-/
import Derived.Test.YtldcpnabgpjgiaaHandTI
import Derived.Deep.MidRow
import Derived.Deep.Quiet
namespace Go.Proofs.Ytldcpnabgpjgiaa.WalksT
open Go.Proofs.Ytldcpnabgpjgiaa.Walks
open Go.RowKit Plain
set_option linter.unusedVariables false

/-- What a pointer points to. -/
def adOf : Value → Addr
  | .pointer (some a) => a
  | _ => ⟨0, 0, none⟩
def isPt : Value → Bool
  | .pointer (some _) => true
  | _ => false
theorem adOf_mk (a : Addr) : adOf (.pointer (some a)) = a := rfl
theorem isPt_mk (a : Addr) : isPt (.pointer (some a)) = true := not_rfl rfl
theorem isPt_eq {v : Value} (h : isPt v = true) : v = .pointer (some (adOf v)) := by
  unfold isPt at h
  split at h
  · rfl
  · cases h
/-- A mark lies there; its number, its byte. -/
def Mid47 (w : World) (a : Addr) (s r : Int) : Prop := a.spot = none ∧ ∀ j, j < 33 → w.cell? ⟨a.block, a.off + j, none⟩ = (markC s r)[j]?
noncomputable def midS (w : World) (a : Addr) : Int := intOf ((w.cell? a).getD undef)
noncomputable def midR (w : World) (a : Addr) : Int := intOf ((w.cell? ⟨a.block, a.off + 1, none⟩).getD undef)
theorem Mid47.vals {w : World} {a : Addr} {s r : Int} (h : Mid47 w a s r) : midS w a = s ∧ midR w a = r := by
  obtain ⟨b, o, sp⟩ := a
  obtain ⟨h0, h1⟩ := h
  simp only at h0
  subst h0
  have e0 := h1 0 (by omega)
  have e1 := h1 1 (by omega)
  simp only [Nat.add_zero] at e0
  unfold midS midR
  rw [e0, e1]
  exact ⟨rfl, rfl⟩
def Is47 (w : World) (a : Addr) : Prop := ∃ s r, Mid47 w a s r
theorem load47m {w : World} {a : Addr} {s r : Int} (h : Mid47 w a s r) : (Instr.loadAt 47 (.pointer (some a))).run Try.prog w = .ok (.agg (markC s r)) w := by
  obtain ⟨b, o, sp⟩ := a
  obtain ⟨h0, h1⟩ := h
  simp only at h0
  subst h0
  have hr : w.rangeAt b o (markC s r).toList := fun j v hv => by
    have hj : j < 33 := by
      have := List.getElem?_eq_some_iff.1 hv
      obtain ⟨hlt, _⟩ := this
      simpa [markC_size] using hlt
    rw [h1 j hj]
    simpa using hv
  have := run_loadAt_mid (P := Try.prog) w b o 47 (markC s r).toList _ hr Try.underlying47 rfl (by rw [Array.length_toList, markC_size]; exact z47)
  simpa using this
section
variable {ρ : Operand → Value} {d : Option Tmp} {x : Operand} {t : TypeId} {p : String} {af : Array Edge} {gd : Option (Nat × Bool)} {w : World}
theorem exec_load47m (h1 : isPt (ρ x) = true) (h2 : Is47 w (adOf (ρ x))) :
    (execOp ρ ⟨d, .load 47 x, t, p, af, gd⟩).run Try.prog w = .ok (.value (.agg (markC (midS w (adOf (ρ x))) (midR w (adOf (ρ x)))))) w := by
  have e := isPt_eq h1
  obtain ⟨s, r, h⟩ := h2
  obtain ⟨v1, v2⟩ := h.vals
  simp only [execOp]
  rw [v1, v2, e]
  simp [load47m h, Result.andThen]
theorem exec_load47mg {o : Oper} (h0 : isLoad 47 o = true) (h1 : isPt (ρ (loadOp o)) = true) (h2 : Is47 w (adOf (ρ (loadOp o)))) :
    (execOp ρ o).run Try.prog w = .ok (.value (.agg (markC (midS w (adOf (ρ (loadOp o)))) (midR w (adOf (ρ (loadOp o))))))) w := by
  rw [load_eq h0]
  exact exec_load47m h1 h2
end
theorem midS_drew (w : World) (a : Addr) : midS w.drew a = midS w a := rfl
theorem midR_drew (w : World) (a : Addr) : midR w.drew a = midR w a := rfl
theorem is47_drew (w : World) (a : Addr) : Is47 w.drew a ↔ Is47 w a := Iff.rfl
theorem midS_drewN (w : World) (k : Nat) (a : Addr) : midS (w.drewN k) a = midS w a := rfl
theorem midR_drewN (w : World) (k : Nat) (a : Addr) : midR (w.drewN k) a = midR w a := rfl
theorem is47_drewN (w : World) (k : Nat) (a : Addr) : Is47 (w.drewN k) a ↔ Is47 w a := Iff.rfl
theorem mk_toA (s r : Int) : (markC s r).toList.toArray = markC s r := rfl
theorem mark_len (s r : Int) : (markC s r).toList.length = 33 := rfl
theorem mark_info (s r : Int) : (Try.prog.info? 47).map (·.size) = some (markC s r).toList.length := by rw [mark_len]; exact z47
theorem mark_one (s r : Int) : ∀ v ∈ (markC s r).toList, v.oneCell' = true := by
  have h1 : (markC s r).toList.all (·.oneCell') = true := by rw [Array.all_toList]; exact markC_one s r
  exact List.all_eq_true.1 h1
/-- In a region that only reads: in whatever world that has drawn. -/
theorem quiet_load47m {d : Option Tmp} {x : Operand} {t : TypeId} {p : String} {af : Array Edge} {gd : Option (Nat × Bool)} {wr : World} {a : Act} {K : Act → Prop} (h1 : isPt (a.eval x) = true) (h2 : Is47 wr (adOf (a.eval x))) :
    Oper.quiet Try.prog ⟨d, .load 47 x, t, p, af, gd⟩ a (fun w' => ∃ n, w' = wr.drewN n) K = K (a.put d (.agg (markC (midS wr (adOf (a.eval x))) (midR wr (adOf (a.eval x)))))) := by
  have key : ∀ n, (execOp a.eval ⟨d, .load 47 x, t, p, af, gd⟩).run Try.prog (wr.drewN n) = .ok (.value (.agg (markC (midS wr (adOf (a.eval x))) (midR wr (adOf (a.eval x)))))) (wr.drewN n) := fun n => exec_load47m h1 ((is47_drewN wr n _).2 h2)
  refine propext ⟨?_, fun h => ⟨_, ?_, h⟩⟩
  · rintro ⟨v, hv, hk⟩
    have := hv (wr.drewN 0) ⟨0, rfl⟩
    unfold Oper.quietAt at this
    rw [key 0] at this
    simp only [Oper.quietUpon] at this
    rw [this.2]
    exact hk
  · rintro w ⟨n, rfl⟩
    unfold Oper.quietAt
    rw [key n]
    simp [Oper.quietUpon]
/-- A load that is not asked for is not laid open. -/
def QLoad (d : Option Tmp) (x : Operand) (t : TypeId) (p : String) (af : Array Edge) (gd : Option (Nat × Bool)) (a : Act) (C : World → Prop) (K : Act → Prop) : Prop := Oper.quiet Try.prog ⟨d, .load 47 x, t, p, af, gd⟩ a C K
theorem quiet_fold {d : Option Tmp} {x : Operand} {t : TypeId} {p : String} {af : Array Edge} {gd : Option (Nat × Bool)} {a : Act} {C : World → Prop} {K : Act → Prop} : Oper.quiet Try.prog ⟨d, .load 47 x, t, p, af, gd⟩ a C K = QLoad d x t p af gd a C K := rfl
theorem quiet_eql47 {d : Option Tmp} {x y : Operand} {t ty : TypeId} {p : String} {af : Array Edge} {gd : Option (Nat × Bool)} {wr : World} {a : Act} {K : Act → Prop} (h1 : okMark (a.eval x)) (h2 : okMark (a.eval y)) :
    Oper.quiet Try.prog ⟨d, .binOp .eql 47 x y ty, t, p, af, gd⟩ a (fun w' => ∃ n, w' = wr.drewN n) K = K (a.put d (.bool (decide (seqOf (a.eval x) = seqOf (a.eval y)) && decide (Walks.byteOf (a.eval x) = Walks.byteOf (a.eval y))))) := by
  have key : ∀ n, (execOp a.eval ⟨d, .binOp .eql 47 x y ty, t, p, af, gd⟩).run Try.prog (wr.drewN n) = .ok (.value (.bool (decide (seqOf (a.eval x) = seqOf (a.eval y)) && decide (Walks.byteOf (a.eval x) = Walks.byteOf (a.eval y))))) (wr.drewN n) := fun n => exec_eql47 h1 h2
  refine propext ⟨?_, fun h => ⟨_, ?_, h⟩⟩
  · rintro ⟨v, hv, hk⟩
    have := hv (wr.drewN 0) ⟨0, rfl⟩
    unfold Oper.quietAt at this
    rw [key 0] at this
    simp only [Oper.quietUpon] at this
    rw [this.2]
    exact hk
  · rintro w ⟨n, rfl⟩
    unfold Oper.quietAt
    rw [key n]
    simp [Oper.quietUpon]
def QEq (d : Option Tmp) (x y : Operand) (t ty : TypeId) (p : String) (af : Array Edge) (gd : Option (Nat × Bool)) (a : Act) (C : World → Prop) (K : Act → Prop) : Prop := Oper.quiet Try.prog ⟨d, .binOp .eql 47 x y ty, t, p, af, gd⟩ a C K
theorem quiet_foldEq {d : Option Tmp} {x y : Operand} {t ty : TypeId} {p : String} {af : Array Edge} {gd : Option (Nat × Bool)} {a : Act} {C : World → Prop} {K : Act → Prop} : Oper.quiet Try.prog ⟨d, .binOp .eql 47 x y ty, t, p, af, gd⟩ a C K = QEq d x y t ty p af gd a C K := rfl
theorem Mid47.below {w w' : World} {a : Addr} {s r : Int} (h : Mid47 w a s r) (hb : Below w.heap.size w w') : Mid47 w' a s r :=
  ⟨h.1, fun j hj => by
    have h1 := h.2 j hj
    have : ∃ v, (markC s r)[j]? = some v := ⟨_, Array.getElem?_eq_getElem (by rw [markC_size]; exact hj)⟩
    obtain ⟨v, hv⟩ := this
    rw [hv] at h1 ⊢
    exact keepc hb h1⟩
theorem Mid47.is {w : World} {a : Addr} {s r : Int} (h : Mid47 w a s r) : Is47 w a := ⟨s, r, h⟩
theorem Mid47.range {w : World} {b o : Nat} {s r : Int} (h : Mid47 w ⟨b, o, none⟩ s r) : w.rangeAt b o (markC s r).toList := fun j v hv => by
  have hj : j < 33 := by
    obtain ⟨hlt, _⟩ := List.getElem?_eq_some_iff.1 hv
    simpa [markC_size] using hlt
  rw [h.2 j hj]
  simpa using hv
theorem RefX.len3 {w : World} {p base : Nat} {B : Nat → Prop} {f : Int} {l : List Int} {O : List (Int × Int × List Int)} {E : List (Int × Int × Int × Int)} (h : RefX w p base B f l O E) :
    ∃ a cap, w.cell? ⟨p, 3, none⟩ = some (.slice a E.length cap) := by
  by_cases h0 : 0 < E.length
  · obtain ⟨g, cap, h1, _⟩ := h.ends h0
    exact ⟨_, _, h1⟩
  · obtain rfl : E = [] := List.eq_nil_of_length_eq_zero (by omega)
    obtain ⟨v, h1, a, cap, rfl⟩ := h.noEnds
    exact ⟨_, _, h1⟩
theorem RefX.endAt {w : World} {p base : Nat} {B : Nat → Prop} {f : Int} {l : List Int} {O : List (Int × Int × List Int)} {E : List (Int × Int × Int × Int)} (h : RefX w p base B f l O E) (h0 : 0 < E.length) :
    ∃ g cap, w.cell? ⟨p, 3, none⟩ = some (.slice (some ⟨g, 0, none⟩) E.length cap) ∧ E.length ≤ cap ∧ cap ≤ maxLen ∧ ∀ i (hi : i < E.length),
      w.cell? ⟨g, i * 35, none⟩ = some (.int .i64 E[i].1) ∧ w.cell? ⟨g, i * 35 + 1, none⟩ = some (.int .i64 E[i].2.1) ∧ Mid47 w ⟨g, i * 35 + 2, none⟩ E[i].2.2.1 E[i].2.2.2 := by
  obtain ⟨g, cap, h1, h2, h3, h4⟩ := h.ends h0
  exact ⟨g, cap, h1, h2, h3, fun i hi => ⟨(h4 i hi).1, (h4 i hi).2.1, rfl, (h4 i hi).2.2⟩⟩
end Go.Proofs.Ytldcpnabgpjgiaa.WalksT
