/-
  The walk of sum.halves.
-/
import Derived.Test.YtfmdgbleobodmaaWalkA
namespace Go.Proofs.Ytfmdgbleobodmaa.Walks
open Go.RowKit Math Bits

/-- Sixteen numbers, the first k of which are set. -/
def arr (f : Nat → W) (k : Nat) : Array Value := Array.ofFn (n := 16) fun i => if i.val < k then .int .u64 ((f i.val).toNat : Int) else .int .u64 0

theorem arr_size (f : Nat → W) (k : Nat) : (arr f k).size = 16 := by simp [arr]
theorem arr_at (f : Nat → W) (k i : Nat) (h : i < 16) : (arr f k)[i]? = some (if i < k then .int .u64 ((f i).toNat : Int) else .int .u64 0) := by
  simp [arr, h]
theorem arr_step (f : Nat → W) (k : Nat) : (arr f k).setIfInBounds k (.int .u64 ((f k).toNat : Int)) = arr f (k + 1) := by
  apply Array.ext_getElem?
  intro i
  by_cases hi : i < 16
  · rw [arr_at _ _ _ hi, Array.getElem?_setIfInBounds, arr_at _ _ _ hi, arr_size]
    by_cases e : k = i
    · subst e; simp [hi]
    · simp only [e, if_false]
      by_cases h : i < k
      · simp [h, Nat.lt_succ_of_lt h]
      · rw [if_neg h, if_neg (by omega)]
  · rw [Array.getElem?_eq_none (by simp [arr]; omega), Array.getElem?_eq_none (by simp [arr]; omega)]

theorem arr_one (f : Nat → W) (k : Nat) : (arr f k).all (·.oneCell') = true := by
  rw [Array.all_eq_true]
  intro i hi
  simp only [arr, Array.getElem_ofFn]
  split <;> rfl
theorem setRow_id (w : World) (g : Nat) (cs : Array Value) (t : TypeId) (hg : w.heap[g]? = some (.cells cs t (0, 0))) : w.setRow g cs = w := by
  have : w.heap.modify g (fun | .cells _ elem frozen => .cells cs elem frozen | o => o) = w.heap := by
    apply Array.ext_getElem?
    intro i
    rw [Array.getElem?_modify]
    by_cases e : g = i
    · subst e; simp [hg]
    · simp [e]
  show { w with heap := w.heap.modify g _ } = w
  exact congrArg (fun h => { w with heap := h }) this

/-- The cells of a block. -/
def rowOf (w : World) (g : Nat) : Array Value := match w.heap[g]? with | some (.cells c _ _) => c | _ => #[]
/-- A block is an array of sixteen numbers. -/
def Row40 (w : World) (g : Nat) : Prop := w.heap[g]? = some (.cells (rowOf w g) 40 (0, 0)) ∧ (rowOf w g).size = 16 ∧ (rowOf w g).all (·.oneCell') = true
theorem rowOf_of {w : World} {g : Nat} {cs : Array Value} (h : w.heap[g]? = some (.cells cs 40 (0, 0))) : rowOf w g = cs := by simp [rowOf, h]
theorem row40_of {w : World} {g : Nat} {cs : Array Value} (h : w.heap[g]? = some (.cells cs 40 (0, 0))) (h1 : cs.size = 16) (h2 : cs.all (·.oneCell') = true) : Row40 w g := by
  have e := rowOf_of h
  exact ⟨by rw [e]; exact h, by rw [e]; exact h1, by rw [e]; exact h2⟩

theorem z40 : (Try.prog.info? 40).map (·.size) = some 16 := by kernel_rfl

theorem load40 {w : World} {g : Nat} (h : Row40 w g) : (Instr.loadAt 40 (.pointer (some ⟨g, 0, none⟩))).run Try.prog w = .ok (.agg (rowOf w g)) w := by
  simp only [Instr.loadAt, Instr.sureAddr, Sem.run_bind, Sem.run_pure, Result.andThen_ok]
  exact run_loadVar_row w g 40 40 _ (0, 0) _ h.1 Try.underlying40 rfl (by rw [h.2.1]; exact z40)
theorem store40 {w : World} {g : Nat} (h : Row40 w g) : (Instr.storeAt 40 (.pointer (some ⟨g, 0, none⟩)) (.agg (rowOf w g))).run Try.prog w = .ok () w := by
  simp only [Instr.storeAt, Instr.sureAddr, Sem.run_bind, Sem.run_pure, Result.andThen_ok]
  rw [run_storeVar_row w g 40 40 _ _ h.1 (by rw [h.2.1]; exact z40) rfl h.2.2, setRow_id w _ _ _ h.1]
def headOf : Value → Bool
  | .pointer (some ⟨_, 0, none⟩) => true
  | _ => false
def blockOf : Value → Nat
  | .pointer (some a) => a.block
  | _ => 0
theorem headOf_mk (g : Nat) : headOf (.pointer (some ⟨g, 0, none⟩)) = true := rfl
theorem blockOf_mk (g o : Nat) (s : Option Nat) : blockOf (.pointer (some ⟨g, o, s⟩)) = g := rfl
theorem head_eq {v : Value} (h : headOf v = true) : v = .pointer (some ⟨blockOf v, 0, none⟩) := by
  unfold headOf at h
  split at h
  · rfl
  · cases h
theorem exec_load40 {ρ : Operand → Value} {d : Option Tmp} {x : Operand} {t : TypeId} {p : String} {af : Array Edge} {gd : Option (Nat × Bool)} {w : World} (h1 : headOf (ρ x) = true) (h2 : Row40 w (blockOf (ρ x))) :
    (execOp ρ ⟨d, .load 40 x, t, p, af, gd⟩).run Try.prog w = .ok (.value (.agg (rowOf w (blockOf (ρ x))))) w := by
  have e := head_eq h1
  simp only [execOp]
  rw [e] at h2 ⊢
  simp only [blockOf_mk] at h2 ⊢
  simp [load40 h2, Result.andThen]
theorem exec_store40 {ρ : Operand → Value} {d : Option Tmp} {x y : Operand} {t : TypeId} {p : String} {af : Array Edge} {gd : Option (Nat × Bool)} {w : World} (h1 : headOf (ρ x) = true) (h2 : Row40 w (blockOf (ρ x))) (h3 : ρ y = .agg (rowOf w (blockOf (ρ x)))) :
    (execOp ρ ⟨d, .store 40 x y, t, p, af, gd⟩).run Try.prog w = .ok .skip w := by
  have e := head_eq h1
  simp only [execOp]
  rw [h3, e] at *
  simp only [blockOf_mk] at h2 ⊢
  simp [store40 h2, Result.andThen]
/-- Sixteen cells. -/
def is16 (v : Value) : Prop := v = .agg v.cells ∧ v.cells.size = 16 ∧ v.cells.all (·.oneCell') = true
theorem exec_store40' {ρ : Operand → Value} {d : Option Tmp} {x y : Operand} {t : TypeId} {p : String} {af : Array Edge} {gd : Option (Nat × Bool)} {w : World} (h1 : headOf (ρ x) = true) (h2 : Row40 w (blockOf (ρ x))) (h3 : is16 (ρ y)) :
    (execOp ρ ⟨d, .store 40 x y, t, p, af, gd⟩).run Try.prog w = .ok .skip (w.setRow (blockOf (ρ x)) (ρ y).cells) := by
  have e := head_eq h1
  simp only [execOp]
  obtain ⟨h3, h4, h5⟩ := h3
  rw [e] at h2 ⊢
  rw [h3]
  simp only [blockOf_mk] at h2 ⊢
  have := run_storeVar_row (P := Try.prog) w (blockOf (ρ x)) 40 40 _ (ρ y).cells h2.1 (by rw [h4]; exact z40) (by rw [h2.2.1, h4]) h5
  simp [Instr.storeAt, Instr.sureAddr, this, Result.andThen]
  rfl
theorem is16_arr (f : Nat → W) (k : Nat) : is16 (.agg (arr f k)) := ⟨rfl, arr_size _ _, arr_one _ _⟩
attribute [local go_sem] headOf_mk blockOf_mk blockOf_mk
attribute [local go_sem ↓] exec_load40 exec_store40

set_option maxHeartbeats 400000 in
theorem halves_any (w : World) :
    Calls Try.prog 25 #[] w fun e w' => e = .returned (.tuple #[.agg (arr lo 16), .agg (arr hi 16)]) ∧ Below w.heap.size w w' := by
  go_enter Try.func25, Try.ntmps25
  go_wp2
  go_loopw [3] (fun i wr => ∃ k : Nat, k ≤ 16 ∧ i = .int .i64 k ∧ wr.heap[w.heap.size]? = some (.cells (arr lo k) 40 (0, 0)) ∧ wr.heap[w.heap.size + 1]? = some (.cells (arr hi k) 40 (0, 0)) ∧ Below w.heap.size w wr)
    (fun i _ => 16 - (intOf i).toNat)
  case atStart =>
    refine ⟨0, by omega, rfl, ?_, ?_, ((Below.refl _ _).alloc (Nat.le_refl _) _).alloc (by simp) _⟩
    · rw [heap_alloc2_old]; rfl
    · rw [heap_alloc2_new]; rfl
  case round =>
    obtain ⟨k, hk, rfl, hl, hh, hb⟩ := hrel
    have H := Lib.hid hl
    have H2 := Lib.hid hh
    clear hl hh
    go_wp2
    · have hlt : (k : Int) < 16 := by assumption
      have c1 : wr.cell? ⟨w.heap.size, k, none⟩ = some (.int .u64 0) := by
        rw [cell_of_row _ _ _ _ _ _ H.out, arr_at _ _ _ (by omega), if_neg (by omega)]
      have c2 : wr.cell? ⟨w.heap.size + 1, k, none⟩ = some (.int .u64 0) := by
        rw [cell_of_row _ _ _ _ _ _ H2.out, arr_at _ _ _ (by omega), if_neg (by omega)]
      have f1 : wr.frozen? ⟨w.heap.size, k, none⟩ = false := frozen_of_row _ _ _ _ _ H.out
      have f2 : wr.frozen? ⟨w.heap.size + 1, k, none⟩ = false := frozen_of_row _ _ _ _ _ H2.out
      have e1 : IntKind.u64.wrap (k : Int) = (k : Int) := by rw [IntKind.wrap_u64]; omega
      have e2 : IntKind.u64.wrap ((k : Int) * 16) = (k : Int) * 16 := by rw [IntKind.wrap_u64]; omega
      go_region_with (first | (go_at_call 24; refine (shift_int _ (by clear e1 e2; omega) (by clear e1 e2; omega) _).mono ?_; rintro e w' ⟨rfl, rfl⟩))
      all_goals clear e1 e2
      go_wp2
      go_roundw
      case rel =>
        have g1 : ((wr.setCell ⟨w.heap.size, k, none⟩ (.int .u64 ((lo k).toNat : Int))).setCell ⟨w.heap.size + 1, k, none⟩ (.int .u64 ((hi k).toNat : Int))).heap[w.heap.size]? = some (.cells (arr lo (k + 1)) 40 (0, 0)) := by
          rw [heap_setCell_other _ _ _ _ (by simp), heap_setCell_same _ _ _ _ _ _ H.out, arr_step]
        have g2 : ((wr.setCell ⟨w.heap.size, k, none⟩ (.int .u64 ((lo k).toNat : Int))).setCell ⟨w.heap.size + 1, k, none⟩ (.int .u64 ((hi k).toNat : Int))).heap[w.heap.size + 1]? = some (.cells (arr hi (k + 1)) 40 (0, 0)) := by
          rw [heap_setCell_same _ _ _ (arr hi k) 40 _ (by rw [heap_setCell_other _ _ _ _ (by simp)]; exact H2.out), arr_step]
        exact ⟨k + 1, by omega, by go_num, g1, g2, ((hb.setCell (by simp) _).setCell (by simp) _).drew⟩
      case measure => simp [intOf]; omega
    · have : k = 16 := by omega
      subst this
      have a1 : Row40 wr.drew w.heap.size := row40_of H.out (arr_size _ _) (arr_one _ _)
      have a2 : Row40 wr.drew (w.heap.size + 1) := row40_of H2.out (arr_size _ _) (arr_one _ _)
      go_region
      go_wp2
      have r1 := run_loadVar_row (P := Try.prog) wr.drew w.heap.size 40 40 (arr lo 16) (0, 0) _ H.out Try.underlying40 rfl (by rw [arr_size]; exact z40)
      have r2 := run_loadVar_row (P := Try.prog) wr.drew (w.heap.size + 1) 40 40 (arr hi 16) (0, 0) _ H2.out Try.underlying40 rfl (by rw [arr_size]; exact z40)
      exact bodyPost_ret (v := .tuple #[.agg (arr lo 16), .agg (arr hi 16)]) (by simp [results, Try.results25, asAddr, r1, r2, Result.andThen]) rfl ⟨rfl, hb.drew⟩
end Go.Proofs.Ytfmdgbleobodmaa.Walks
