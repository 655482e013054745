/-
  Plain: two hands to which the same nodes order the same, in two orders.
-/
import Derived.Test.YtldcpnabgpjgiaaHandP
namespace Go.Proofs.Ytldcpnabgpjgiaa.Plain
set_option linter.unusedVariables false

def n1L : List Int := [5, 6, 7, 10]
/-- Who tells, as four bits. -/
def bv (b1 b2 b3 b4 : Bool) : Nat → Bool
  | 1 => b1
  | 2 => b2
  | 3 => b3
  | _ => b4
def ordA (b : Nat → Bool) (k : Nat) : List (Int × Int × List Int) := ((List.range k).filter fun j => b (1 + j)).map fun j : Nat => (((1 + j : Nat) : Int), 5, n1L)
def ordM (f j : Nat) : Nat := 1 + (f + 4 - j) % 4
def ordB (b : Nat → Bool) (f k : Nat) : List (Int × Int × List Int) := ((List.range k).filter fun j => b (ordM f j)).map fun j : Nat => ((ordM f j : Int), 5, n1L)
theorem ordA_succ (b : Nat → Bool) (k : Nat) : ordA b (k + 1) = if b (1 + k) then ordA b k ++ [(((1 + k : Nat) : Int), 5, n1L)] else ordA b k := by
  unfold ordA
  rw [List.range_succ, List.filter_append]
  cases h : b (1 + k) <;> simp [h]
theorem ordB_succ (b : Nat → Bool) (f k : Nat) : ordB b f (k + 1) = if b (ordM f k) then ordB b f k ++ [((ordM f k : Int), 5, n1L)] else ordB b f k := by
  unfold ordB
  rw [List.range_succ, List.filter_append]
  cases h : b (ordM f k) <;> simp [h]
theorem ordA_may4 : ∀ b1 b2 b3 b4 : Bool, ∀ k : Fin 4, bv b1 b2 b3 b4 (1 + k.1) = true → mayO 1 [1, 2, 3, 4] (ordA (bv b1 b2 b3 b4) k.1) ((1 + k.1 : Nat) : Int) 5 n1L = true := by decide +kernel
theorem ordB_may4 : ∀ b1 b2 b3 b4 : Bool, ∀ f k : Fin 4, bv b1 b2 b3 b4 (ordM f.1 k.1) = true → mayO 1 [1, 2, 3, 4] (ordB (bv b1 b2 b3 b4) f.1 k.1) (ordM f.1 k.1 : Int) 5 n1L = true := by decide +kernel
theorem ord_end4 : ∀ b1 b2 b3 b4 : Bool, ∀ f : Fin 4, crewOf 1 (ordA (bv b1 b2 b3 b4) 4) 5 = crewOf 1 (ordB (bv b1 b2 b3 b4) f.1 4) 5 ∧ crewOf 1 (ordA (bv b1 b2 b3 b4) 4) 5 = if 2 ≤ (ordA (bv b1 b2 b3 b4) 4).length then some n1L else none := by decide +kernel
/-- A function that is four bits. -/
theorem ord_ext {b : Nat → Bool} {k : Nat} (hk : k ≤ 4) : ordA b k = ordA (bv (b 1) (b 2) (b 3) (b 4)) k := by
  unfold ordA
  congr 1
  apply List.filter_congr
  intro j hj
  rw [List.mem_range] at hj
  match j, hj with
  | 0, _ => rfl
  | 1, _ => rfl
  | 2, _ => rfl
  | 3, _ => rfl
  | n + 4, h => omega
theorem bv_at {b : Nat → Bool} {m : Nat} (h1 : 1 ≤ m) (h2 : m ≤ 4) : bv (b 1) (b 2) (b 3) (b 4) m = b m := by
  match m, h1, h2 with
  | 1, _, _ => rfl
  | 2, _, _ => rfl
  | 3, _, _ => rfl
  | 4, _, _ => rfl
theorem ordM_bd (f j : Nat) : 1 ≤ ordM f j ∧ ordM f j ≤ 4 := by unfold ordM; omega
theorem ordB_ext {b : Nat → Bool} {f k : Nat} : ordB b f k = ordB (bv (b 1) (b 2) (b 3) (b 4)) f k := by
  unfold ordB
  congr 1
  apply List.filter_congr
  intro j hj
  exact (bv_at (ordM_bd f j).1 (ordM_bd f j).2).symm
theorem ordA_may {b : Nat → Bool} {k : Nat} (hk : k < 4) (h : b (1 + k) = true) : mayO 1 [1, 2, 3, 4] (ordA b k) ((1 + k : Nat) : Int) 5 n1L = true := by
  rw [ord_ext (by omega)]
  exact ordA_may4 _ _ _ _ ⟨k, hk⟩ (by rw [bv_at (by simp) (by simp; omega)]; exact h)
theorem ordB_may {b : Nat → Bool} {f k : Nat} (hf : f < 4) (hk : k < 4) (h : b (ordM f k) = true) : mayO 1 [1, 2, 3, 4] (ordB b f k) (ordM f k : Int) 5 n1L = true := by
  rw [ordB_ext]
  exact ordB_may4 _ _ _ _ ⟨f, hf⟩ ⟨k, hk⟩ (by rw [bv_at (ordM_bd f k).1 (ordM_bd f k).2]; exact h)
theorem ord_end {b : Nat → Bool} {f : Nat} (hf : f < 4) : crewOf 1 (ordA b 4) 5 = crewOf 1 (ordB b f 4) 5 ∧ crewOf 1 (ordA b 4) 5 = if 2 ≤ (ordA b 4).length then some n1L else none := by
  rw [ord_ext (by omega), ordB_ext]
  exact ord_end4 _ _ _ _ ⟨f, hf⟩
theorem may_order {f : Int} {l : List Int} {O : List (Int × Int × List Int)} {n e : Int} {m : List Int} (h : mayO f l O n e m = true) : orderE f l O n e m = 0 ∧ orderO f l O n e m = O ++ [(n, e, m)] := by
  refine ⟨?_, by simp [orderO, h]⟩
  simp only [mayO, Bool.and_eq_true, decide_eq_true_eq, Bool.not_eq_true', decide_eq_false_iff_not] at h
  obtain ⟨⟨⟨⟨h1, h2⟩, h3⟩, h4⟩, h5⟩ := h
  simp [orderE, h1, h2, h3, h4, h5]
end Go.Proofs.Ytldcpnabgpjgiaa.Plain
