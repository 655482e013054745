/-
  Bits of Go's ints.
-/
import Derived.Test.YtldcpnabgpjgiaaCrewN0
namespace Go.Proofs.Ytldcpnabgpjgiaa.Walks
open Go.RowKit Plain
set_option linter.unusedVariables false

theorem pick_congr {p q : Nat → Bool} {l : List Int} (h : ∀ i, i < l.length → p i = q i) : pick p l = pick q l := by
  induction l generalizing p q with
  | nil => rfl
  | cons x l ih =>
    have h0 := h 0 (by simp)
    have h1 := ih (p := fun i => p (i + 1)) (q := fun i => q (i + 1)) (fun i hi => h (i + 1) (by simp; omega))
    simp only [pick, h0, h1]

theorem bitP_odd (b : Int) (i : Nat) : bitP b i = decide (b / 2 ^ i % 2 = 1) := by
  unfold bitP
  generalize b / 2 ^ i = x
  have e : bits .and .i64 x 1 = x % 2 := by
    have h1 : (BitVec.ofInt 64 x &&& BitVec.ofInt 64 1).toNat = (x % 2).toNat := by
      rw [BitVec.toNat_and, BitVec.toNat_ofInt, BitVec.toNat_ofInt]
      have : ((1 : Int) % ((2 ^ 64 : Nat) : Int)).toNat = 1 := by decide
      rw [this, Nat.and_one_is_mod]
      have h2 : ((2 ^ 64 : Nat) : Int) = 18446744073709551616 := by decide
      rw [h2]
      omega
    show IntKind.i64.wrap (((BitVec.ofInt 64 x &&& BitVec.ofInt 64 1).toNat : Nat) : Int) = x % 2
    rw [h1, IntKind.wrap_i64]
    omega
  rw [e, Bool.eq_iff_iff]
  simp

theorem bitP_lsb (b : Int) {i : Nat} (hi : i < 64) : bitP b i = (BitVec.ofInt 64 b).getLsbD i := by
  rw [bitP_odd, ← BitVec.testBit_toNat, BitVec.toNat_ofInt, Nat.testBit_eq_decide_div_mod_eq, decide_eq_decide]
  have h0 : 0 ≤ b % ((2 ^ 64 : Nat) : Int) := Int.emod_nonneg _ (by decide)
  obtain ⟨m, hm⟩ := Int.eq_ofNat_of_zero_le h0
  have hd := Int.mul_ediv_add_emod b ((2 ^ 64 : Nat) : Int)
  rw [hm] at hd ⊢
  generalize b / ((2 ^ 64 : Nat) : Int) = q at hd
  have hp : ((2 ^ 64 : Nat) : Int) = 2 ^ i * (2 * 2 ^ (63 - i)) := by
    have : (2 : Nat) ^ 64 = 2 ^ i * (2 * 2 ^ (63 - i)) := by
      rw [← Nat.pow_succ', ← Nat.pow_add]; congr 1; omega
    exact_mod_cast congrArg (fun n : Nat => (n : Int)) this
  have hb : b = (m : Int) + 2 ^ i * (2 * 2 ^ (63 - i) * q) := by
    rw [← hd, hp, Int.mul_assoc]; omega
  have hdiv : b / 2 ^ i = (m : Int) / 2 ^ i + 2 * (2 ^ (63 - i) * q) := by
    rw [hb, Int.add_mul_ediv_left _ _ (Int.ne_of_gt (Int.pow_pos (by decide))), Int.mul_assoc 2]
  have hc : (m : Int) / 2 ^ i = ((m / 2 ^ i : Nat) : Int) := by
    rw [Int.natCast_ediv]; simp
  rw [hdiv, hc]
  simp only [Int.toNat_natCast]
  generalize 2 ^ (63 - i) * q = z
  omega

theorem bits_and (b c : Int) {i : Nat} (hi : i < 64) : bitP (bits .and .i64 b c) i = (bitP b i && bitP c i) := by
  rw [bitP_lsb _ hi, bitP_lsb _ hi, bitP_lsb _ hi]
  have e : BitVec.ofInt 64 (bits .and .i64 b c) = BitVec.ofInt 64 b &&& BitVec.ofInt 64 c := by
    show BitVec.ofInt 64 (IntKind.i64.wrap (((BitVec.ofInt 64 b &&& BitVec.ofInt 64 c).toNat : Nat) : Int)) = _
    generalize (BitVec.ofInt 64 b &&& BitVec.ofInt 64 c) = z
    apply BitVec.eq_of_toNat_eq
    rw [BitVec.toNat_ofInt, IntKind.wrap_i64]
    have hz := z.isLt
    have h2 : ((2 ^ 64 : Nat) : Int) = 18446744073709551616 := by decide
    rw [h2]
    omega
  rw [e, BitVec.getLsbD_and]
end Go.Proofs.Ytldcpnabgpjgiaa.Walks
