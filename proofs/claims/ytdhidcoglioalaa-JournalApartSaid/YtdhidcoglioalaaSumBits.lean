/-
  uint64 and byte operations of the model, told of bit vectors.
-/
import Derived.WalkKit
import Derived.Test.YtdhidcoglioalaaSumP
namespace Go.Proofs.Ytdhidcoglioalaa.Bits
open Math

theorem wrapU (r : W) : IntKind.u64.wrap (r.toNat : Int) = (r.toNat : Int) := by
  have := r.isLt
  rw [IntKind.wrap_u64]; omega

theorem ofIntU (x : W) : BitVec.ofInt 64 (x.toNat : Int) = x := by
  rw [BitVec.ofInt_natCast]; simp

theorem xorU (x y : W) : bits .xor .u64 (x.toNat : Int) (y.toNat : Int) = ((x ^^^ y).toNat : Int) := by
  show IntKind.u64.wrap ((BitVec.ofInt 64 (x.toNat : Int) ^^^ BitVec.ofInt 64 (y.toNat : Int)).toNat : Int) = _
  rw [ofIntU, ofIntU, wrapU]
theorem andU (x y : W) : bits .and .u64 (x.toNat : Int) (y.toNat : Int) = ((x &&& y).toNat : Int) := by
  show IntKind.u64.wrap ((BitVec.ofInt 64 (x.toNat : Int) &&& BitVec.ofInt 64 (y.toNat : Int)).toNat : Int) = _
  rw [ofIntU, ofIntU, wrapU]
theorem and1U (x : W) : bits .and .u64 (x.toNat : Int) 1 = ((x &&& 1#64).toNat : Int) := andU x 1#64
theorem negU (x : W) : IntKind.u64.wrap (-(x.toNat : Int)) = ((-x).toNat : Int) := by
  have := x.isLt
  rw [IntKind.wrap_u64, BitVec.toNat_neg]; omega
theorem shr1U (x : W) : (x.toNat : Int) / (2 : Int) = ((x >>> 1).toNat : Int) := by
  rw [BitVec.toNat_ushiftRight, Nat.shiftRight_eq_div_pow]; simp

theorem sh1_int (x : W) : bits .xor .u64 ((x.toNat : Int) / 2) (bits .and .u64 14514072000185962306 (IntKind.u64.wrap (-bits .and .u64 (x.toNat : Int) 1))) = ((sh1 x).toNat : Int) := by
  rw [show (x.toNat : Int) / (2 : Int) = ((x >>> 1).toNat : Int) from shr1U x, and1U, negU]
  have h := andU poly (-(x &&& 1#64))
  have e : (poly.toNat : Int) = 14514072000185962306 := by rfl
  rw [e] at h
  rw [h, xorU]
  rfl

theorem setW (c : BitVec 8) : (c.toNat : Int) = ((c.setWidth 64 : W).toNat : Int) := by
  have := c.isLt
  rw [BitVec.toNat_setWidth]; omega
theorem xorByte (x : W) (c : BitVec 8) : bits .xor .u64 (x.toNat : Int) (c.toNat : Int) = ((x ^^^ c.setWidth 64).toNat : Int) := by
  rw [setW, xorU]

theorem odd_and (x : W) (h : x.toNat % 2 = 1) : x &&& 1#64 = 1#64 := by
  apply BitVec.eq_of_toNat_eq
  rw [BitVec.toNat_and]
  show x.toNat &&& 1 = 1
  rw [Nat.and_one_is_mod]; exact h
theorem even_and (x : W) (h : x.toNat % 2 = 0) : x &&& 1#64 = 0#64 := by
  apply BitVec.eq_of_toNat_eq
  rw [BitVec.toNat_and]
  show x.toNat &&& 1 = 0
  rw [Nat.and_one_is_mod]; exact h

theorem ref_odd (x : W) (h : ((x.toNat : Int) % 2 == 1) = true) : bits .xor .u64 ((x.toNat : Int) / 2) 14514072000185962306 = ((sh1 x).toNat : Int) := by
  rw [show (x.toNat : Int) / (2 : Int) = ((x >>> 1).toNat : Int) from shr1U x]
  have e := xorU (x >>> 1) poly
  rw [show (poly.toNat : Int) = 14514072000185962306 from rfl] at e
  rw [e]
  have h1 : x.toNat % 2 = 1 := by simp at h; omega
  have h2 : poly &&& -(1#64) = poly := by decide
  unfold sh1
  rw [odd_and x h1, h2]
theorem ref_even (x : W) (h : ((x.toNat : Int) % 2 == 1) = false) : (x.toNat : Int) / 2 = ((sh1 x).toNat : Int) := by
  rw [show (x.toNat : Int) / (2 : Int) = ((x >>> 1).toNat : Int) from shr1U x]
  have h1 : x.toNat % 2 = 0 := by simp at h; omega
  have h2 : poly &&& -(0#64) = 0#64 := by decide
  unfold sh1
  rw [even_and x h1, h2, BitVec.xor_zero]

theorem wrapB (r : BitVec 8) : IntKind.u8.wrap (r.toNat : Int) = (r.toNat : Int) := by
  have := r.isLt
  rw [IntKind.wrap_u8']; omega
theorem ofIntB (x : BitVec 8) : BitVec.ofInt 8 (x.toNat : Int) = x := by
  rw [BitVec.ofInt_natCast]; simp
theorem lowByte (x : W) : IntKind.u8.wrap (x.toNat : Int) = ((x.setWidth 8).toNat : Int) := by
  rw [IntKind.wrap_u8', BitVec.toNat_setWidth]; omega
theorem xorB (x y : BitVec 8) : bits .xor .u8 (x.toNat : Int) (y.toNat : Int) = ((x ^^^ y).toNat : Int) := by
  show IntKind.u8.wrap ((BitVec.ofInt 8 (x.toNat : Int) ^^^ BitVec.ofInt 8 (y.toNat : Int)).toNat : Int) = _
  rw [ofIntB, ofIntB, wrapB]
theorem shr8U (x : W) : (x.toNat : Int) / (256 : Int) = ((x >>> 8).toNat : Int) := by
  rw [BitVec.toNat_ushiftRight, Nat.shiftRight_eq_div_pow]; simp
theorem byteXor (x : W) (c : BitVec 8) : bits .xor .u8 ((x.toNat : Int) % (256 : Int)) (c.toNat : Int) = ((x.setWidth 8 ^^^ c).toNat : Int) := by
  have := lowByte x
  rw [IntKind.wrap_u8'] at this
  rw [show (x.toNat : Int) % (256 : Int) = ((x.setWidth 8).toNat : Int) from this, xorB]
theorem add_step_int (S : W) (c y : BitVec 8) (hy : y = S.setWidth 8 ^^^ c) : bits .xor .u64 (bits .xor .u64 ((S.toNat : Int) / (256 : Int)) ((lo (y.toNat % 16)).toNat : Int)) ((hi (y.toNat / 16)).toNat : Int) = ((stp S c).toNat : Int) := by
  subst hy
  rw [show (S.toNat : Int) / (256 : Int) = ((S >>> 8).toNat : Int) from shr8U S, xorU, xorU, ← stp_halves]
theorem addL_take_succ (s : W) (l : List (BitVec 8)) (k : Nat) (h : k < l.length) : addL s (l.take (k + 1)) = stp (addL s (l.take k)) l[k] := by
  rw [List.take_succ_eq_append_getElem h, addL_append]; rfl
theorem notU (x : W) : bits .xor .u64 IntKind.u64.max (x.toNat : Int) = ((~~~x).toNat : Int) := by
  have h := xorU (BitVec.allOnes 64) x
  rw [show ((BitVec.allOnes 64 : W).toNat : Int) = IntKind.u64.max from by decide] at h
  rw [h, BitVec.allOnes_xor]

end Go.Proofs.Ytdhidcoglioalaa.Bits
