/-
  The walks.
-/
import Derived.Test.YtfmdgbleobodmaaRows
import Derived.Test.YtfmdgbleobodmaaMath
import Derived.Test.YtfmdgbleobodmaaBits
import Derived.WalkKit
import Derived.Lib.Hide
import Derived.Deep.RegionWith
import Derived.Deep.QuietTactic
import Derived.BigQuiet
import Derived.Laws.Rows
namespace Go.Proofs.Ytfmdgbleobodmaa.Walks
open Go.RowKit Math Bits

theorem ret_int {k : IntKind} {a b : Int} (h : a = b) : Ending.returned (.int k a) = .returned (.int k b) := by rw [h]
theorem val_int {k : IntKind} {a b : Int} (h : a = b) : Value.int k a = .int k b := by rw [h]

set_option maxHeartbeats 400000 in
theorem shift_any (x : W) (w : World) :
    Calls Try.prog 24 #[.int .u64 (x.toNat : Int)] w fun e w' => e = .returned (.int .u64 ((shN 8 x).toNat : Int)) ∧ w = w' := by
  go_enter Try.func24, Try.ntmps24
  go_wp2
  go_loop [0, 3] (fun s i => ∃ k : Nat, k ≤ 8 ∧ i = .int .i64 k ∧ s = .int .u64 ((shN k x).toNat : Int)) (fun _ i => 8 - (intOf i).toNat)
  case atStart => exact ⟨0, Nat.zero_le _, rfl, rfl⟩
  case round =>
    obtain ⟨k, hk, rfl, rfl⟩ := hrel
    go_wp2
    · go_round
      case rel => exact ⟨k + 1, by omega, by go_num, val_int (sh1_int _)⟩
      case measure => simp [intOf]; omega
    · have : k = 8 := by omega
      subst this
      go_ret
      exact ⟨rfl, rfl⟩

set_option maxHeartbeats 400000 in
theorem step_any (x : W) (c : BitVec 8) (w : World) :
    Calls Try.prog 14 #[.int .u64 (x.toNat : Int), .int .u8 (c.toNat : Int)] w fun e w' => e = .returned (.int .u64 ((stp x c).toNat : Int)) ∧ w = w' := by
  go_enter Try.func14, Try.ntmps14
  go_wp2_with fail
  rw [xorByte]
  refine (shift_any _ _).mono ?_
  rintro e w' ⟨rfl, rfl⟩
  go_wp2
  go_ret
  exact ⟨rfl, rfl⟩

set_option maxHeartbeats 400000 in
theorem refStep_any (x : W) (c : BitVec 8) (w : World) :
    Calls Try.prog 15 #[.int .u64 (x.toNat : Int), .int .u8 (c.toNat : Int)] w fun e w' => e = .returned (.int .u64 ((stp x c).toNat : Int)) ∧ w = w' := by
  go_enter Try.func15, Try.ntmps15
  go_wp2
  go_loop [0, 5] (fun s i => ∃ k : Nat, k ≤ 8 ∧ i = .int .i64 k ∧ s = .int .u64 ((shN k (x ^^^ c.setWidth 64)).toNat : Int)) (fun _ i => 8 - (intOf i).toNat)
  case atStart => exact ⟨0, by omega, rfl, val_int (xorByte _ _)⟩
  case round =>
    obtain ⟨k, hk, rfl, rfl⟩ := hrel
    go_wp2
    · go_round
      case rel => exact ⟨k + 1, by omega, by go_num, val_int (ref_odd _ ‹_›)⟩
      case measure => simp [intOf]; omega
    · go_round
      case rel => exact ⟨k + 1, by omega, by go_num, val_int (ref_even _ ‹_›)⟩
      case measure => simp [intOf]; omega
    · have : k = 8 := by omega
      subst this
      go_ret
      exact ⟨rfl, rfl⟩

theorem ofInt_toNat (n : Int) (h0 : 0 ≤ n) (h1 : n < 18446744073709551616) : ((BitVec.ofInt 64 n).toNat : Int) = n := by
  obtain ⟨m, rfl⟩ := Int.eq_ofNat_of_zero_le h0
  rw [BitVec.ofInt_natCast, BitVec.toNat_ofNat]; omega

theorem shift_int (n : Int) (h0 : 0 ≤ n) (h1 : n < 4096) (w : World) :
    Calls Try.prog 24 #[.int .u64 n] w fun e w' => e = .returned (.int .u64 ((shN 8 (BitVec.ofInt 64 n)).toNat : Int)) ∧ w = w' := by
  have h := shift_any (BitVec.ofInt 64 n) w
  rw [ofInt_toNat n h0 (by omega)] at h
  exact h

end Go.Proofs.Ytfmdgbleobodmaa.Walks
