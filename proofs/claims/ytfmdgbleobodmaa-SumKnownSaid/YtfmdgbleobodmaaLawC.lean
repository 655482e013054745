/-
  The walk of the law SumKnown.
-/
import Derived.Test.YtfmdgbleobodmaaLawB
namespace Go.Proofs.Ytfmdgbleobodmaa.Walks
open Go.RowKit Math Bits
set_option linter.unusedVariables false

def l1234 : List (BitVec 8) := [49, 50, 51, 52]
def l56789 : List (BitVec 8) := [53, 54, 55, 56, 57]
def lz : List (BitVec 8) := [0]
theorem k0 : sumOf [] = 0#64 := by decide +kernel
theorem k1 : stp 0#64 0#8 = 0#64 := by decide +kernel
theorem k2 : stp 1#64 0#8 = 12911341560706588527#64 := by decide +kernel
theorem k3 : stp 1#64 1#8 = 0#64 := by decide +kernel
theorem k4 : sumFrom (sumOf l1234) l56789 = 11051210869376104954#64 := by decide +kernel
theorem k5 : sumFrom 77#64 [] = 77#64 := by decide +kernel
theorem k6 : sumOf lz = 2282658103124508505#64 := by decide +kernel

theorem bts_nil (w : World) : Bts w none [] := ⟨by simp, .inl rfl⟩

set_option maxHeartbeats 1000000 in
theorem sumKnown_walk (w : World) : Calls Try.prog 13 #[] w fun e w' => e = .returned (.bool true) ∧ Below w.heap.size w w' := by
  have kc := fun (w : World) (C : Array Value) (n c : Nat) => Lib.run_convert_bytes_const (P := Try.prog) w 26 5 C n c Try.underlying26 Try.underlying5
  go_enter Try.func13, Try.ntmps13
  go_wp2_with fail
  refine (works_any _).mono ?_
  rintro e w1 ⟨rfl, hb1⟩
  go_wp2_with fail
  refine (of_any none 0 [] _ (bts_nil _)).mono ?_
  rintro e w2 ⟨rfl, hb2⟩
  have hb12 := hb1.trans (hb2.mono hb1.size)
  clear hb1 hb2
  rw [k0]
  go_wp2_with fail
  refine (step_any 0#64 0#8 _).mono ?_
  rintro e w' ⟨rfl, rfl⟩
  rw [k1]
  go_wp2_with fail
  refine (step_any 1#64 0#8 _).mono ?_
  rintro e w' ⟨rfl, rfl⟩
  rw [k2]
  go_wp2_with fail
  refine (step_any 1#64 1#8 _).mono ?_
  rintro e w' ⟨rfl, rfl⟩
  rw [k3]
  go_wp2_with fail
  refine (of_any (some ⟨w2.heap.size, 0, none⟩) 4 l1234 _ (bts_block (cs := (l1234.map byteV).toArray) (heap_alloc_new _ _) rfl (by decide))).mono ?_
  rintro e w3 ⟨rfl, hb3⟩
  have hb13 := hb12.trans (((Below.refl _ _).alloc hb12.size _).trans (hb3.mono (by have := hb12.size; simp; omega)))
  clear hb12 hb3
  go_wp2_with fail
  refine (add_any (sumOf l1234) (some ⟨w3.heap.size, 0, none⟩) 5 l56789 _ (bts_block (cs := (l56789.map byteV).toArray) (heap_alloc_new _ _) rfl (by decide))).mono ?_
  rintro e w4 ⟨rfl, hb4⟩
  have hb14 := hb13.trans (((Below.refl _ _).alloc hb13.size _).trans (hb4.mono (by have := hb13.size; simp; omega)))
  clear hb13 hb4
  rw [k4]
  go_wp2_with fail
  refine (add_any 77#64 none 0 [] _ (bts_nil _)).mono ?_
  rintro e w5 ⟨rfl, hb5⟩
  have hb15 := hb14.trans (hb5.mono hb14.size)
  clear hb14 hb5
  rw [k5]
  go_wp2_with fail
  refine (of_any (some ⟨w5.heap.size, 0, none⟩) 1 lz _ (bts_block (cs := (lz.map byteV).toArray) (heap_alloc_new _ _) rfl (by decide))).mono ?_
  rintro e w6 ⟨rfl, hb6⟩
  have hb16 := hb15.trans (((Below.refl _ _).alloc hb15.size _).trans (hb6.mono (by have := hb15.size; simp; omega)))
  clear hb15 hb6
  rw [k6]
  go_wp2_with fail
  refine (add_any 0#64 (some ⟨w6.heap.size, 0, none⟩) 1 lz _ (bts_block (cs := (lz.map byteV).toArray) (heap_alloc_new _ _) rfl (by decide))).mono ?_
  rintro e w7 ⟨rfl, hb7⟩
  have hb17 := hb16.trans (((Below.refl _ _).alloc hb16.size _).trans (hb7.mono (by have := hb16.size; simp; omega)))
  clear hb16 hb7
  rw [show sumFrom 0#64 lz = _ from k6]
  go_wp2_with fail
  refine (of_any (some ⟨w7.heap.size, 0, none⟩) 1 lz _ (bts_block (cs := (lz.map byteV).toArray) (heap_alloc_new _ _) rfl (by decide))).mono ?_
  rintro e w8 ⟨rfl, hb8⟩
  have hb18 := hb17.trans (((Below.refl _ _).alloc hb17.size _).trans (hb8.mono (by have := hb17.size; simp; omega)))
  clear hb17 hb8
  rw [k6]
  go_wp2
  go_ret
  exact ⟨rfl, hb18⟩
end Go.Proofs.Ytfmdgbleobodmaa.Walks
