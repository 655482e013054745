/-
  The chapter's examples come through.
-/
import Derived.Test.YtdhidcoglioalaaPlateI
namespace Go.Proofs.Ytdhidcoglioalaa.Walks
open Go.RowKit Plain
set_option linter.unusedVariables false

def A0 : Pl := Pl.made 2
def A1 : Pl := A0.write 0 (bytesOf (oneS 1))
def A2 : Pl := A1.write 1 (bytesOf (oneS 2))
def A3 : Pl := A2.write 0 (bytesOf (oneS 3))
def A4 : Pl := A3.crash [false, true]
def A5 : Pl := A4.boot
def A6 : Pl := A5.write 0 (bytesOf (oneS 1))
def A7 : Pl := A6.flush
def A8 : Pl := A7.write 0 (bytesOf (oneS 2))
def A9 : Pl := A8.crash []
def A10 : Pl := A9.boot
def A11 : Pl := A10.fail 1 []
def A12 : Pl := A11.write 0 (bytesOf (oneS 3))
def A13 : Pl := A12.flush
set_option maxRecDepth 20000 in
set_option maxHeartbeats 4000000 in
theorem awake_any (w : World) : Calls Try.prog 21 #[] w fun e w' => e = .returned (.bool true) ∧ Below w.heap.size w w' := by
  go_enter Try.func21, Try.ntmps21
  go_wp2_with fail
  refine Calls.mono (s_new 2 (by decide) (by decide) w w (Below.refl _ _)) ?_
  rintro e w1 ⟨q, rfl, hS, _, _⟩
  have HS := Lib.hid hS
  clear hS
  go_wp2_with fail
  refine Calls.mono (s_full (b := 1) rfl _) ?_
  rintro e w2 ⟨rfl, rfl⟩
  go_wp2_with fail
  refine Calls.mono (s_put (P' := A1) (z := 0) HS.out (by kernel_rfl) rfl) ?_
  rintro e w3 ⟨rfl, hS, _⟩
  clear HS
  have HS := Lib.hid hS
  clear hS
  go_wp2_with fail
  refine Calls.mono (s_full (b := 2) rfl _) ?_
  rintro e w4 ⟨rfl, rfl⟩
  go_wp2_with fail
  refine Calls.mono (s_put (P' := A2) (z := 0) HS.out (by kernel_rfl) rfl) ?_
  rintro e w5 ⟨rfl, hS, _⟩
  clear HS
  have HS := Lib.hid hS
  clear hS
  go_wp2_with fail
  refine Calls.mono (s_full (b := 3) rfl _) ?_
  rintro e w6 ⟨rfl, rfl⟩
  go_wp2_with fail
  refine Calls.mono (s_put (P' := A3) (z := 0) HS.out (by kernel_rfl) rfl) ?_
  rintro e w7 ⟨rfl, hS, _⟩
  clear HS
  have HS := Lib.hid hS
  clear hS
  go_wp2_with fail
  refine Calls.mono (s_waits (l := [0, 1]) HS.out (by kernel_rfl) rfl) ?_
  rintro e w8 ⟨a8, c8, rfl, hI, hS, _⟩
  clear HS
  have HS := Lib.hid hS
  have HI := Lib.hid hI
  clear hS hI
  go_wp2_with fail
  refine Calls.mono (eqI_is (l := [0, 1]) (l' := [0, 1]) rfl rfl rfl (HI.out.below (Below.new _ _)) (ints_new w8 [0, 1] (by decide) 3)) ?_
  rintro e w9 ⟨rfl, hb⟩
  have hS := (HS.out.below (Below.new w8 (.cells #[.int .i64 0, .int .i64 1] 3))).below hb
  clear hb HI
  clear HS
  have HS := Lib.hid hS
  clear hS
  go_wp2_with fail
  refine Calls.mono (s_crash (P' := A4) (l := [false, true]) rfl (HS.out.below (Below.new _ (.cells #[.bool false, .bool true] 4))) (bools_new w9 [false, true] (by decide) 4) (fun _ ad e hm => by cases e; exact Nat.lt_irrefl _ (HS.out.pl.lt _ hm)) (z := 0) (by kernel_rfl) rfl) ?_
  rintro e w10 ⟨rfl, hS, _⟩
  clear HS
  have HS := Lib.hid hS
  clear hS
  go_wp2_with fail
  refine Calls.mono (s_dead (d := true) HS.out (by kernel_rfl)) ?_
  rintro e w11 ⟨rfl, rfl⟩
  go_wp2_with fail
  refine Calls.mono (s_boot (P' := A5) HS.out rfl) ?_
  rintro e w12 ⟨rfl, hS, _⟩
  clear HS
  have HS := Lib.hid hS
  clear hS
  go_wp2_with fail
  refine Calls.mono (s_has (b := 0) (r := true) rfl HS.out (by kernel_rfl)) ?_
  rintro e w13 ⟨rfl, hS, _⟩
  clear HS
  have HS := Lib.hid hS
  clear hS
  go_wp2_with fail
  refine Calls.mono (s_has (b := 2) (r := true) rfl HS.out (by kernel_rfl)) ?_
  rintro e w14 ⟨rfl, hS, _⟩
  clear HS
  have HS := Lib.hid hS
  clear hS
  go_wp2_with fail
  refine Calls.mono (s_full (b := 1) rfl _) ?_
  rintro e w15 ⟨rfl, rfl⟩
  go_wp2_with fail
  refine Calls.mono (s_put (P' := A6) (z := 0) HS.out (by kernel_rfl) rfl) ?_
  rintro e w16 ⟨rfl, hS, _⟩
  clear HS
  have HS := Lib.hid hS
  clear hS
  go_wp2_with fail
  refine Calls.mono (s_flush (P' := A7) (z := 0) HS.out (by kernel_rfl) rfl) ?_
  rintro e w17 ⟨rfl, hS, _⟩
  clear HS
  have HS := Lib.hid hS
  clear hS
  go_wp2_with fail
  refine Calls.mono (s_full (b := 2) rfl _) ?_
  rintro e w18 ⟨rfl, rfl⟩
  go_wp2_with fail
  refine Calls.mono (s_put (P' := A8) (z := 0) HS.out (by kernel_rfl) rfl) ?_
  rintro e w19 ⟨rfl, hS, _⟩
  clear HS
  have HS := Lib.hid hS
  clear hS
  go_wp2_with fail
  refine Calls.mono (s_crash (P' := A9) (l := []) rfl HS.out (Bools.nil _ none) (fun _ ad e => by cases e) (z := 0) (by kernel_rfl) rfl) ?_
  rintro e w20 ⟨rfl, hS, _⟩
  clear HS
  have HS := Lib.hid hS
  clear hS
  go_wp2_with fail
  refine Calls.mono (s_boot (P' := A10) HS.out rfl) ?_
  rintro e w21 ⟨rfl, hS, _⟩
  clear HS
  have HS := Lib.hid hS
  clear hS
  go_wp2_with fail
  refine Calls.mono (s_has (b := 1) (r := true) rfl HS.out (by kernel_rfl)) ?_
  rintro e w22 ⟨rfl, hS, _⟩
  clear HS
  have HS := Lib.hid hS
  clear hS
  go_wp2_with fail
  refine Calls.mono (s_fail (P' := A11) (l := []) rfl (by decide) HS.out (Bools.nil _ none) (fun _ => rfl) (z := 0) (by kernel_rfl) rfl) ?_
  rintro e w23 ⟨rfl, hS, _⟩
  clear HS
  have HS := Lib.hid hS
  clear hS
  go_wp2_with fail
  refine Calls.mono (s_full (b := 3) rfl _) ?_
  rintro e w24 ⟨rfl, rfl⟩
  go_wp2_with fail
  refine Calls.mono (s_put (P' := A12) (z := 0) HS.out (by kernel_rfl) rfl) ?_
  rintro e w25 ⟨rfl, hS, _⟩
  clear HS
  have HS := Lib.hid hS
  clear hS
  go_wp2_with fail
  refine Calls.mono (s_flush (P' := A13) (z := 50) HS.out (by kernel_rfl) rfl) ?_
  rintro e w26 ⟨rfl, hS, _⟩
  clear HS
  have HS := Lib.hid hS
  clear hS
  go_wp2_with fail
  refine Calls.mono (s_dead (d := true) HS.out (by kernel_rfl)) ?_
  rintro e w27 ⟨rfl, rfl⟩
  go_wp2
  go_ret
  exact ⟨rfl, HS.out.be⟩
end Go.Proofs.Ytdhidcoglioalaa.Walks
