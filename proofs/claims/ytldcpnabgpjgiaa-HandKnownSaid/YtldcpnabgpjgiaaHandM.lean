/-
  The walk of the law HandKnown.
-/
import Derived.Test.YtldcpnabgpjgiaaHandL
import Derived.Test.YtldcpnabgpjgiaaCrewP
import Derived.IntWalk
namespace Go.Proofs.Ytldcpnabgpjgiaa.Walks
open Go.RowKit Plain
set_option linter.unusedVariables false
attribute [local go_sem] isLoad38_mk isLoad47_mk loadOp_mk headOf_mk blockOf_mk isMark_mk isRoot_mk isI_mk isB_mk seqOf_mk byteOf_mk byteO_mk intOf_mk drew_setRow alloc_setRow row47_new row38_new row47_drew rowOf_drew rowOf_new row38_drew row38_alloc row47_alloc rowOf_alloc
attribute [local go_sem ↓] exec_load38g exec_load47g exec_load38 exec_load47 exec_alloc47 exec_store47 exec_alloc38 exec_store38 exec_build47 exec_build47z exec_build38 exec_build38c exec_build47c exec_build38z exec_eql47

/-- What the first node told in its first rounds. -/
def ordK (k : Nat) : List (Int × Int × List Int) := (List.range k).map fun (i : Nat) => ((1 : Int), 1048512 + ((i : Int) + 1), [5, 6, 7, 9])
def endK (k : Nat) : List (Int × Int × Int × Int) := (List.range k).map fun (i : Nat) => ((5 : Int), (i : Int), (9007199254740991 : Int), (0 : Int))
theorem ordK_step : ∀ k, k < 64 → orderE 1 [1, 2, 3, 4] (ordK k) 1 (1048512 + ((k : Int) + 1)) [5, 6, 7, 9] = 0 ∧ orderO 1 [1, 2, 3, 4] (ordK k) 1 (1048512 + ((k : Int) + 1)) [5, 6, 7, 9] = ordK (k + 1) := by decide +kernel
theorem endK_step : ∀ k, k < 64 → sealE 1 [5, 6, 7, 8] (endK k) 5 (k : Int) 9007199254740991 = 0 ∧ sealO 1 [5, 6, 7, 8] (endK k) 5 (k : Int) 9007199254740991 0 = endK (k + 1) := by decide +kernel
def ordZ : List (Int × Int × List Int) := ordK 64 ++ [(2, 1048576, [5, 6, 7, 9])]

set_option maxRecDepth 100000 in
set_option maxHeartbeats 16000000 in
theorem handKnown_walk (w : World) : Calls Try.prog 8 #[] w fun e w' => e = .returned (.bool true) ∧ Below w.heap.size w w' := by
  go_enter Try.func8, Try.ntmps8
  go_wp2_with fail
  have HB := Lib.hid (Below.refl w.heap.size w)
  refine Calls.mono (new_crew 0 none 0 [] 1 _ (Ints.nil _ _) (by decide)) ?_
  rintro e w1 ⟨rfl, hb1⟩
  have HB := Lib.hid (Below.step HB.out hb1)
  clear hb1
  go_wp2_with fail
  refine Calls.mono (dir_any _) ?_
  rintro e w2 ⟨a2, cap2, rfl, hO2, hb2⟩
  have HB := Lib.hid (Below.step HB.out hb2)
  have I2 := Lib.hid (Own.ints (l := [1, 2, 3, 4]) hO2 (by decide))
  have N2 := Lib.hid (Own.nocap hO2)
  clear hO2 hb2
  go_wp2_with fail
  refine Calls.mono (new_arg 1 a2 cap2 [1, 2, 3, 4] 0 _ I2.out (by decide) (by omega)) ?_
  rintro e w3 ⟨rfl, hb3⟩
  have HB := Lib.hid (Below.step HB.out hb3)
  clear hb3
  go_wp2_with fail
  refine Calls.mono (dir_any _) ?_
  rintro e w4 ⟨a4, cap4, rfl, hO4, hb4⟩
  have HB := Lib.hid (Below.step HB.out hb4)
  have I4 := Lib.hid (Own.ints (l := [1, 2, 3, 4]) hO4 (by decide))
  have N4 := Lib.hid (Own.nocap hO4)
  clear hO4 hb4
  go_wp2_with fail
  refine Calls.mono (new_arg 1 a4 cap4 [1, 2, 3, 4] 3 _ I4.out (by decide) (by omega)) ?_
  rintro e w5 ⟨rfl, hb5⟩
  have HB := Lib.hid (Below.step HB.out hb5)
  clear hb5
  go_wp2_with fail
  refine Calls.mono (new_crew 0 none 0 [] 0 _ (Ints.nil _ _) (by decide)) ?_
  rintro e w6 ⟨rfl, hb6⟩
  have HB := Lib.hid (Below.step HB.out hb6)
  clear hb6
  go_wp2_with fail
  refine Calls.mono (dir_any _) ?_
  rintro e w7 ⟨a7, cap7, rfl, hO7, hb7⟩
  have HB := Lib.hid (Below.step HB.out hb7)
  have I7 := Lib.hid (Own.ints (l := [1, 2, 3, 4]) hO7 (by decide))
  have N7 := Lib.hid (Own.nocap hO7)
  clear hO7 hb7
  go_wp2_with fail
  refine Calls.mono (new_good 1 a7 cap7 [1, 2, 3, 4] 2 _ I7.out N7.out (by decide) (by omega) (by omega)) ?_
  rintro e w8 ⟨q, rfl, hH, hb8, hR, hp⟩
  have HR := Lib.hid (fun r hr => Nat.le_trans HB.out.size (hR r hr))
  have HB := Lib.hid (Below.step HB.out hb8)
  have H := Lib.hid hH
  clear hb8 hH hR hp
  clear I2 N2 I4 N4 I7 N7
  go_wp2_with fail
  refine Calls.mono (order_is (O' := []) (m := []) (res := 110) (n := 5) (e := 0) 0 rfl none 0 H.out (by decide +kernel) (by unfold maxLen; omega) (Wf.of (by omega) (by omega)) (Wf.of (by omega) (by omega)) (Ints.nil _ _) (fun _ => rfl) (by omega)) ?_
  rintro e w9 ⟨rfl, hH, hO⟩
  have HB := Lib.hid (Only.below HB.out hO HR.out (Nat.le_refl _))
  have H := Lib.hid hH
  clear hH hO
  go_wp2_with fail
  refine Calls.mono (order_is (O' := []) (m := []) (res := 171) (n := 1) (e := 0) 0 rfl none 0 H.out (by decide +kernel) (by unfold maxLen; omega) (Wf.of (by omega) (by omega)) (Wf.of (by omega) (by omega)) (Ints.nil _ _) (fun _ => rfl) (by omega)) ?_
  rintro e w10 ⟨rfl, hH, hO⟩
  have HB := Lib.hid (Only.below HB.out hO HR.out (Nat.le_refl _))
  have H := Lib.hid hH
  clear hH hO
  go_wp2_with fail
  refine Calls.mono (order_is (O' := []) (m := []) (res := 171) (n := 1) (e := 1048577) 0 rfl none 0 H.out (by decide +kernel) (by unfold maxLen; omega) (Wf.of (by omega) (by omega)) (Wf.of (by omega) (by omega)) (Ints.nil _ _) (fun _ => rfl) (by omega)) ?_
  rintro e w11 ⟨rfl, hH, hO⟩
  have HB := Lib.hid (Only.below HB.out hO HR.out (Nat.le_refl _))
  have H := Lib.hid hH
  clear hH hO
  go_wp2_with fail
  have hbs := Below.new w11 (.cells #[.int .i64 5, .int .i64 6] 3)
  have H := Lib.hid (H.out.below hbs)
  have HB := Lib.hid (Below.step HB.out hbs)
  have I := Lib.hid (ints_lit w11 (l := [5, 6]) (cs := #[.int .i64 5, .int .i64 6]) rfl (by decide))
  clear hbs
  refine Calls.mono (order_is (O' := []) (m := [5, 6]) (res := 2) (n := 1) (e := 1) 2 rfl _ _ H.out (by decide +kernel) (by unfold maxLen; omega) (Wf.of (by omega) (by omega)) (Wf.of (by omega) (by omega)) I.out (by intro h; cases h) (by omega)) ?_
  rintro e w12 ⟨rfl, hH, hO⟩
  have HB := Lib.hid (Only.below HB.out hO HR.out (Nat.le_refl _))
  have H := Lib.hid hH
  clear hH hO
  clear I
  go_wp2_with fail
  have hbs := Below.new w12 (.cells #[.int .i64 5, .int .i64 6, .int .i64 8, .int .i64 7] 3)
  have H := Lib.hid (H.out.below hbs)
  have HB := Lib.hid (Below.step HB.out hbs)
  have I := Lib.hid (ints_lit w12 (l := [5, 6, 8, 7]) (cs := #[.int .i64 5, .int .i64 6, .int .i64 8, .int .i64 7]) rfl (by decide))
  clear hbs
  refine Calls.mono (order_is (O' := []) (m := [5, 6, 8, 7]) (res := 2) (n := 1) (e := 1) 4 rfl _ _ H.out (by decide +kernel) (by unfold maxLen; omega) (Wf.of (by omega) (by omega)) (Wf.of (by omega) (by omega)) I.out (by intro h; cases h) (by omega)) ?_
  rintro e w13 ⟨rfl, hH, hO⟩
  have HB := Lib.hid (Only.below HB.out hO HR.out (Nat.le_refl _))
  have H := Lib.hid hH
  clear hH hO
  clear I
  go_wp2_with fail
  have hbs := Below.new w13 (.cells #[.int .i64 5, .int .i64 6, .int .i64 7, .int .i64 29] 3)
  have H := Lib.hid (H.out.below hbs)
  have HB := Lib.hid (Below.step HB.out hbs)
  have I := Lib.hid (ints_lit w13 (l := [5, 6, 7, 29]) (cs := #[.int .i64 5, .int .i64 6, .int .i64 7, .int .i64 29]) rfl (by decide))
  clear hbs
  refine Calls.mono (order_is (O' := []) (m := [5, 6, 7, 29]) (res := 2) (n := 1) (e := 1) 4 rfl _ _ H.out (by decide +kernel) (by unfold maxLen; omega) (Wf.of (by omega) (by omega)) (Wf.of (by omega) (by omega)) I.out (by intro h; cases h) (by omega)) ?_
  rintro e w14 ⟨rfl, hH, hO⟩
  have HB := Lib.hid (Only.below HB.out hO HR.out (Nat.le_refl _))
  have H := Lib.hid hH
  clear hH hO
  clear I
  go_wp2_with fail
  refine Calls.mono (old_any _) ?_
  rintro e w15 ⟨a15, cap15, rfl, hO15, hb15⟩
  have H := Lib.hid (H.out.below hb15)
  have HB := Lib.hid (Below.step HB.out hb15)
  have I15 := Lib.hid (Own.ints (l := [5, 6, 7, 8]) hO15 (by decide))
  clear hO15 hb15
  go_wp2_with fail
  refine Calls.mono (seal_is (E' := []) (ol := [5, 6, 7, 8]) (res := 110) (n := 1) (of := 1) (e := (-1)) (s := 0) (r := 0) 4 rfl a15 cap15 H.out (by decide +kernel) (by unfold maxLen; omega) (Wf.of (by omega) (by omega)) (Wf.of (by omega) (by omega)) I15.out (by omega) (by omega) (by omega)) ?_
  rintro e w16 ⟨rfl, hH, hO⟩
  have HB := Lib.hid (Only.below HB.out hO HR.out (Nat.le_refl _))
  have H := Lib.hid hH
  clear hH hO
  clear I15
  go_wp2_with fail
  refine Calls.mono (seal_is (E' := []) (ol := []) (res := 110) (n := 5) (of := 0) (e := 0) (s := 1) (r := 0) 0 rfl none 0 H.out (by decide +kernel) (by unfold maxLen; omega) (Wf.of (by omega) (by omega)) (Wf.of (by omega) (by omega)) (Ints.nil _ _) (by omega) (by omega) (by omega)) ?_
  rintro e w17 ⟨rfl, hH, hO⟩
  have HB := Lib.hid (Only.below HB.out hO HR.out (Nat.le_refl _))
  have H := Lib.hid hH
  clear hH hO
  go_wp2_with fail
  refine Calls.mono (old_any _) ?_
  rintro e w18 ⟨a18, cap18, rfl, hO18, hb18⟩
  have H := Lib.hid (H.out.below hb18)
  have HB := Lib.hid (Below.step HB.out hb18)
  have I18 := Lib.hid (Own.ints (l := [5, 6, 7, 8]) hO18 (by decide))
  clear hO18 hb18
  go_wp2_with fail
  refine Calls.mono (seal_is (E' := []) (ol := [5, 6, 7, 8]) (res := 171) (n := 5) (of := 1) (e := (-1)) (s := 0) (r := 0) 4 rfl a18 cap18 H.out (by decide +kernel) (by unfold maxLen; omega) (Wf.of (by omega) (by omega)) (Wf.of (by omega) (by omega)) I18.out (by omega) (by omega) (by omega)) ?_
  rintro e w19 ⟨rfl, hH, hO⟩
  have HB := Lib.hid (Only.below HB.out hO HR.out (Nat.le_refl _))
  have H := Lib.hid hH
  clear hH hO
  clear I18
  go_wp2_with fail
  refine Calls.mono (old_any _) ?_
  rintro e w20 ⟨a20, cap20, rfl, hO20, hb20⟩
  have H := Lib.hid (H.out.below hb20)
  have HB := Lib.hid (Below.step HB.out hb20)
  have I20 := Lib.hid (Own.ints (l := [5, 6, 7, 8]) hO20 (by decide))
  clear hO20 hb20
  go_wp2_with fail
  refine Calls.mono (seal_is (E' := []) (ol := [5, 6, 7, 8]) (res := 171) (n := 5) (of := 1) (e := 1048577) (s := 1) (r := 0) 4 rfl a20 cap20 H.out (by decide +kernel) (by unfold maxLen; omega) (Wf.of (by omega) (by omega)) (Wf.of (by omega) (by omega)) I20.out (by omega) (by omega) (by omega)) ?_
  rintro e w21 ⟨rfl, hH, hO⟩
  have HB := Lib.hid (Only.below HB.out hO HR.out (Nat.le_refl _))
  have H := Lib.hid hH
  clear hH hO
  clear I20
  go_wp2_with fail
  refine Calls.mono (old_any _) ?_
  rintro e w22 ⟨a22, cap22, rfl, hO22, hb22⟩
  have H := Lib.hid (H.out.below hb22)
  have HB := Lib.hid (Below.step HB.out hb22)
  have I22 := Lib.hid (Own.ints (l := [5, 6, 7, 8]) hO22 (by decide))
  clear hO22 hb22
  go_wp2_with fail
  refine Calls.mono (seal_is (E' := []) (ol := [5, 6, 7, 8]) (res := 2) (n := 5) (of := 1) (e := 0) (s := 0) (r := 0) 4 rfl a22 cap22 H.out (by decide +kernel) (by unfold maxLen; omega) (Wf.of (by omega) (by omega)) (Wf.of (by omega) (by omega)) I22.out (by omega) (by omega) (by omega)) ?_
  rintro e w23 ⟨rfl, hH, hO⟩
  have HB := Lib.hid (Only.below HB.out hO HR.out (Nat.le_refl _))
  have H := Lib.hid hH
  clear hH hO
  clear I22
  go_wp2_with fail
  refine Calls.mono (old_any _) ?_
  rintro e w24 ⟨a24, cap24, rfl, hO24, hb24⟩
  have H := Lib.hid (H.out.below hb24)
  have HB := Lib.hid (Below.step HB.out hb24)
  have I24 := Lib.hid (Own.ints (l := [5, 6, 7, 8]) hO24 (by decide))
  clear hO24 hb24
  go_wp2_with fail
  refine Calls.mono (seal_is (E' := []) (ol := [5, 6, 7, 8]) (res := 2) (n := 5) (of := 1) (e := 0) (s := 9007199254740992) (r := 0) 4 rfl a24 cap24 H.out (by decide +kernel) (by unfold maxLen; omega) (Wf.of (by omega) (by omega)) (Wf.of (by omega) (by omega)) I24.out (by omega) (by omega) (by omega)) ?_
  rintro e w25 ⟨rfl, hH, hO⟩
  have HB := Lib.hid (Only.below HB.out hO HR.out (Nat.le_refl _))
  have H := Lib.hid hH
  clear hH hO
  clear I24
  go_wp2_with fail
  go_loopw [12] (fun iv wr => ∃ k : Nat, k ≤ 64 ∧ iv = .int .i64 ((k : Int) + 1) ∧ Hid (HandAt wr q (36 + 6 * k) 1 [1, 2, 3, 4] (ordK k) (endK k)) ∧ Hid (Below w.heap.size w wr)) (fun iv _ => 65 - (intOf iv).toNat)
  case atStart => exact ⟨0, by omega, rfl, H, HB⟩
  case round =>
    obtain ⟨k, hk, rfl, H, HB⟩ := hrel
    by_cases hlt : k < 64
    · have HO := Lib.hid (ordK_step k hlt)
      have HE := Lib.hid (endK_step k hlt)
      go_wp2_with fail
      refine Calls.mono (nodes_any 0 _) ?_
      rintro e w26 ⟨a26, cap26, rfl, hO26, hb26⟩
      have H := Lib.hid (H.out.below hb26)
      have HB := Lib.hid (Below.step HB.out hb26)
      have I26 : Hid (Ints w26 a26 [5, 6, 7, 9]) := Lib.hid (by have := Own.ints (l := nodesL 0) hO26 (by decide); rw [nodes0] at this; exact this)
      have N26 := Lib.hid (Own.nocap hO26)
      clear hO26 hb26
      go_wp2_with fail
      refine Calls.mono (order_is 4 rfl a26 cap26 H.out HO.out (by unfold maxLen; omega) (Wf.of (by omega) (by omega)) (Wf.of (by omega) (by omega)) I26.out N26.out (by omega)) ?_
      rintro e w27 ⟨rfl, hH, hO⟩
      have HB := Lib.hid (Only.below HB.out hO HR.out (Nat.le_refl _))
      have H := Lib.hid hH
      clear hH hO
      clear I26 N26
      go_wp2_with fail
      refine Calls.mono (old_any _) ?_
      rintro e w28 ⟨a28, cap28, rfl, hO28, hb28⟩
      have H := Lib.hid (H.out.below hb28)
      have HB := Lib.hid (Below.step HB.out hb28)
      have I28 := Lib.hid (Own.ints (l := [5, 6, 7, 8]) hO28 (by decide))
      clear hO28 hb28
      go_wp2_with fail
      refine Calls.mono (seal_is (e := (k : Int)) 4 rfl a28 cap28 H.out HE.out (by unfold maxLen; omega) (Wf.of (by omega) (by omega)) (Wf.of (by omega) (by omega)) I28.out (by omega) (by omega) (by omega)) ?_
      rintro e w29 ⟨rfl, hH, hO⟩
      have HB := Lib.hid (Only.below HB.out hO HR.out (Nat.le_refl _))
      have H := Lib.hid hH
      clear hH hO
      clear I28
      go_wp2
      go_roundw
      case rel => exact ⟨k + 1, by omega, by go_num, Lib.hid (H.out.mono (by omega) fun _ => rfl), HB⟩
      case measure => simp [intOf]; omega
    · have hk64 : k = 64 := by omega
      subst hk64
      clear hlt hk
      go_wp2_with fail
      refine Calls.mono (nodes_any 0 _) ?_
      rintro e w30 ⟨a30, cap30, rfl, hO30, hb30⟩
      have H := Lib.hid (H.out.below hb30)
      have HB := Lib.hid (Below.step HB.out hb30)
      have I30 : Hid (Ints w30 a30 [5, 6, 7, 9]) := Lib.hid (by have := Own.ints (l := nodesL 0) hO30 (by decide); rw [nodes0] at this; exact this)
      have N30 := Lib.hid (Own.nocap hO30)
      clear hO30 hb30
      go_wp2_with fail
      refine Calls.mono (order_is (O' := (ordK 64)) (m := [5, 6, 7, 9]) (res := 7) (n := 1) (e := 1) 4 rfl a30 cap30 H.out (by decide +kernel) (by unfold maxLen; omega) (Wf.of (by omega) (by omega)) (Wf.of (by omega) (by omega)) I30.out N30.out (by omega)) ?_
      rintro e w31 ⟨rfl, hH, hO⟩
      have HB := Lib.hid (Only.below HB.out hO HR.out (Nat.le_refl _))
      have H := Lib.hid hH
      clear hH hO
      clear I30 N30
      go_wp2_with fail
      refine Calls.mono (nodes_any 1 _) ?_
      rintro e w32 ⟨a32, cap32, rfl, hO32, hb32⟩
      have H := Lib.hid (H.out.below hb32)
      have HB := Lib.hid (Below.step HB.out hb32)
      have I32 : Hid (Ints w32 a32 [5, 6, 7, 10]) := Lib.hid (by have := Own.ints (l := nodesL 1) hO32 (by decide); rw [nodes1] at this; exact this)
      have N32 := Lib.hid (Own.nocap hO32)
      clear hO32 hb32
      go_wp2_with fail
      refine Calls.mono (order_is (O' := (ordK 64)) (m := [5, 6, 7, 10]) (res := 0) (n := 1) (e := 1048576) 4 rfl a32 cap32 H.out (by decide +kernel) (by unfold maxLen; omega) (Wf.of (by omega) (by omega)) (Wf.of (by omega) (by omega)) I32.out N32.out (by omega)) ?_
      rintro e w33 ⟨rfl, hH, hO⟩
      have HB := Lib.hid (Only.below HB.out hO HR.out (Nat.le_refl _))
      have H := Lib.hid hH
      clear hH hO
      clear I32 N32
      go_wp2_with fail
      refine Calls.mono (old_any _) ?_
      rintro e w34 ⟨a34, cap34, rfl, hO34, hb34⟩
      have H := Lib.hid (H.out.below hb34)
      have HB := Lib.hid (Below.step HB.out hb34)
      have I34 := Lib.hid (Own.ints (l := [5, 6, 7, 8]) hO34 (by decide))
      clear hO34 hb34
      go_wp2_with fail
      refine Calls.mono (seal_is (E' := (endK 64)) (ol := [5, 6, 7, 8]) (res := 7) (n := 5) (of := 1) (e := 64) (s := 1) (r := 0) 4 rfl a34 cap34 H.out (by decide +kernel) (by unfold maxLen; omega) (Wf.of (by omega) (by omega)) (Wf.of (by omega) (by omega)) I34.out (by omega) (by omega) (by omega)) ?_
      rintro e w35 ⟨rfl, hH, hO⟩
      have HB := Lib.hid (Only.below HB.out hO HR.out (Nat.le_refl _))
      have H := Lib.hid hH
      clear hH hO
      clear I34
      go_wp2_with fail
      refine Calls.mono (old_any _) ?_
      rintro e w36 ⟨a36, cap36, rfl, hO36, hb36⟩
      have H := Lib.hid (H.out.below hb36)
      have HB := Lib.hid (Below.step HB.out hb36)
      have I36 := Lib.hid (Own.ints (l := [5, 6, 7, 8]) hO36 (by decide))
      clear hO36 hb36
      go_wp2_with fail
      refine Calls.mono (seal_is (E' := (endK 64)) (ol := [5, 6, 7, 8]) (res := 0) (n := 5) (of := 1) (e := 63) (s := 1) (r := 0) 4 rfl a36 cap36 H.out (by decide +kernel) (by unfold maxLen; omega) (Wf.of (by omega) (by omega)) (Wf.of (by omega) (by omega)) I36.out (by omega) (by omega) (by omega)) ?_
      rintro e w37 ⟨rfl, hH, hO⟩
      have HB := Lib.hid (Only.below HB.out hO HR.out (Nat.le_refl _))
      have H := Lib.hid hH
      clear hH hO
      clear I36
      go_wp2_with fail
      refine Calls.mono (nodes_any 0 _) ?_
      rintro e w38 ⟨a38, cap38, rfl, hO38, hb38⟩
      have H := Lib.hid (H.out.below hb38)
      have HB := Lib.hid (Below.step HB.out hb38)
      have I38 : Hid (Ints w38 a38 [5, 6, 7, 9]) := Lib.hid (by have := Own.ints (l := nodesL 0) hO38 (by decide); rw [nodes0] at this; exact this)
      have N38 := Lib.hid (Own.nocap hO38)
      clear hO38 hb38
      go_wp2_with fail
      refine Calls.mono (order_is (O' := ordZ) (m := [5, 6, 7, 9]) (res := 0) (n := 2) (e := 1048576) 4 rfl a38 cap38 H.out (by decide +kernel) (by unfold maxLen; omega) (Wf.of (by omega) (by omega)) (Wf.of (by omega) (by omega)) I38.out N38.out (by omega)) ?_
      rintro e w39 ⟨rfl, hH, hO⟩
      have HB := Lib.hid (Only.below HB.out hO HR.out (Nat.le_refl _))
      have H := Lib.hid hH
      clear hH hO
      clear I38 N38
      go_wp2_with fail
      refine Calls.mono (nodes_any 0 _) ?_
      rintro e w40 ⟨a40, cap40, rfl, hO40, hb40⟩
      have H := Lib.hid (H.out.below hb40)
      have HB := Lib.hid (Below.step HB.out hb40)
      have I40 : Hid (Ints w40 a40 [5, 6, 7, 9]) := Lib.hid (by have := Own.ints (l := nodesL 0) hO40 (by decide); rw [nodes0] at this; exact this)
      have N40 := Lib.hid (Own.nocap hO40)
      clear hO40 hb40
      go_wp2_with fail
      refine Calls.mono (told_any (m := [5, 6, 7, 9]) 4 rfl a40 cap40 H.out (Wf.of (by omega) (by omega)) I40.out (by decide)) ?_
      rintro e w41 ⟨rfl, hb41⟩
      have H := Lib.hid (H.out.below hb41)
      have HB := Lib.hid (Below.step HB.out hb41)
      clear hb41 I40 N40
      rw [show decide (crewOf 1 ordZ 1048576 = some [5, 6, 7, 9]) = true from by decide +kernel]
      go_wp2_with fail
      have hbs := Below.new w41 (.cells #[.int .i64 1] 3)
      have H := Lib.hid (H.out.below hbs)
      have HB := Lib.hid (Below.step HB.out hbs)
      have I := Lib.hid (ints_lit w41 (l := [1]) (cs := #[.int .i64 1]) rfl (by decide))
      clear hbs
      refine Calls.mono (order_is (O' := ordZ) (m := [1]) (res := 2) (n := 1) (e := 1) 1 rfl _ _ H.out (by decide +kernel) (by unfold maxLen; omega) (Wf.of (by omega) (by omega)) (Wf.of (by omega) (by omega)) I.out (by intro h; cases h) (by omega)) ?_
      rintro e w42 ⟨rfl, hH, hO⟩
      have HB := Lib.hid (Only.below HB.out hO HR.out (Nat.le_refl _))
      have H := Lib.hid hH
      clear hH hO
      clear I
      go_wp2_with fail
      refine Calls.mono (end_is (of := 0) (ol := []) (M := none) 0 rfl none 0 H.out (by decide +kernel) (Wf.of (by omega) (by omega)) (Ints.nil _ _)) ?_
      rintro e w43 ⟨rfl, hb43⟩
      clear H HR
      have hbb := Below.step hb43 (Below.new w43 (.cells (markC 0 0) 47))
      have HB := Lib.hid (Below.step HB.out hbb)
      clear hb43 hbb
      go_wp2_with fail
      have hz : (w43.alloc (.cells (markC 0 0) 47)).heap.size = w43.heap.size + 1 := by simp
      generalize (w43.alloc (.cells (markC 0 0) 47)) = v43 at *
      have hbs := Below.new v43 (.cells #[.int .i64 1] 3)
      have HB := Lib.hid (Below.step HB.out hbs)
      have I : Hid (Ints (v43.alloc (.cells #[.int .i64 1] 3)) (some ⟨w43.heap.size + 1, 0, none⟩) [1]) := Lib.hid (by rw [← hz]; exact ints_lit v43 (l := [1]) (cs := #[.int .i64 1]) rfl (by decide))
      clear hbs
      refine Calls.mono (new_good 0 _ _ [1] 1 _ I.out (by intro h; cases h) (by decide) (by omega) (by omega)) ?_
      rintro e w44 ⟨q2, rfl, hH, hb44, hR, hp⟩
      have HR := Lib.hid (fun r hr => Nat.le_trans HB.out.size (hR r hr))
      have HB := Lib.hid (Below.step HB.out hb44)
      have H := Lib.hid hH
      clear hb44 hH hR hp I
      go_wp2_with fail
      have hbs := Below.new w44 (.cells #[.int .i64 9] 3)
      have H := Lib.hid (H.out.below hbs)
      have HB := Lib.hid (Below.step HB.out hbs)
      have I := Lib.hid (ints_lit w44 (l := [9]) (cs := #[.int .i64 9]) rfl (by decide))
      clear hbs
      refine Calls.mono (order_is (O' := [(1, 1, [9])]) (m := [9]) (res := 0) (n := 1) (e := 1) 1 rfl _ _ H.out (by decide +kernel) (by unfold maxLen; omega) (Wf.of (by omega) (by omega)) (Wf.of (by omega) (by omega)) I.out (by intro h; cases h) (by omega)) ?_
      rintro e w45 ⟨rfl, hH, hO⟩
      have HB := Lib.hid (Only.below HB.out hO HR.out (Nat.le_refl _))
      have H := Lib.hid hH
      clear hH hO
      clear I
      go_wp2_with fail
      refine Calls.mono (crewIs_is (M := some [9]) H.out (by decide +kernel) (Wf.of (by omega) (by omega))) ?_
      rintro e w46 ⟨a46, cap46, rfl, hO46, hb46⟩
      have hbb := Below.step hb46 (Below.new w46 (.cells #[.int .i64 0, .slice a46 1 cap46] 24))
      have H := Lib.hid (H.out.below hbb)
      have HB := Lib.hid (Below.step HB.out hbb)
      have x0 := (crew_box2 (w := w46) (F := 0) (v := .slice a46 1 cap46)).1
      have x1 := (crew_box2 (w := w46) (F := 0) (v := .slice a46 1 cap46)).2
      have HX := Lib.hid ((Own.ints (l := [9]) hO46 (by decide)).alloc (.cells #[.int .i64 0, .slice a46 1 cap46] 24))
      clear hO46 hb46 hbb
      go_wp2_with fail
      generalize (w46.alloc (.cells #[.int .i64 0, .slice a46 1 cap46] 24)) = v46 at *
      refine Calls.mono (seal_is (E' := [(9, 1, 1, 3)]) (ol := [9]) (res := 0) (n := 9) (of := 0) (e := 1) (s := 1) (r := 3) 1 rfl a46 cap46 H.out (by decide +kernel) (by unfold maxLen; omega) (Wf.of (by omega) (by omega)) (Wf.of (by omega) (by omega)) HX.out (by omega) (by omega) (by omega)) ?_
      rintro e w47 ⟨rfl, hH, hO⟩
      have HB := Lib.hid (Only.below HB.out hO HR.out (Nat.le_refl _))
      have x0 := H.out.keep hO x0
      have x1 := H.out.keep hO x1
      have HX := Lib.hid (H.out.keepI hO HX.out)
      have H := Lib.hid hH
      clear hH hO
      go_wp2_with fail
      refine Calls.mono (end_is (of := 0) (ol := [9]) (M := some (1, 3)) 1 rfl a46 cap46 H.out (by decide +kernel) (Wf.of (by omega) (by omega)) HX.out) ?_
      rintro e w48 ⟨rfl, hb48⟩
      clear H HR
      have hbb := Below.step hb48 (Below.new w48 (.cells (markC 1 3) 47))
      have x0 := keepc hbb x0
      have x1 := keepc hbb x1
      have HX := Lib.hid (HX.out.below hbb)
      have HB := Lib.hid (Below.step HB.out hbb)
      have hms : (w48.alloc (.cells (markC 1 3) 47)).cell? ⟨w48.heap.size, 0, none⟩ = some (.int .i64 1) := cell_of_row _ _ 0 _ _ _ (heap_alloc_new _ _)
      clear hb48 hbb
      go_wp2_with fail
      generalize (w48.alloc (.cells (markC 1 3) 47)) = vz at *
      go_loopw [24, 25] (fun pv iv wr => ∃ k : Nat, k ≤ 2 ∧ iv = .int .i64 k ∧ Hid (NoHand wr pv) ∧ Hid (Below vz.heap.size vz wr)) (fun _ iv _ => 2 - (intOf iv).toNat)
      case atStart => exact ⟨0, by omega, rfl, Lib.hid (.inl rfl), Lib.hid (Below.refl _ _)⟩
      case round =>
        obtain ⟨k, hk, rfl, HN, HZ⟩ := hrel
        by_cases hlt : k < 2
        · go_wp2_with fail
          refine Calls.mono (crew_no HN.out 1) ?_
          rintro e w49 ⟨rfl, hb49⟩
          have HN := Lib.hid (HN.out.below hb49)
          have HZ := Lib.hid (Below.step HZ.out hb49)
          have HN := Lib.hid (HN.out.below (Below.new w49 (.cells #[.int .i64 0, .slice none 0 0] 24)))
          have HZ := Lib.hid (Below.step HZ.out (Below.new w49 (.cells #[.int .i64 0, .slice none 0 0] 24)))
          clear hb49
          go_wp2_with fail
          refine Calls.mono (old_any _) ?_
          rintro e w50 ⟨a50, cap50, rfl, hO50, hb50⟩
          have HN := Lib.hid (HN.out.below hb50)
          have HZ := Lib.hid (Below.step HZ.out hb50)
          clear hO50 hb50
          go_wp2_with fail
          refine Calls.mono (end_no HN.out 1 0 (.slice a50 4 cap50)) ?_
          rintro e w51 ⟨rfl, hb51⟩
          have HN := Lib.hid (HN.out.below hb51)
          have HZ := Lib.hid (Below.step HZ.out hb51)
          have HN := Lib.hid (HN.out.below (Below.new w51 (.cells (markC 0 0) 47)))
          have HZ := Lib.hid (Below.step HZ.out (Below.new w51 (.cells (markC 0 0) 47)))
          clear hb51
          go_wp2_with fail
          refine Calls.mono (order_no HN.out 1 1 (.slice none 0 0)) ?_
          rintro e w52 ⟨rfl, hb52⟩
          have HN := Lib.hid (HN.out.below hb52)
          have HZ := Lib.hid (Below.step HZ.out hb52)
          clear hb52
          go_wp2_with fail
          refine Calls.mono (old_any _) ?_
          rintro e w53 ⟨a53, cap53, rfl, hO53, hb53⟩
          have HN := Lib.hid (HN.out.below hb53)
          have HZ := Lib.hid (Below.step HZ.out hb53)
          clear hO53 hb53
          go_wp2_with fail
          refine Calls.mono (sealed_no HN.out 5 1 0 1 0 (.slice a53 4 cap53)) ?_
          rintro e w54 ⟨rfl, hb54⟩
          have HN := Lib.hid (HN.out.below hb54)
          have HZ := Lib.hid (Below.step HZ.out hb54)
          clear hb54
          have hbx := Below.new w54 (.cells #[.int .i64 0, .slice none 0 0, .map none, .map none, .map none, .map none, .map none] 66)
          have hcx : (w54.alloc (.cells #[.int .i64 0, .slice none 0 0, .map none, .map none, .map none, .map none, .map none] 66)).cell? ⟨w54.heap.size, 2, none⟩ = some (.map none) := cell_of_row _ _ 2 _ _ _ (heap_alloc_new _ _)
          go_wp2
          go_roundw
          case rel => exact ⟨k + 1, by omega, by go_num, Lib.hid (.inr ⟨_, rfl, hcx⟩), Lib.hid (Below.step HZ.out hbx)⟩
          case measure => simp [intOf]; omega
        · have hk2 : k = 2 := by omega
          subst hk2
          have x1 := keepc HZ.out x1
          have hms := keepc HZ.out hms
          have HX := Lib.hid (HX.out.below HZ.out)
          have HB := Lib.hid (Below.step HB.out HZ.out)
          clear HN HZ x0 hlt hk
          go_wp2_with fail
          refine Calls.mono (works24_any _) ?_
          rintro e w55 ⟨rfl, hb55⟩
          have x1 := keepc hb55 x1
          have hms := keepc hb55 hms
          have HX := Lib.hid (HX.out.below hb55)
          have HB := Lib.hid (Below.step HB.out hb55)
          clear hb55
          go_wp2_with fail
          have hbs := Below.new w55 (.cells #[.int .i64 9] 3)
          have x1 := keepc hbs x1
          have hms := keepc hbs hms
          have HX := Lib.hid (HX.out.below hbs)
          have HB := Lib.hid (Below.step HB.out hbs)
          have I := Lib.hid (ints_lit w55 (l := [9]) (cs := #[.int .i64 9]) rfl (by decide))
          clear hbs
          refine Calls.mono (eqInts_any a46 _ cap46 _ [9] [9] _ HX.out I.out) ?_
          rintro e w56 ⟨rfl, hb56⟩
          have x1 := keepc hb56 x1
          have hms := keepc hb56 hms
          have HX := Lib.hid (HX.out.below hb56)
          have HB := Lib.hid (Below.step HB.out hb56)
          clear hb56 I
          go_wp2
          go_ret
          exact ⟨rfl, HB.out⟩
end Go.Proofs.Ytldcpnabgpjgiaa.Walks
