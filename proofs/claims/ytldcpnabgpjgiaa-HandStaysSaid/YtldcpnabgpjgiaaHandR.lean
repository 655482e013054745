/-
  The walk of the law HandStays.
-/
import Derived.Test.YtldcpnabgpjgiaaHandH
import Derived.Test.YtldcpnabgpjgiaaHandN
import Derived.Test.YtldcpnabgpjgiaaHandStayP
import Derived.IntWalk
import Derived.Deep.LoopGhost
import Derived.Deep.CutRange
namespace Go.Proofs.Ytldcpnabgpjgiaa.Walks
open Go.RowKit Plain
set_option linter.unusedVariables false

/-- A hand in which an order of the crew and three ends are told. -/
def Stay (w : World) (q : HLoc) (N : Nat) : Prop := ∃ O E, HandAt w q N 1 [1, 2, 3, 4] O E ∧ crewOf 1 O 1 = some [5, 6, 7, 11] ∧ Three E
theorem Stay.mono {w : World} {q : HLoc} {N N' : Nat} (h : Stay w q N) (h1 : N ≤ N') : Stay w q N' := by
  obtain ⟨O, E, hH, hr⟩ := h
  exact ⟨O, E, hH.mono h1 fun _ => rfl, hr⟩
theorem Stay.below {w w' : World} {q : HLoc} {N : Nat} (h : Stay w q N) (hb : Below w.heap.size w w') : Stay w' q N := by
  obtain ⟨O, E, hH, hr⟩ := h
  exact ⟨O, E, hH.below hb, hr⟩
theorem Stay.drew {w : World} {q : HLoc} {N : Nat} (h : Stay w q N) : Stay w.drew q N := by
  obtain ⟨O, E, hH, hr⟩ := h
  exact ⟨O, E, hH.drew, hr⟩
theorem Stay.keep {w w' : World} {q : HLoc} {N : Nat} (h : Stay w q N) (ho : Only q.R w w') {a : Addr} {v : Value} (hc : w.cell? a = some v) : w'.cell? a = some v := by
  obtain ⟨O, E, hH, hr⟩ := h
  exact hH.keep ho hc
theorem Stay.keepI {w w' : World} {q : HLoc} {N : Nat} (h : Stay w q N) (ho : Only q.R w w') {a : Option Addr} {l : List Int} (hI : Ints w a l) : Ints w' a l := by
  obtain ⟨O, E, hH, hr⟩ := h
  exact hH.keepI ho hI
def StayPost (q : HLoc) (N : Nat) (w : World) (e : Ending) (w' : World) : Prop := ∃ z : Int, e = .returned (.int .i64 z) ∧ Stay w' q N ∧ Only q.R w w'
theorem stay_order {w : World} {q : HLoc} {N : Nat} (h : Stay w q N) (hN : N + 3 < maxLen) {n e : Int} (hn : Wf n) (he : Wf e) (k : Nat) {m : List Int} (hk : m.length = k) (a : Option Addr) (cap : Nat) (hI : Ints w a m) (hc : a = none → cap = 0) (hr : m.length ≤ 17592186044415) :
    Calls Try.prog 34 #[.pointer (some ⟨q.p, 0, none⟩), .int .i64 n, .int .i64 e, .slice a k cap] w (StayPost q (N + 3) w) := by
  subst hk
  obtain ⟨O, E, hH, h1, h2⟩ := h
  refine Calls.mono (order_any q N 1 [1, 2, 3, 4] O E n e a cap m w hH hN hn he hI hc hr) ?_
  rintro e' w' ⟨rfl, hH', hO⟩
  exact ⟨_, rfl, ⟨_, _, hH', crew_stays h1, h2⟩, hO⟩
theorem stay_seal {w : World} {q : HLoc} {N : Nat} (h : Stay w q N) (hN : N + 3 < maxLen) {n e of s r : Int} (hn : Wf n) (he : Wf e) (k : Nat) {ol : List Int} (hk : ol.length = k) (oa : Option Addr) (ocap : Nat) (hI : Ints w oa ol) (hr : ol.length ≤ 17592186044415) (hb0 : 0 ≤ r) (hb1 : r ≤ 255) :
    Calls Try.prog 37 #[.pointer (some ⟨q.p, 0, none⟩), .int .i64 n, .agg #[.int .i64 of, .slice oa k ocap], .int .i64 e, .int .i64 s, .agg (rootC r)] w (StayPost q (N + 3) w) := by
  subst hk
  obtain ⟨O, E, hH, h1, h2⟩ := h
  refine Calls.mono (sealed_any q N 1 [1, 2, 3, 4] O E n of oa ocap ol e s r w hH hN hn he hI (by omega) hb0 hb1) ?_
  rintro e' w' ⟨rfl, hH', hO⟩
  exact ⟨_, rfl, ⟨_, _, hH', h1, h2.seal _ _ _ _ _ _⟩, hO⟩
theorem stay_end {w : World} {q : HLoc} {N : Nat} (h : Stay w q N) (a : Option Addr) (cap : Nat) (hI : Ints w a [5, 6, 7, 8]) :
    Calls Try.prog 41 #[.pointer (some ⟨q.p, 0, none⟩), .agg #[.int .i64 1, .slice a 4 cap], .int .i64 0] w fun e' w' => e' = .returned (.tuple #[.agg (markC 9 1), .bool true]) ∧ Below w.heap.size w w' := by
  obtain ⟨O, E, hH, h1, h2⟩ := h
  exact end_is (ol := [5, 6, 7, 8]) (M := some (9, 1)) 4 rfl a cap hH h2.ends (Wf.of (by omega) (by omega)) hI
theorem stay_told {w : World} {q : HLoc} {N : Nat} (h : Stay w q N) (a : Option Addr) (cap : Nat) (hI : Ints w a [5, 6, 7, 11]) :
    Calls Try.prog 46 #[.pointer (some ⟨q.p, 0, none⟩), .int .i64 1, .slice a 4 cap] w fun e' w' => e' = .returned (.bool true) ∧ Below w.heap.size w w' := by
  obtain ⟨O, E, hH, h1, h2⟩ := h
  refine Calls.mono (told_any (m := [5, 6, 7, 11]) 4 rfl a cap hH (Wf.of (by omega) (by omega)) hI (by decide)) ?_
  rintro e' w' ⟨rfl, hb⟩
  exact ⟨by rw [h1]; rfl, hb⟩
theorem nodes2 : nodesL 2 = [5, 6, 7, 11] := by decide
theorem nodesL_len' (n : Int) : (nodesL n).length = 4 := rfl
theorem bring_be {i n r : Int} (h : bringI i n = r) (w : World) (h0 : 0 < n) (h1 : n ≤ 4611686018427387904) : Calls Try.prog 32 #[.int .i64 i, .int .i64 n] w fun e w' => e = .returned (.int .i64 r) ∧ w = w' := by
  subst h; exact bring_any i n w h0 h1

section
variable {ρ : Operand → Value} {d : Option Tmp} {x y : Operand} {t ty : TypeId} {p : String} {af : Array Edge} {gd : Option (Nat × Bool)} {w : World}
theorem exec_neq47 (h1 : okMark (ρ x)) (h2 : okMark (ρ y)) :
    (execOp ρ ⟨d, .binOp .neq 47 x y ty, t, p, af, gd⟩).run Try.prog w = .ok (.value (.bool (!(decide (seqOf (ρ x) = seqOf (ρ y)) && decide (byteOf (ρ x) = byteOf (ρ y)))))) w := by
  obtain ⟨e1, w1, v1⟩ := h1
  obtain ⟨e2, w2, v2⟩ := h2
  unfold isMark at e1 e2
  simp only [execOp]
  generalize seqOf (ρ x) = s at *
  generalize byteOf (ρ x) = r at *
  generalize seqOf (ρ y) = s' at *
  generalize byteOf (ρ y) = r' at *
  rw [e1, e2]
  simp only [Sem.run_bind, run_eqGuard_agg _ _ _ _ _ _ _ guard47, Result.andThen_ok, run_neq_struct, equal47 w1 v1 w2 v2, Sem.run_pure]
end
theorem okMark91 : okMark (.agg (markC 9 1)) := ⟨isMark_mk _ _, by rw [seqOf_mk]; decide, by rw [byteOf_mk]; decide⟩
attribute [local go_sem] isLoad38_mk isLoad47_mk loadOp_mk headOf_mk blockOf_mk isMark_mk isRoot_mk isI_mk isB_mk seqOf_mk byteOf_mk byteO_mk intOf_mk drew_setRow alloc_setRow row47_new row38_new row47_drew rowOf_drew rowOf_new row38_drew row38_alloc row47_alloc rowOf_alloc okMark91
attribute [local go_sem ↓] exec_load38g exec_load47g exec_load38 exec_load47 exec_alloc47 exec_store47 exec_alloc38 exec_store38 exec_build47 exec_build47z exec_build38 exec_build38c exec_build47c exec_build38z exec_eql47 exec_neq47

set_option maxRecDepth 100000 in
set_option maxHeartbeats 8000000 in
theorem handStays_walk (a : Option Addr) (len cap : Nat) (w : World) (hD : Deeds w a len) : Calls Try.prog 6 #[.slice a len cap] w fun e w' => e = .returned (.bool true) ∧ Below w.heap.size w w' := by
  have HD := Lib.hid hD
  have hlen := hD.1
  clear hD
  go_enter Try.func6, Try.ntmps6
  go_wp2_with fail
  refine Calls.mono (works24_any _) ?_
  rintro e w1 ⟨rfl, hb1⟩
  have HB := Lib.hid hb1
  clear hb1
  go_wp2_with fail
  refine Calls.mono (dir_any _) ?_
  rintro e w2 ⟨a2, cap2, rfl, hO2, hb2⟩
  have HO2 := Lib.hid hO2
  have HB := Lib.hid (Below.step HB.out hb2)
  clear hO2 hb2
  go_wp2_with fail
  refine Calls.mono (new_good 1 a2 cap2 [1, 2, 3, 4] 1 _ (Own.ints (l := [1, 2, 3, 4]) HO2.out (by decide)) (Own.nocap HO2.out) (by decide) (by omega) (by omega)) ?_
  rintro e w3 ⟨q, rfl, hH, hb3, hR, hp⟩
  have HR := Lib.hid (fun r hr => Nat.le_trans HB.out.size (hR r hr))
  have HB := Lib.hid (Below.step HB.out hb3)
  have H := Lib.hid hH
  clear hb3 hH HO2 hR hp
  go_wp2_with fail
  refine Calls.mono (nodes_any 2 _) ?_
  rintro e w4 ⟨a4, cap4, rfl, hO4, hb4⟩
  have H := Lib.hid (H.out.below hb4)
  have HB := Lib.hid (Below.step HB.out hb4)
  have I4 : Hid (Ints w4 a4 [5, 6, 7, 11]) := Lib.hid (by have := Own.ints (l := nodesL 2) hO4 (by decide); rw [nodes2] at this; exact this)
  have N4 := Lib.hid (Own.nocap hO4)
  clear hO4 hb4
  go_wp2_with fail
  refine Calls.mono (order_is (O' := [(4, 1, [5, 6, 7, 11])]) (m := [5, 6, 7, 11]) (res := 0) 4 rfl a4 cap4 H.out (by decide) (by unfold maxLen; omega) (Wf.of (by omega) (by omega)) (Wf.of (by omega) (by omega)) I4.out N4.out (by omega)) ?_
  rintro e w5 ⟨rfl, hH, hO⟩
  have H := Lib.hid hH
  have HB := Lib.hid (Only.below HB.out hO HR.out (Nat.le_refl _))
  clear hH hO I4 N4
  go_wp2_with fail
  refine Calls.mono (nodes_any 2 _) ?_
  rintro e w6 ⟨a6, cap6, rfl, hO6, hb6⟩
  have H := Lib.hid (H.out.below hb6)
  have HB := Lib.hid (Below.step HB.out hb6)
  have I6 : Hid (Ints w6 a6 [5, 6, 7, 11]) := Lib.hid (by have := Own.ints (l := nodesL 2) hO6 (by decide); rw [nodes2] at this; exact this)
  have N6 := Lib.hid (Own.nocap hO6)
  clear hO6 hb6
  go_wp2_with fail
  refine Calls.mono (order_is (O' := [(4, 1, [5, 6, 7, 11]), (3, 1, [5, 6, 7, 11])]) (m := [5, 6, 7, 11]) (res := 0) 4 rfl a6 cap6 H.out (by decide +kernel) (by unfold maxLen; omega) (Wf.of (by omega) (by omega)) (Wf.of (by omega) (by omega)) I6.out N6.out (by omega)) ?_
  rintro e w7 ⟨rfl, hH, hO⟩
  have H := Lib.hid hH
  have HB := Lib.hid (Only.below HB.out hO HR.out (Nat.le_refl _))
  clear hH hO I6 N6
  go_wp2_with fail
  go_loopw [5] (fun iv wr => ∃ k : Nat, k ≤ 3 ∧ iv = .int .i64 (5 + (k : Int)) ∧ Hid (HandAt wr q (6 + 3 * k) 1 [1, 2, 3, 4] [(4, 1, [5, 6, 7, 11]), (3, 1, [5, 6, 7, 11])] (endS k)) ∧ Hid (Below w.heap.size w wr)) (fun iv _ => 8 - (intOf iv).toNat)
  case atStart => exact ⟨0, by omega, rfl, H, HB⟩
  case round =>
    obtain ⟨k, hk, rfl, H, HB⟩ := hrel
    by_cases hlt : k < 3
    · have HE := Lib.hid (endS_step k hlt)
      go_wp2_with fail
      refine Calls.mono (old_any _) ?_
      rintro e w8 ⟨a8, cap8, rfl, hO8, hb8⟩
      have H := Lib.hid (H.out.below hb8)
      have HB := Lib.hid (Below.step HB.out hb8)
      have I8 := Lib.hid (Own.ints (l := [5, 6, 7, 8]) hO8 (by decide))
      clear hO8 hb8
      go_wp2_with fail
      refine Calls.mono (seal_is 4 rfl a8 cap8 H.out HE.out (by unfold maxLen; omega) (Wf.of (by omega) (by omega)) (Wf.of (by omega) (by omega)) I8.out (by omega) (by omega) (by omega)) ?_
      rintro e w9 ⟨rfl, hH, hO⟩
      have HB := Lib.hid (Only.below HB.out hO HR.out (Nat.le_refl _))
      have H := Lib.hid hH
      clear hH hO I8 HE
      go_wp2
      go_roundw
      case rel => exact ⟨k + 1, by omega, by go_num, Lib.hid (H.out.mono (by omega) fun _ => rfl), HB⟩
      case measure => simp [intOf]; omega
    · have hk3 : k = 3 := by omega
      subst hk3
      have HS : Hid (Stay wr q 15) := Lib.hid ⟨_, _, H.out, by decide +kernel, endS_three⟩
      clear H hlt hk
      go_wp2_with fail
      go_loopw [6] (fun iv wr => ∃ k : Nat, k ≤ len ∧ k ≤ 60 ∧ iv = .int .i64 k ∧ Hid (Stay wr q (15 + 9 * k)) ∧ Hid (Below w.heap.size w wr)) (fun iv _ => 60 - (intOf iv).toNat)
      case atStart => exact ⟨0, by omega, by omega, rfl, HS, HB⟩
      case round =>
        obtain ⟨k, hk, hk60, rfl, HS, HB⟩ := hrel
        by_cases hlt : k < len
        · by_cases hl60 : k < 60
          · obtain ⟨_, h0 | ⟨b, off, rfl, hat⟩⟩ := HD.out.below HB.out
            · omega
            obtain ⟨kd, fr, ep, ma, mcap, m, oF, oa, ocap, ol, s, r, ⟨c0, c1, c2, c3, c4, c5, c6, c7⟩, hn, he, ⟨hm1, hm2, hm3⟩, ⟨ho1, ho2⟩, hr0, hr1⟩ := hat k hlt
            have HN := Lib.hid hn
            have HE := Lib.hid he
            have HM := Lib.hid hm1
            have HC := Lib.hid hm2
            have HO := Lib.hid ho1
            clear hat hn he hm1 hm2 ho1
            go_wp2_with fail
            have hbx := Below.new wr (.cells #[.int .i64 kd, .int .i64 fr, .int .i64 ep, .slice ma m.length mcap, .int .i64 oF, .slice oa ol.length ocap, .int .i64 s, .int .u8 r] 36)
            have d1 : (wr.alloc (.cells #[.int .i64 kd, .int .i64 fr, .int .i64 ep, .slice ma m.length mcap, .int .i64 oF, .slice oa ol.length ocap, .int .i64 s, .int .u8 r] 36)).cell? ⟨wr.heap.size, 1, none⟩ = some (.int .i64 fr) := cell_of_row _ _ 1 _ _ _ (heap_alloc_new _ _)
            have d2 : (wr.alloc (.cells #[.int .i64 kd, .int .i64 fr, .int .i64 ep, .slice ma m.length mcap, .int .i64 oF, .slice oa ol.length ocap, .int .i64 s, .int .u8 r] 36)).cell? ⟨wr.heap.size, 2, none⟩ = some (.int .i64 ep) := cell_of_row _ _ 2 _ _ _ (heap_alloc_new _ _)
            have d3 : (wr.alloc (.cells #[.int .i64 kd, .int .i64 fr, .int .i64 ep, .slice ma m.length mcap, .int .i64 oF, .slice oa ol.length ocap, .int .i64 s, .int .u8 r] 36)).cell? ⟨wr.heap.size, 3, none⟩ = some (.slice ma m.length mcap) := cell_of_row _ _ 3 _ _ _ (heap_alloc_new _ _)
            have d4 : (wr.alloc (.cells #[.int .i64 kd, .int .i64 fr, .int .i64 ep, .slice ma m.length mcap, .int .i64 oF, .slice oa ol.length ocap, .int .i64 s, .int .u8 r] 36)).cell? ⟨wr.heap.size, 4, none⟩ = some (.int .i64 oF) := cell_of_row _ _ 4 _ _ _ (heap_alloc_new _ _)
            have d5 : (wr.alloc (.cells #[.int .i64 kd, .int .i64 fr, .int .i64 ep, .slice ma m.length mcap, .int .i64 oF, .slice oa ol.length ocap, .int .i64 s, .int .u8 r] 36)).cell? ⟨wr.heap.size, 5, none⟩ = some (.slice oa ol.length ocap) := cell_of_row _ _ 5 _ _ _ (heap_alloc_new _ _)
            have d6 : (wr.alloc (.cells #[.int .i64 kd, .int .i64 fr, .int .i64 ep, .slice ma m.length mcap, .int .i64 oF, .slice oa ol.length ocap, .int .i64 s, .int .u8 r] 36)).cell? ⟨wr.heap.size, 6, none⟩ = some (.int .i64 s) := cell_of_row _ _ 6 _ _ _ (heap_alloc_new _ _)
            have d7 : (wr.alloc (.cells #[.int .i64 kd, .int .i64 fr, .int .i64 ep, .slice ma m.length mcap, .int .i64 oF, .slice oa ol.length ocap, .int .i64 s, .int .u8 r] 36)).cell? ⟨wr.heap.size, 7, none⟩ = some (.int .u8 r) := cell_of_row _ _ 7 _ _ _ (heap_alloc_new _ _)
            have HS := Lib.hid (HS.out.below hbx)
            have HM := Lib.hid (HM.out.below hbx)
            have HO := Lib.hid (HO.out.below hbx)
            have HB := Lib.hid (Below.step HB.out hbx)
            clear hbx c0 c1 c2 c3 c4 c5 c6 c7
            generalize (wr.alloc (.cells #[.int .i64 kd, .int .i64 fr, .int .i64 ep, .slice ma m.length mcap, .int .i64 oF, .slice oa ol.length ocap, .int .i64 s, .int .u8 r] 36)) = v at *
            generalize wr.heap.size = g at *
            refine Calls.mono (stay_order HS.out (by unfold maxLen; omega) HN.out HE.out _ rfl ma mcap HM.out HC.out hm3) ?_
            rintro e1 w8 ⟨z1, rfl, hS, hO⟩
            have d1 := HS.out.keep hO d1
            have d2 := HS.out.keep hO d2
            have d4 := HS.out.keep hO d4
            have d5 := HS.out.keep hO d5
            have d6 := HS.out.keep hO d6
            have d7 := HS.out.keep hO d7
            have HO := Lib.hid (HS.out.keepI hO HO.out)
            have HB := Lib.hid (Only.below HB.out hO HR.out (Nat.le_refl _))
            have HS := Lib.hid hS
            clear hS hO HM HC d3
            go_wp2_with fail
            refine Calls.mono (stay_seal HS.out (by unfold maxLen; omega) HN.out HE.out _ rfl oa ocap HO.out ho2 hr0 hr1) ?_
            rintro e1 w9 ⟨z2, rfl, hS, hO⟩
            have d1 := HS.out.keep hO d1
            have d2 := HS.out.keep hO d2
            have HB := Lib.hid (Only.below HB.out hO HR.out (Nat.le_refl _))
            have HS := Lib.hid hS
            clear hS hO HO d4 d5 d6 d7
            have hb0 := bringI_nonneg fr 4
            have hb1 := bringI_lt fr (n := 4) (by omega)
            obtain ⟨B, hB⟩ := Int.eq_ofNat_of_zero_le hb0
            have HBR := Lib.hid hB
            have hB4 : B < 4 := by omega
            clear hb0 hb1 hB
            have u1 : IntKind.i64.wrap (1 + (B : Int)) = 1 + (B : Int) := IntWalk.i64_in _ (by omega)
            have HCALL : Hid (∀ (W : World) (a5 : Option Addr) (cap5 : Nat), Stay W q (15 + 9 * k + 6) → Ints W a5 (nodesL ep) → (a5 = none → cap5 = 0) → Calls Try.prog 34 #[.pointer (some ⟨q.p, 0, none⟩), .int .i64 (1 + (B : Int)), .int .i64 1, .slice a5 4 cap5] W (StayPost q (15 + 9 * k + 9) W)) := Lib.hid fun W a5 cap5 h1 h2 h3 =>
              stay_order h1 (by unfold maxLen; omega) (Wf.of (by omega) (by omega)) (Wf.of (by omega) (by omega)) 4 (nodesL_len' _) a5 cap5 h2 h3 (by rw [nodesL_len']; omega)
            go_upto_region 17 with (fail)
            go_cut [] (fun wx => Stay wx q (15 + 9 * k + 9) ∧ Below w.heap.size w wx)
            case first =>
              have hS := HS.out
              have hB := HB.out
              clear HS HB
              go_wp2_with fail
              go_region_with
                ((first
                  | (go_at_call 32; (with_reducible refine Calls.mono (bring_be HBR.out _ (by decide) (by decide)) ?_); rintro e wd ⟨rfl, rfl⟩)
                  | (go_at_call 45; (with_reducible refine Calls.mono (nodes_any _ _) ?_); rintro e wd ⟨a5, cap5, rfl, hO5, hb⟩; have d1 := keepc hb d1; have d2 := keepc hb d2; have hS := (by first | exact hS.below hb | exact hS.drew.below hb); have hB := (by first | exact hB.trans (hb.mono hB.size) | exact hB.drew.trans (hb.mono hB.size)); have hI5 := Own.ints (l := nodesL ep) hO5 (show 4 ≤ 9223372036854775807 by decide); have hN5 := Own.nocap hO5)
                  | (go_at_call 34; (with_reducible refine Calls.mono (HCALL.out _ _ _ ?_ ?_ ?_) ?_); (first | exact hS | exact hS.drew); (first | exact hI5 | exact hI5.drew); exact hN5; rintro e wd ⟨z, rfl, hS2, hO⟩; have hB := Only.below hB hO HR.out (Nat.le_refl _); have hS := hS2)))
              all_goals
                go_wp2_with fail
                go_meet
                exact ⟨hS, hB⟩
            case rest =>
              have HS := Lib.hid hcut.1
              have HB := Lib.hid hcut.2
              clear hcut d1 d2 HCALL u1 HBR HN HE
              go_wp2_with fail
              refine Calls.mono (old_any _) ?_
              rintro e w10 ⟨a10, cap10, rfl, hO10, hb10⟩
              have HS := Lib.hid (HS.out.below hb10)
              have HB := Lib.hid (Below.step HB.out hb10)
              have I10 := Lib.hid (Own.ints (l := [5, 6, 7, 8]) hO10 (by decide))
              clear hO10 hb10
              go_wp2_with fail
              refine Calls.mono (stay_end HS.out a10 cap10 I10.out) ?_
              rintro e w11 ⟨rfl, hb11⟩
              have hbb := Below.step hb11 (Below.new w11 (.cells (markC 9 1) 47))
              have HS := Lib.hid (HS.out.below hbb)
              have HB := Lib.hid (Below.step HB.out hbb)
              have hrow := heap_alloc_new w11 (.cells (markC 9 1) 47)
              clear hb11 hbb I10
              go_wp2_with fail
              generalize (w11.alloc (.cells (markC 9 1) 47)) = v11 at *
              generalize w11.heap.size = g2 at *
              refine Calls.mono (nodes_any 2 _) ?_
              rintro e w12 ⟨a12, cap12, rfl, hO12, hb12⟩
              have hrow := (hb12.block _ (lt_of_heap hrow)).trans hrow
              have HS := Lib.hid (HS.out.below hb12)
              have HB := Lib.hid (Below.step HB.out hb12)
              have I12 : Hid (Ints w12 a12 [5, 6, 7, 11]) := Lib.hid (by have := Own.ints (l := nodesL 2) hO12 (by decide); rw [nodes2] at this; exact this)
              clear hO12 hb12
              go_wp2_with fail
              refine Calls.mono (stay_told HS.out a12 cap12 I12.out) ?_
              rintro e w13 ⟨rfl, hb13⟩
              have hrow := (hb13.block _ (lt_of_heap hrow)).trans hrow
              have HS := Lib.hid (HS.out.below hb13)
              have HB := Lib.hid (Below.step HB.out hb13)
              obtain ⟨hx1, hx2⟩ := row47_at hrow
              clear hb13 hrow I12
              go_wp2
              go_roundw
              case rel => (repeat apply Exists.intro); exact ⟨⟨k + 1, by omega, by omega, by go_num, Lib.hid (HS.out.mono (by omega)), HB⟩, rfl⟩
              case measure => simp [intOf]; omega
          · go_wp2
            go_ret
            exact ⟨rfl, HB.out⟩
        · go_wp2
          go_ret
          exact ⟨rfl, HB.out⟩
end Go.Proofs.Ytldcpnabgpjgiaa.Walks
