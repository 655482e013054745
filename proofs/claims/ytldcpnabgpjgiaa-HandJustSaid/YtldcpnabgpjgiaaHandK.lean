/-
  The walk of the law HandJust.
-/
import Derived.Test.YtldcpnabgpjgiaaHandH
import Derived.Test.YtldcpnabgpjgiaaHandJustP
import Derived.IntWalk
import Derived.Deep.LoopGhost
import Derived.Deep.CutRange
namespace Go.Proofs.Ytldcpnabgpjgiaa.Walks
open Go.RowKit Plain
set_option linter.unusedVariables false

/-- A hand with what was told of it. -/
def Just (wr : World) (q : HLoc) (base N : Nat) (w0 : World) (liar : Int) (il io t : Nat) (ord : Int) : Prop :=
  (∃ O, HandAt wr q N 1 dirL O [] ∧ JInv liar O il io t ord) ∧ Below base w0 wr
theorem bring_at {i n r : Int} (h : bringI i n = r) (w : World) (h0 : 0 < n) (h1 : n ≤ 4611686018427387904) : Calls Try.prog 32 #[.int .i64 i, .int .i64 n] w fun e w' => e = .returned (.int .i64 r) ∧ w = w' := by
  subst h; exact bring_any i n w h0 h1

theorem Just.mono {wr : World} {q : HLoc} {base N N' : Nat} {w0 : World} {liar : Int} {il io t il' io' : Nat} {ord : Int} (h : Just wr q base N w0 liar il io t ord) (h1 : N ≤ N') (h2 : il ≤ il') (h3 : io ≤ io') : Just wr q base N' w0 liar il' io' t ord := by
  obtain ⟨⟨O, hH, hJ⟩, hb⟩ := h
  exact ⟨⟨O, hH.mono h1 fun _ => rfl, hJ.mono h2 h3⟩, hb⟩
theorem Just.below {wr w' : World} {q : HLoc} {base N : Nat} {w0 : World} {liar : Int} {il io t : Nat} {ord : Int} (h : Just wr q base N w0 liar il io t ord) (hB : base ≤ wr.heap.size) (hb : Below wr.heap.size wr w') : Just w' q base N w0 liar il io t ord := by
  obtain ⟨⟨O, hH, hJ⟩, hb0⟩ := h
  exact ⟨⟨O, hH.below hb, hJ⟩, hb0.trans (hb.mono hB)⟩
def JustT (wx : World) (q : HLoc) (base N : Nat) (w0 : World) (liar : Int) (k : Nat) (ord : Int) (tv : Value) : Prop := ∃ t' : Nat, t' ≤ k ∧ tv = .int .i64 t' ∧ Just wx q base N w0 liar k k t' ord
theorem nodesL_len (n : Int) : (nodesL n).length = 4 := rfl
theorem n0L_len : n0L.length = 4 := rfl
theorem nodes0L : nodesL 0 = n0L := by decide

set_option maxRecDepth 100000 in
set_option maxHeartbeats 8000000 in
theorem handJust_walk (pl : Int) (a : Option Addr) (cap : Nat) (l : List Int) (po : Int) (w : World) (hI : Ints w a l) (hn : a = none → cap = 0) (hr : l.length ≤ 17592186044415) : Calls Try.prog 4 #[.int .i64 pl, .slice a l.length cap, .int .i64 po] w fun e w' => e = .returned (.bool true) ∧ Below w.heap.size w w' := by
  have HI := Lib.hid hI
  have hmm := hI.1
  clear hI hn
  go_enter Try.func4, Try.ntmps4
  go_wp2_with fail
  refine Calls.mono (works24_any _) ?_
  rintro e w1 ⟨rfl, hb1⟩
  have HB := Lib.hid hb1
  clear hb1
  have hl0 := bringI_nonneg pl 4
  have hl1 := bringI_lt pl (n := 4) (by omega)
  obtain ⟨L, hL⟩ := Int.eq_ofNat_of_zero_le hl0
  have HL := Lib.hid hL
  have hL4 : L < 4 := by omega
  have ho0 := bringI_nonneg po 1048576
  have ho1 := bringI_lt po (n := 1048576) (by omega)
  obtain ⟨R, hR'⟩ := Int.eq_ofNat_of_zero_le ho0
  have HRR := Lib.hid hR'
  have hR20 : R < 1048576 := by omega
  clear hL hl0 hl1 hR' ho0 ho1
  go_wp2_with fail
  refine Calls.mono (bring_at HL.out _ (by omega) (by omega)) ?_
  rintro e w' ⟨rfl, rfl⟩
  go_wp2_with fail
  refine Calls.mono (dir_any _) ?_
  rintro e w2 ⟨a2, cap2, rfl, hO2, hb2⟩
  have HO2 := Lib.hid hO2
  have HB := Lib.hid (Below.step HB.out hb2)
  clear hO2 hb2
  go_wp2_with fail
  refine Calls.mono (new_good 1 a2 cap2 [1, 2, 3, 4] 1 _ (Own.ints (l := [1, 2, 3, 4]) HO2.out (by decide)) (Own.nocap HO2.out) (by decide) (by omega) (by omega)) ?_
  rintro e w3 ⟨q, rfl, hH, hb3, hR, hp⟩
  have HR := Lib.hid (fun r hr => Nat.le_trans HB.out.size (hR r hr))
  have HB := Lib.hid (Below.step HB.out hb3)
  have H : Hid (HandAt w3 q 0 1 dirL [] []) := Lib.hid hH
  clear hb3 hH HO2 hR hp
  go_wp2_with fail
  refine Calls.mono (bring_at HRR.out _ (by omega) (by omega)) ?_
  rintro e w' ⟨rfl, rfl⟩
  go_wp2_with fail
  go_loopw [9, 10] (fun tv iv wr => ∃ k t : Nat, k ≤ 44 ∧ t ≤ k ∧ iv = .int .i64 k ∧ tv = .int .i64 t ∧ Hid (Just wr q w.heap.size (6 * k) w (1 + (L : Int)) k k t R)) (fun _ iv _ => 44 - (intOf iv).toNat)
  case atStart => exact ⟨0, 0, by omega, by omega, rfl, rfl, Lib.hid ⟨⟨_, H.out, JInv.start _ _⟩, HB.out⟩⟩
  case round =>
    obtain ⟨k, t, hk, htk, rfl, rfl, HJ⟩ := hrel
    by_cases hlt : k < 44
    · obtain ⟨qA, hqA⟩ : ∃ q : Bool, q = (decide ((k : Int) < (l.length : Int)) && decide ((k : Int) < 40)) := ⟨_, rfl⟩
      have HQA := Lib.hid hqA
      clear hqA
      go_upto_region 12 with (fail)
      go_cut [43] (fun v wx => v = .bool qA ∧ wr = wx)
      case first =>
        by_cases h1 : (k : Int) < (l.length : Int)
        · by_cases h2 : (k : Int) < 40
          · have hv : qA = true := by rw [HQA.out]; simp; omega
            go_wp2_with fail
            go_meet
            exact ⟨by rw [hv], rfl⟩
          · have hv : qA = false := by rw [HQA.out]; simp; omega
            go_wp2_with fail
            go_meet
            exact ⟨by rw [hv], rfl⟩
        · have hv : qA = false := by rw [HQA.out]; simp; omega
          go_wp2_with fail
          go_meet
          exact ⟨by rw [hv], rfl⟩
      case rest =>
        obtain ⟨rfl, rfl⟩ := hcut
        go_upto_if 43 with (fail)
        go_cut [] (fun wx => Just wx q w.heap.size (6 * k + 3) w (1 + (L : Int)) (k + 1) k t R)
        case first =>
          cases qA with
          | false =>
            have hJ2 := HJ.out.mono (N' := 6 * k + 3) (il' := k + 1) (by omega) (by omega) (Nat.le_refl _)
            go_wp2_with fail
            go_meet
            exact hJ2
          | true =>
            have hkl : k < l.length := by have := HQA.out; simp at this; exact this.1
            have hk40 : k < 40 := by have := HQA.out; simp at this; omega
            obtain ⟨⟨O, hH, hJI⟩, hbr⟩ := HJ.out
            obtain ⟨b, off, rfl, hbb, hcl⟩ := (HI.out.below hbr).at_lt hkl
            have hcell := hcl k hkl
            obtain ⟨x, hx⟩ : ∃ x, x = l[k] := ⟨_, rfl⟩
            rw [← hx] at hcell
            have he0 := bringI_nonneg x 3
            have he1 := bringI_lt x (n := 3) (by omega)
            obtain ⟨E3, hE3⟩ := Int.eq_ofNat_of_zero_le he0
            have HE3 := Lib.hid hE3
            have hE33 : E3 < 3 := by omega
            have hli := hJI.liar (e := 1 + (E3 : Int)) (m := nodesL (x / 4)) ⟨by omega, by omega⟩ ⟨by omega, by omega⟩ (nodesL_good _) (by omega)
            have HOE : Hid (orderE 1 dirL O (1 + (L : Int)) (1 + (E3 : Int)) (nodesL (x / 4)) = 0 ∧ orderO 1 dirL O (1 + (L : Int)) (1 + (E3 : Int)) (nodesL (x / 4)) = orderO 1 dirL O (1 + (L : Int)) (1 + (E3 : Int)) (nodesL (x / 4))) := Lib.hid ⟨hli.1, rfl⟩
            have HJ2 := Lib.hid hli.2
            have hkk : (k : Int) < (l.length : Int) := by omega
            have hk0 : (0 : Int) ≤ (k : Int) := by omega
            have u1 : IntKind.i64.wrap (1 + (E3 : Int)) = 1 + (E3 : Int) := IntWalk.i64_in _ (by omega)
            have hS := hbr
            have HBS := Lib.hid hbr.size
            have HH := Lib.hid hH
            have HCALL : Hid (∀ (W : World) (a5 : Option Addr) (cap5 : Nat), HandAt W q (6 * k) 1 dirL O [] → Ints W a5 (nodesL (x / 4)) → (a5 = none → cap5 = 0) → Calls Try.prog 34 #[.pointer (some ⟨q.p, 0, none⟩), .int .i64 (1 + (L : Int)), .int .i64 (1 + (E3 : Int)), .slice a5 4 cap5] W
                fun e' w' => e' = .returned (.int .i64 0) ∧ HandAt w' q (6 * k + 3) 1 dirL (orderO 1 dirL O (1 + (L : Int)) (1 + (E3 : Int)) (nodesL (x / 4))) [] ∧ Only q.R W w') := Lib.hid fun W a5 cap5 h1 h2 h3 =>
              order_is 4 (nodesL_len _) a5 cap5 h1 HOE.out (by unfold maxLen; omega) (Wf.of (by omega) (by omega)) (Wf.of (by omega) (by omega)) h2 h3 (by omega)
            clear hcl hx he0 he1 hE3 hli hJI hbr
            go_wp2_with fail
            go_region_with
              ((first
                | (go_at_call 32; (with_reducible refine Calls.mono (bring_at HE3.out _ (by decide) (by decide)) ?_); rintro e wd ⟨rfl, rfl⟩)
                | (go_at_call 45; (with_reducible refine Calls.mono (nodes_any _ _) ?_); rintro e wd ⟨a5, cap5, rfl, hO5, hb⟩; have hH := (by first | exact hH.below hb | exact hH.drew.below hb); have hS := (by first | exact hS.trans (hb.mono hS.size) | exact hS.drew.trans (hb.mono hS.size)); have hI5 := Own.ints (l := nodesL (x / 4)) hO5 (show 4 ≤ 9223372036854775807 by decide); have hN5 := Own.nocap hO5)
                | (go_at_call 34; (with_reducible refine Calls.mono (HCALL.out _ _ _ ?_ ?_ ?_) ?_); (first | exact hH | exact hH.drew); (first | exact hI5 | exact hI5.drew); exact hN5; rintro e wd ⟨rfl, hH2, hO⟩; have hS := Only.below hS hO HR.out (Nat.le_refl _); have hH := hH2)))
            all_goals
              go_wp2_with fail
              go_meet
              exact ⟨⟨_, hH.mono (by omega) fun _ => rfl, HJ2.out⟩, hS⟩
        case rest =>
          have HJ := Lib.hid hcut
          clear hcut
          obtain ⟨v1, rfl⟩ : ∃ v, v = wc := ⟨_, rfl⟩
          obtain ⟨qB, hqB⟩ : ∃ qb : Bool, qb = (bitP R (k % 20) || decide (40 ≤ (k : Int))) := ⟨_, rfl⟩
          have HQB := Lib.hid hqB
          clear hqB
          go_upto_region 15 with (fail)
          go_cut [69] (fun v wx => v = .bool qB ∧ v1 = wx)
          case first =>
            cases hb : bitP R (k % 20) with
            | true =>
              have hb' : (bits .and .i64 ((R : Int) / 2 ^ (k % 20)) 1 == 1) = true := hb
              have hv : qB = true := by rw [HQB.out, hb]; rfl
              have HB0 := Lib.hid hb
              clear hb
              go_wp2_with fail
              go_meet
              exact ⟨by rw [hv], rfl⟩
            | false =>
              have hb' : (bits .and .i64 ((R : Int) / 2 ^ (k % 20)) 1 == 1) = false := hb
              have hv : qB = decide (40 ≤ (k : Int)) := by rw [HQB.out, hb]; rfl
              have HB0 := Lib.hid hb
              have HV := Lib.hid hv
              clear hb hv
              go_wp2_with fail
              go_meet
              exact ⟨by rw [HV.out], rfl⟩
          case rest =>
            obtain ⟨rfl, rfl⟩ := hcut
            go_upto_if 69 with (fail)
            go_cut [9] (fun tv wx => JustT wx q w.heap.size (6 * k + 6) w (1 + (L : Int)) (k + 1) R tv)
            case first =>
              cases qB with
              | false =>
                have hJ2 : JustT v1 q w.heap.size (6 * k + 6) w (1 + (L : Int)) (k + 1) R (.int .i64 t) := ⟨t, by omega, rfl, HJ.out.mono (by omega) (Nat.le_refl _) (by omega)⟩
                go_wp2_with fail
                go_meet
                exact hJ2
              | true =>
                obtain ⟨⟨O, hH, hJI⟩, hbr⟩ := HJ.out
                have hb := turn_bd R t
                obtain ⟨T, hT⟩ := Int.eq_ofNat_of_zero_le (show 0 ≤ turn R t by omega)
                have hT1 : 1 ≤ T := by omega
                have hT4 : T ≤ 4 := by omega
                have hm : (1 + ((t : Int) + (R : Int)) % 4 : Int) = (T : Nat) := hT
                have HT := Lib.hid hT
                clear hT hb
                by_cases hne : (T : Int) = 1 + (L : Int)
                · have hJ2 : JustT v1 q w.heap.size (6 * k + 6) w (1 + (L : Int)) (k + 1) R (.int .i64 ((t + 1 : Nat) : Int)) := ⟨t + 1, by omega, rfl, ⟨O, hH.mono (by omega) fun _ => rfl, (hJI.skip (HT.out.trans hne)).mono (Nat.le_refl _) (by omega)⟩, hbr⟩
                  have hq : ((T : Int) != 1 + (L : Int)) = false := by simp [hne]
                  have HJ2 := Lib.hid hJ2
                  clear hne hH hJI hbr hJ2
                  go_wp2_with fail
                  go_meet
                  exact HJ2.out
                · have hho := hJI.honest (fun h => hne (HT.out.symm.trans h)) (by omega)
                  rw [HT.out] at hho
                  have hq : ((T : Int) != 1 + (L : Int)) = true := by simp [hne]
                  have HOE : Hid (orderE 1 dirL O (T : Int) 2 n0L = 0) := Lib.hid hho.1
                  have HJ2 := Lib.hid hho.2
                  have HH := Lib.hid hH
                  have HBB := Lib.hid hbr
                  clear hne hho hH hJI hbr
                  go_wp2_with fail
                  refine Calls.mono (nodes_any 0 _) ?_
                  rintro e wn ⟨an, capn, rfl, hOn, hbn⟩
                  have HH := Lib.hid (HH.out.below hbn)
                  have HBB := Lib.hid (Below.step HBB.out hbn)
                  have In := Lib.hid (show Ints wn an n0L by have := Own.ints (l := nodesL 0) hOn (by decide); rw [nodes0L] at this; exact this)
                  have Nn := Lib.hid (Own.nocap hOn)
                  clear hOn hbn
                  go_wp2_with fail
                  refine Calls.mono (order_is (m := n0L) 4 rfl an capn HH.out ⟨HOE.out, rfl⟩ (by unfold maxLen; omega) (Wf.of (by omega) (by omega)) (Wf.of (by omega) (by omega)) In.out Nn.out (by omega)) ?_
                  rintro e wo ⟨rfl, hHo, hOo⟩
                  have HBB := Lib.hid (Only.below HBB.out hOo HR.out (Nat.le_refl _))
                  have hJ2 : JustT wo q w.heap.size (6 * k + 6) w (1 + (L : Int)) (k + 1) R (.int .i64 ((t + 1 : Nat) : Int)) := ⟨t + 1, by omega, rfl, ⟨_, hHo.mono (by omega) fun _ => rfl, HJ2.out⟩, HBB.out⟩
                  have HJ3 := Lib.hid hJ2
                  clear hHo hOo hJ2
                  go_wp2_with fail
                  go_meet
                  exact HJ3.out
            case rest =>
              obtain ⟨t', ht', rfl, hJ⟩ := hcut
              have HJ := Lib.hid hJ
              clear hJ
              obtain ⟨v2, rfl⟩ : ∃ v, v = wc := ⟨_, rfl⟩
              obtain ⟨⟨O, hH, hJI⟩, hbr⟩ := HJ.out
              have HH := Lib.hid hH
              have HJI := Lib.hid hJI
              have HBB := Lib.hid hbr
              have H13 := Lib.hid hJI.crew13
              have hc2 := hJI.crew2
              clear hH hJI hbr HJ
              rcases hc2 with hc2 | hc2
              · have HC2 := Lib.hid hc2
                clear hc2
                go_wp2_with fail
                refine Calls.mono (crewIs_is (M := none) HH.out HC2.out (Wf.of (by omega) (by omega))) ?_
                rintro e w6 ⟨a6, cap6, rfl, hO6, hb6⟩
                have hbb := Below.step hb6 (Below.new w6 (.cells #[.int .i64 0, .slice a6 0 cap6] 24))
                have HH := Lib.hid (HH.out.below hbb)
                have HBB := Lib.hid (Below.step HBB.out hbb)
                clear hO6 hb6 hbb
                go_wp2_with fail
                generalize (w6.alloc (.cells #[.int .i64 0, .slice a6 0 cap6] 24)) = v6 at *
                go_quiet (fail)
                have HH := Lib.hid (HH.out.below (below_drewN (Below.refl _ _) nq))
                have HBB := Lib.hid (Below.step HBB.out (below_drewN (Below.refl _ _) nq))
                go_wp2_with fail
                refine Calls.mono (crewIs_is (M := none) HH.out H13.out.1 (Wf.of (by omega) (by omega))) ?_
                rintro e w7 ⟨a7, cap7, rfl, hO7, hb7⟩
                have hbb := Below.step hb7 (Below.new w7 (.cells #[.int .i64 0, .slice a7 0 cap7] 24))
                have HH := Lib.hid (HH.out.below hbb)
                have HBB := Lib.hid (Below.step HBB.out hbb)
                clear hO7 hb7 hbb
                go_wp2_with fail
                generalize (w7.alloc (.cells #[.int .i64 0, .slice a7 0 cap7] 24)) = v7 at *
                refine Calls.mono (crewIs_is (M := none) HH.out H13.out.2 (Wf.of (by omega) (by omega))) ?_
                rintro e w8 ⟨a8, cap8, rfl, hO8, hb8⟩
                have hbb := Below.step hb8 (Below.new w8 (.cells #[.int .i64 0, .slice a8 0 cap8] 24))
                have HH := Lib.hid (HH.out.below hbb)
                have HBB := Lib.hid (Below.step HBB.out hbb)
                clear hO8 hb8 hbb
                have HFIN := Lib.hid (show Just _ q w.heap.size (6 * (k + 1)) w (1 + (L : Int)) (k + 1) (k + 1) t' R from ⟨⟨O, HH.out.mono (by omega) fun _ => rfl, HJI.out⟩, HBB.out⟩)
                go_wp2
                go_roundw
                case rel => exact ⟨k + 1, t', by omega, by omega, by go_num, rfl, HFIN⟩
                case measure => simp [intOf]; omega
              · have HC2 := Lib.hid hc2
                clear hc2
                go_wp2_with fail
                refine Calls.mono (crewIs_is (M := some [5, 6, 7, 9]) HH.out HC2.out (Wf.of (by omega) (by omega))) ?_
                rintro e w6 ⟨a6, cap6, rfl, hO6, hb6⟩
                have hbb := Below.step hb6 (Below.new w6 (.cells #[.int .i64 1, .slice a6 4 cap6] 24))
                have x1 := (crew_box2 (w := w6) (F := 1) (v := .slice a6 4 cap6)).2
                have I6 := (Own.ints (l := n0L) hO6 (by decide)).alloc (.cells #[.int .i64 1, .slice a6 4 cap6] 24)
                have HH := Lib.hid (HH.out.below hbb)
                have HBB := Lib.hid (Below.step HBB.out hbb)
                have HI6 := Lib.hid I6
                clear hO6 hb6 hbb I6
                go_wp2_with fail
                generalize (w6.alloc (.cells #[.int .i64 1, .slice a6 4 cap6] 24)) = v6 at *
                go_cut [99] (fun v wx => v = .bool false ∧ Below v6.heap.size v6 wx)
                case first =>
                  have hS : Below v6.heap.size v6 v6 := Below.refl _ _
                  go_region_held3 (fun w' => w'.cell? ⟨w6.heap.size, 1, none⟩ = some (.slice a6 4 cap6))
                    (first
                      | go_keep | assumption | exact keepc hS x1)
                    ((first
                      | (go_at_call 45; (with_reducible refine Calls.mono (nodes_any _ _) ?_); rintro e wd ⟨a9, cap9, rfl, hO9, hb⟩; have hS : Below v6.heap.size v6 wd := (by first | exact Below.step hS hb | exact Below.stepD hS hb); have hI9 : Ints wd a9 n0L := (by have := Own.ints (l := nodesL 0) hO9 (by decide); rw [nodes0L] at this; exact this))
                      | (go_at_call 36; (with_reducible refine Calls.mono (eq_n (l := n0L) (l' := n0L) rfl 4 4 n0L_len n0L_len a6 a9 cap6 cap9 _ ?_ ?_) ?_); (first | exact HI6.out.below hS | exact HI6.out.below hS.drew); (first | exact hI9 | exact hI9.drew); rintro e wd ⟨rfl, hb⟩; have hS : Below v6.heap.size v6 wd := (by first | exact Below.step hS hb | exact Below.stepD hS hb))))
                  all_goals
                    go_wp2_with fail
                    go_meet
                    exact ⟨rfl, hS⟩
                case rest =>
                  obtain ⟨rfl, hS⟩ := hcut
                  have HH := Lib.hid (HH.out.below hS)
                  have HBB := Lib.hid (Below.step HBB.out hS)
                  clear hS
                  go_wp2_with fail
                  refine Calls.mono (crewIs_is (M := none) HH.out H13.out.1 (Wf.of (by omega) (by omega))) ?_
                  rintro e w7 ⟨a7, cap7, rfl, hO7, hb7⟩
                  have hbb := Below.step hb7 (Below.new w7 (.cells #[.int .i64 0, .slice a7 0 cap7] 24))
                  have HH := Lib.hid (HH.out.below hbb)
                  have HBB := Lib.hid (Below.step HBB.out hbb)
                  clear hO7 hb7 hbb
                  go_wp2_with fail
                  generalize (w7.alloc (.cells #[.int .i64 0, .slice a7 0 cap7] 24)) = v7 at *
                  refine Calls.mono (crewIs_is (M := none) HH.out H13.out.2 (Wf.of (by omega) (by omega))) ?_
                  rintro e w8 ⟨a8, cap8, rfl, hO8, hb8⟩
                  have hbb := Below.step hb8 (Below.new w8 (.cells #[.int .i64 0, .slice a8 0 cap8] 24))
                  have HH := Lib.hid (HH.out.below hbb)
                  have HBB := Lib.hid (Below.step HBB.out hbb)
                  clear hO8 hb8 hbb
                  have HFIN := Lib.hid (show Just _ q w.heap.size (6 * (k + 1)) w (1 + (L : Int)) (k + 1) (k + 1) t' R from ⟨⟨O, HH.out.mono (by omega) fun _ => rfl, HJI.out⟩, HBB.out⟩)
                  go_wp2
                  go_roundw
                  case rel => exact ⟨k + 1, t', by omega, by omega, by go_num, rfl, HFIN⟩
                  case measure => simp [intOf]; omega
    · obtain ⟨⟨O, hH, hJI⟩, hbr⟩ := HJ.out
      have HH := Lib.hid hH
      have HBB := Lib.hid hbr
      by_cases ht4 : 4 ≤ t
      · have HD := Lib.hid (hJI.done ht4)
        have ht4' : ¬ (t : Int) < 4 := by omega
        clear hH hJI hbr
        go_wp2_with fail
        refine Calls.mono (nodes_any 0 _) ?_
        rintro e wn ⟨an, capn, rfl, hOn, hbn⟩
        have HH := Lib.hid (HH.out.below hbn)
        have HBB := Lib.hid (Below.step HBB.out hbn)
        have In := Lib.hid (show Ints wn an n0L by have := Own.ints (l := nodesL 0) hOn (by decide); rw [nodes0L] at this; exact this)
        clear hOn hbn
        go_wp2_with fail
        refine Calls.mono (told_any (m := n0L) 4 rfl an capn HH.out (Wf.of (by omega) (by omega)) In.out (by decide)) ?_
        rintro e wo ⟨rfl, hbo⟩
        have HBB := Lib.hid (Below.step HBB.out hbo)
        rw [HD.out]
        clear hbo
        go_wp2
        go_ret
        exact ⟨ret_bool (by simp), HBB.out⟩
      · have ht4' : (t : Int) < 4 := by omega
        clear hH hJI hbr
        go_wp2
        go_ret
        exact ⟨rfl, HBB.out⟩
end Go.Proofs.Ytldcpnabgpjgiaa.Walks
