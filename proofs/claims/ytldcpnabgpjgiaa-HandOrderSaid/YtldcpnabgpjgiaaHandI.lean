/-
  The walk of the law HandOrder.
-/
import Derived.Test.YtldcpnabgpjgiaaHandH
import Derived.Test.YtldcpnabgpjgiaaHandOrdP
import Derived.IntWalk
namespace Go.Proofs.Ytldcpnabgpjgiaa.Walks
open Go.RowKit Plain
set_option linter.unusedVariables false

/-- Two hands of which one told in its order, the other in its own. -/
def Two (wr : World) (qa qb : HLoc) (b : Nat → Bool) (f k : Nat) : Prop := HandAt wr qa (3 * k) 1 [1, 2, 3, 4] (ordA b k) [] ∧ HandAt wr qb (3 * k) 1 [1, 2, 3, 4] (ordB b f k) []
theorem nodes1L : nodesL 1 = n1L := by decide

theorem HandX.next {w w' : World} {q q' : HLoc} {N N' : Nat} {f f' : Int} {l l' : List Int} {O1 O3 O5 O1' O3' O5' : List (Int × Int × List Int)} {E2 E4 E2' E4' : List (Int × Int × Int × Int)} (h : HandX w q N f l O1 O3 O5 E2 E4) (h' : HandX w q' N' f' l' O1' O3' O5' E2' E4') (ho : Only q'.R w w') (hd : ∀ b ∈ q.R, b ∉ q'.R) : HandX w' q N f l O1 O3 O5 E2 E4 :=
  h.other ho (fun _ _ hc => h'.notR hc) hd
theorem two_nodes {w : World} {a : Option Addr} {cap : Nat} {base : Nat} (h : Own w base a (nodesL 1) cap) : Ints w a n1L := by have := Own.ints (l := nodesL 1) h (by decide); rw [nodes1L] at this; exact this

theorem hand_len {b : Nat → Bool} {k L : Nat} {q : Bool} (hq : b (1 + k) = q) (hL : L = (ordA b k).length) : (ordA b (k + 1)).length = L + if q then 1 else 0 := by
  rw [ordA_succ, hq, hL]; cases q <;> simp
section
variable {w : World} {qa qb : HLoc} {b : Nat → Bool} {f k : Nat}
theorem two_yy (h1 : b (1 + k) = true) (h2 : b (ordM f k) = true) (hA : HandAt w qa (3 * k + 3) 1 [1, 2, 3, 4] (ordA b k ++ [(((1 + k : Nat) : Int), 5, n1L)]) []) (hB : HandAt w qb (3 * k + 3) 1 [1, 2, 3, 4] (ordB b f k ++ [((ordM f k : Int), 5, n1L)]) []) : Two w qa qb b f (k + 1) := by
  unfold Two; rw [ordA_succ, ordB_succ, h1, h2]; exact ⟨hA, hB⟩
theorem two_yn (h1 : b (1 + k) = true) (h2 : b (ordM f k) = false) (hA : HandAt w qa (3 * k + 3) 1 [1, 2, 3, 4] (ordA b k ++ [(((1 + k : Nat) : Int), 5, n1L)]) []) (hB : HandAt w qb (3 * k) 1 [1, 2, 3, 4] (ordB b f k) []) : Two w qa qb b f (k + 1) := by
  unfold Two; rw [ordA_succ, ordB_succ, h1, h2]; exact ⟨hA, hB.mono (by omega) fun _ => rfl⟩
theorem two_ny (h1 : b (1 + k) = false) (h2 : b (ordM f k) = true) (hA : HandAt w qa (3 * k) 1 [1, 2, 3, 4] (ordA b k) []) (hB : HandAt w qb (3 * k + 3) 1 [1, 2, 3, 4] (ordB b f k ++ [((ordM f k : Int), 5, n1L)]) []) : Two w qa qb b f (k + 1) := by
  unfold Two; rw [ordA_succ, ordB_succ, h1, h2]; exact ⟨hA.mono (by omega) fun _ => rfl, hB⟩
theorem two_nn (h1 : b (1 + k) = false) (h2 : b (ordM f k) = false) (hA : HandAt w qa (3 * k) 1 [1, 2, 3, 4] (ordA b k) []) (hB : HandAt w qb (3 * k) 1 [1, 2, 3, 4] (ordB b f k) []) : Two w qa qb b f (k + 1) := by
  unfold Two; rw [ordA_succ, ordB_succ, h1, h2]; exact ⟨hA.mono (by omega) fun _ => rfl, hB.mono (by omega) fun _ => rfl⟩
end
set_option maxRecDepth 100000 in
set_option maxHeartbeats 8000000 in
theorem handOrder_walk (who first : Int) (w : World) : Calls Try.prog 7 #[.int .i64 who, .int .i64 first] w fun e w' => e = .returned (.bool true) ∧ Below w.heap.size w w' := by
  go_enter Try.func7, Try.ntmps7
  go_wp2_with fail
  refine Calls.mono (works24_any _) ?_
  rintro e w1 ⟨rfl, hb1⟩
  have HB := Lib.hid hb1
  clear hb1
  go_wp2_with fail
  refine Calls.mono (dir_any _) ?_
  rintro e w2 ⟨a2, cap2, rfl, hO2, hb2⟩
  have HO2 := Lib.hid hO2
  have HB := Lib.hid (Below.step HB.out hb2)
  clear hO2 hb2
  go_wp2_with fail
  refine Calls.mono (new_good 1 a2 cap2 [1, 2, 3, 4] 1 _ (Own.ints (l := [1, 2, 3, 4]) HO2.out (by decide)) (Own.nocap HO2.out) (by decide) (by omega) (by omega)) ?_
  rintro e w3 ⟨qa, rfl, hH, hb3, hR, hp⟩
  have HRa := Lib.hid (fun r hr => Nat.le_trans HB.out.size (hR r hr))
  have HB := Lib.hid (Below.step HB.out hb3)
  have HA := Lib.hid hH
  clear hb3 hH HO2 hR hp
  go_wp2_with fail
  refine Calls.mono (dir_any _) ?_
  rintro e w4 ⟨a4, cap4, rfl, hO4, hb4⟩
  have HO4 := Lib.hid hO4
  have HB := Lib.hid (Below.step HB.out hb4)
  have HA := Lib.hid (HA.out.below hb4)
  clear hO4 hb4
  go_wp2_with fail
  refine Calls.mono (new_good 1 a4 cap4 [1, 2, 3, 4] 1 _ (Own.ints (l := [1, 2, 3, 4]) HO4.out (by decide)) (Own.nocap HO4.out) (by decide) (by omega) (by omega)) ?_
  rintro e w5 ⟨qb, rfl, hH, hb5, hR, hp⟩
  have HRb := Lib.hid (fun r hr => Nat.le_trans HB.out.size (hR r hr))
  have HD : Hid (∀ r ∈ qa.R, r ∉ qb.R) := Lib.hid (fun r hr hr2 => Nat.not_le_of_lt (HA.out.lt r hr) (hR r hr2))
  have HB := Lib.hid (Below.step HB.out hb5)
  have HA := Lib.hid (HA.out.below hb5)
  have HBd := Lib.hid hH
  clear hb5 hH HO4 hR hp
  have hf0 := bringI_nonneg first 4
  have hf1 := bringI_lt first (n := 4) (by omega)
  obtain ⟨f, hf⟩ := Int.eq_ofNat_of_zero_le hf0
  rw [hf] at hf1
  have hf4 : f < 4 := by omega
  have HFF := Lib.hid hf
  clear hf hf0 hf1
  go_wp2_with fail
  refine Calls.mono (bring_any first 4 _ (by omega) (by omega)) ?_
  rintro e w' ⟨rfl, rfl⟩
  rw [HFF.out]
  go_wp2_with fail
  go_loopw [9, 10] (fun mv iv wr => ∃ k : Nat, k ≤ 4 ∧ iv = .int .i64 k ∧ mv = .int .i64 ((ordA (bitP who) k).length : Nat) ∧ Hid (Two wr qa qb (bitP who) f k) ∧ Below w.heap.size w wr) (fun _ iv _ => 4 - (intOf iv).toNat)
  case atStart => exact ⟨0, by omega, rfl, rfl, Lib.hid ⟨HA.out, HBd.out⟩, HB.out⟩
  case round =>
    obtain ⟨k, hk, rfl, rfl, HT, hbr⟩ := hrel
    obtain ⟨L, hL⟩ : ∃ L, L = (ordA (bitP who) k).length := ⟨_, rfl⟩
    rw [← hL]
    have HL := Lib.hid hL
    have hLk : L ≤ k := by rw [hL]; unfold ordA; rw [List.length_map]; exact Nat.le_trans (List.length_filter_le _ _) (by simp)
    clear hL
    by_cases hlt : k < 4
    · have HM : Hid (ordM f k = 1 + (f + 4 - k) % 4) := Lib.hid rfl
      have hm : (1 + ((f : Int) + 4 - (k : Int)) % 4 : Int) = (ordM f k : Nat) := by rw [HM.out]; omega
      have HX1 := Lib.hid HT.out.1
      have HX2 := Lib.hid HT.out.2
      have HBB := Lib.hid hbr
      have hmb := ordM_bd f k
      have hm1 := hmb.1
      have hm4 := hmb.2
      clear hmb
      cases hq1 : bitP who (1 + k) with
      | true =>
        have hq1' : (bits .and .i64 (who / 2 ^ (1 + k)) 1 == 1) = true := hq1
        have HQ1 := Lib.hid hq1
        clear hq1
        cases hq2 : bitP who (ordM f k) with
        | true =>
          have hq2' : (bits .and .i64 (who / 2 ^ (ordM f k)) 1 == 1) = true := hq2
          have HQ2 := Lib.hid hq2
          clear hq2
          go_wp2_with fail
          refine Calls.mono (nodes_any 1 _) ?_
          rintro e wn ⟨an, capn, rfl, hOn, hbn⟩
          have HX1 := Lib.hid (HX1.out.below hbn)
          have HX2 := Lib.hid (HX2.out.below hbn)
          have HBB := Lib.hid (Below.step HBB.out hbn)
          have In := Lib.hid (two_nodes hOn)
          have Nn := Lib.hid (Own.nocap hOn)
          clear hOn hbn
          go_wp2_with fail
          refine Calls.mono (order_is (m := n1L) (n := 1 + (k : Int)) 4 rfl an capn HX1.out (by have := may_order (ordA_may hlt HQ1.out); rw [show (((1 + k : Nat) : Int)) = 1 + (k : Int) by omega] at this; exact this) (by unfold maxLen; omega) (Wf.of (by omega) (by omega)) (Wf.of (by omega) (by omega)) In.out Nn.out (by omega)) ?_
          rintro e wo ⟨rfl, hHo, hOo⟩
          have HX2 := Lib.hid (HX2.out.next HX1.out hOo (fun r hr hr2 => HD.out r hr2 hr))
          have HX1 := Lib.hid hHo
          have HBB := Lib.hid (Only.below HBB.out hOo HRa.out (Nat.le_refl _))
          clear hHo hOo In Nn
          go_wp2_with fail
          refine Calls.mono (nodes_any 1 _) ?_
          rintro e wn ⟨an, capn, rfl, hOn, hbn⟩
          have HX1 := Lib.hid (HX1.out.below hbn)
          have HX2 := Lib.hid (HX2.out.below hbn)
          have HBB := Lib.hid (Below.step HBB.out hbn)
          have In := Lib.hid (two_nodes hOn)
          have Nn := Lib.hid (Own.nocap hOn)
          clear hOn hbn
          go_wp2_with fail
          refine Calls.mono (order_is (m := n1L) 4 rfl an capn HX2.out (may_order (ordB_may hf4 hlt HQ2.out)) (by unfold maxLen; omega) (Wf.of (by omega) (by omega)) (Wf.of (by omega) (by omega)) In.out Nn.out (by omega)) ?_
          rintro e wo ⟨rfl, hHo, hOo⟩
          have HX1 := Lib.hid (HX1.out.next HX2.out hOo HD.out)
          have HX2 := Lib.hid hHo
          have HBB := Lib.hid (Only.below HBB.out hOo HRb.out (Nat.le_refl _))
          clear hHo hOo In Nn
          go_wp2
          go_roundw
          case rel => exact ⟨k + 1, by omega, by go_num, by rw [hand_len HQ1.out HL.out]; first | go_num | rfl, Lib.hid (two_yy HQ1.out HQ2.out HX1.out HX2.out), HBB.out⟩
          case measure => simp [intOf]; omega
        | false =>
          have hq2' : (bits .and .i64 (who / 2 ^ (ordM f k)) 1 == 1) = false := hq2
          have HQ2 := Lib.hid hq2
          clear hq2
          go_wp2_with fail
          refine Calls.mono (nodes_any 1 _) ?_
          rintro e wn ⟨an, capn, rfl, hOn, hbn⟩
          have HX1 := Lib.hid (HX1.out.below hbn)
          have HX2 := Lib.hid (HX2.out.below hbn)
          have HBB := Lib.hid (Below.step HBB.out hbn)
          have In := Lib.hid (two_nodes hOn)
          have Nn := Lib.hid (Own.nocap hOn)
          clear hOn hbn
          go_wp2_with fail
          refine Calls.mono (order_is (m := n1L) (n := 1 + (k : Int)) 4 rfl an capn HX1.out (by have := may_order (ordA_may hlt HQ1.out); rw [show (((1 + k : Nat) : Int)) = 1 + (k : Int) by omega] at this; exact this) (by unfold maxLen; omega) (Wf.of (by omega) (by omega)) (Wf.of (by omega) (by omega)) In.out Nn.out (by omega)) ?_
          rintro e wo ⟨rfl, hHo, hOo⟩
          have HX2 := Lib.hid (HX2.out.next HX1.out hOo (fun r hr hr2 => HD.out r hr2 hr))
          have HX1 := Lib.hid hHo
          have HBB := Lib.hid (Only.below HBB.out hOo HRa.out (Nat.le_refl _))
          clear hHo hOo In Nn
          go_wp2
          go_roundw
          case rel => exact ⟨k + 1, by omega, by go_num, by rw [hand_len HQ1.out HL.out]; first | go_num | rfl, Lib.hid (two_yn HQ1.out HQ2.out HX1.out HX2.out), HBB.out⟩
          case measure => simp [intOf]; omega
      | false =>
        have hq1' : (bits .and .i64 (who / 2 ^ (1 + k)) 1 == 1) = false := hq1
        have HQ1 := Lib.hid hq1
        clear hq1
        cases hq2 : bitP who (ordM f k) with
        | true =>
          have hq2' : (bits .and .i64 (who / 2 ^ (ordM f k)) 1 == 1) = true := hq2
          have HQ2 := Lib.hid hq2
          clear hq2
          go_wp2_with fail
          refine Calls.mono (nodes_any 1 _) ?_
          rintro e wn ⟨an, capn, rfl, hOn, hbn⟩
          have HX1 := Lib.hid (HX1.out.below hbn)
          have HX2 := Lib.hid (HX2.out.below hbn)
          have HBB := Lib.hid (Below.step HBB.out hbn)
          have In := Lib.hid (two_nodes hOn)
          have Nn := Lib.hid (Own.nocap hOn)
          clear hOn hbn
          go_wp2_with fail
          refine Calls.mono (order_is (m := n1L) 4 rfl an capn HX2.out (may_order (ordB_may hf4 hlt HQ2.out)) (by unfold maxLen; omega) (Wf.of (by omega) (by omega)) (Wf.of (by omega) (by omega)) In.out Nn.out (by omega)) ?_
          rintro e wo ⟨rfl, hHo, hOo⟩
          have HX1 := Lib.hid (HX1.out.next HX2.out hOo HD.out)
          have HX2 := Lib.hid hHo
          have HBB := Lib.hid (Only.below HBB.out hOo HRb.out (Nat.le_refl _))
          clear hHo hOo In Nn
          go_wp2
          go_roundw
          case rel => exact ⟨k + 1, by omega, by go_num, by rw [hand_len HQ1.out HL.out]; first | go_num | rfl, Lib.hid (two_ny HQ1.out HQ2.out HX1.out HX2.out), HBB.out⟩
          case measure => simp [intOf]; omega
        | false =>
          have hq2' : (bits .and .i64 (who / 2 ^ (ordM f k)) 1 == 1) = false := hq2
          have HQ2 := Lib.hid hq2
          clear hq2
          go_wp2
          go_roundw
          case rel => exact ⟨k + 1, by omega, by go_num, by rw [hand_len HQ1.out HL.out]; first | go_num | rfl, Lib.hid (two_nn HQ1.out HQ2.out HX1.out HX2.out), HBB.out⟩
          case measure => simp [intOf]; omega
    · have hk4 : k = 4 := by omega
      have HX1 := HT.out.1
      have HX2 := HT.out.2
      have he := ord_end (b := bitP who) hf4
      rw [hk4] at HX1 HX2
      have hL4 : L = (ordA (bitP who) 4).length := by rw [HL.out, hk4]
      rw [← hL4] at he
      have HX1 := Lib.hid HX1
      have HX2 := Lib.hid HX2
      have HBB := Lib.hid hbr
      clear hk4 hL4
      by_cases h2 : 2 ≤ L
      · have HC1 := Lib.hid (he.2.trans (if_pos h2))
        have HC2 := Lib.hid (he.1.symm.trans (he.2.trans (if_pos h2)))
        clear he
        go_wp2_with fail
        refine Calls.mono (crewIs_is (M := some [5, 6, 7, 10]) HX1.out HC1.out (Wf.of (by omega) (by omega))) ?_
        rintro e w6 ⟨a6, cap6, rfl, hO6, hb6⟩
        have I6 := Own.ints (l := [5, 6, 7, 10]) hO6 (by decide)
        have hbb := Below.step hb6 (Below.new w6 (.cells #[.int .i64 1, .slice a6 4 cap6] 24))
        have x0 := (crew_box2 (w := w6) (F := 1) (v := .slice a6 4 cap6)).1
        have x1 := (crew_box2 (w := w6) (F := 1) (v := .slice a6 4 cap6)).2
        have I6 := Lib.hid (I6.alloc (.cells #[.int .i64 1, .slice a6 4 cap6] 24))
        have HX2 := Lib.hid (HX2.out.below hbb)
        have HBB := Lib.hid (Below.step HBB.out hbb)
        clear hO6 hb6 hbb
        go_wp2_with fail
        generalize (w6.alloc (.cells #[.int .i64 1, .slice a6 4 cap6] 24)) = v6 at *
        refine Calls.mono (crewIs_is (M := some [5, 6, 7, 10]) HX2.out HC2.out (Wf.of (by omega) (by omega))) ?_
        rintro e w7 ⟨a7, cap7, rfl, hO7, hb7⟩
        have I7 := Own.ints (l := [5, 6, 7, 10]) hO7 (by decide)
        have hbb := Below.step hb7 (Below.new w7 (.cells #[.int .i64 1, .slice a7 4 cap7] 24))
        have x0 := keepc hbb x0
        have x1 := keepc hbb x1
        have y0 := (crew_box2 (w := w7) (F := 1) (v := .slice a7 4 cap7)).1
        have y1 := (crew_box2 (w := w7) (F := 1) (v := .slice a7 4 cap7)).2
        have I7 := Lib.hid (I7.alloc (.cells #[.int .i64 1, .slice a7 4 cap7] 24))
        have I6 := Lib.hid (I6.out.below hbb)
        have HBB := Lib.hid (Below.step HBB.out hbb)
        clear hO7 hb7 hbb
        go_wp2_with fail
        generalize (w7.alloc (.cells #[.int .i64 1, .slice a7 4 cap7] 24)) = v7 at *
        refine Calls.mono (same_true (f := 1) (f' := 1) (l := [5, 6, 7, 10]) (l' := [5, 6, 7, 10]) rfl rfl a6 a7 cap6 cap7 _ I6.out I7.out) ?_
        rintro e w8 ⟨rfl, hb8⟩
        have HBB := Lib.hid (Below.step HBB.out hb8)
        clear hb8
        go_wp2
        go_ret
        exact ⟨rfl, HBB.out⟩
      · have HC1 := Lib.hid (he.2.trans (if_neg h2))
        have HC2 := Lib.hid (he.1.symm.trans (he.2.trans (if_neg h2)))
        clear he
        go_wp2_with fail
        refine Calls.mono (crewIs_is (M := none) HX1.out HC1.out (Wf.of (by omega) (by omega))) ?_
        rintro e w6 ⟨a6, cap6, rfl, hO6, hb6⟩
        have I6 := Own.ints (l := []) hO6 (by decide)
        have hbb := Below.step hb6 (Below.new w6 (.cells #[.int .i64 0, .slice a6 0 cap6] 24))
        have x0 := (crew_box2 (w := w6) (F := 0) (v := .slice a6 0 cap6)).1
        have x1 := (crew_box2 (w := w6) (F := 0) (v := .slice a6 0 cap6)).2
        have I6 := Lib.hid (I6.alloc (.cells #[.int .i64 0, .slice a6 0 cap6] 24))
        have HX2 := Lib.hid (HX2.out.below hbb)
        have HBB := Lib.hid (Below.step HBB.out hbb)
        clear hO6 hb6 hbb
        go_wp2_with fail
        generalize (w6.alloc (.cells #[.int .i64 0, .slice a6 0 cap6] 24)) = v6 at *
        refine Calls.mono (crewIs_is (M := none) HX2.out HC2.out (Wf.of (by omega) (by omega))) ?_
        rintro e w7 ⟨a7, cap7, rfl, hO7, hb7⟩
        have I7 := Own.ints (l := []) hO7 (by decide)
        have hbb := Below.step hb7 (Below.new w7 (.cells #[.int .i64 0, .slice a7 0 cap7] 24))
        have x0 := keepc hbb x0
        have x1 := keepc hbb x1
        have y0 := (crew_box2 (w := w7) (F := 0) (v := .slice a7 0 cap7)).1
        have y1 := (crew_box2 (w := w7) (F := 0) (v := .slice a7 0 cap7)).2
        have I7 := Lib.hid (I7.alloc (.cells #[.int .i64 0, .slice a7 0 cap7] 24))
        have I6 := Lib.hid (I6.out.below hbb)
        have HBB := Lib.hid (Below.step HBB.out hbb)
        clear hO7 hb7 hbb
        go_wp2_with fail
        generalize (w7.alloc (.cells #[.int .i64 0, .slice a7 0 cap7] 24)) = v7 at *
        refine Calls.mono (same_true (f := 0) (f' := 0) (l := []) (l' := []) rfl rfl a6 a7 cap6 cap7 _ I6.out I7.out) ?_
        rintro e w8 ⟨rfl, hb8⟩
        have HBB := Lib.hid (Below.step HBB.out hb8)
        clear hb8
        go_wp2
        go_ret
        exact ⟨ret_bool (by simp; omega), HBB.out⟩
end Go.Proofs.Ytldcpnabgpjgiaa.Walks
