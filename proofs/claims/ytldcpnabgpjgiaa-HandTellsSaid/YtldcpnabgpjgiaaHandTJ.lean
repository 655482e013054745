/-
  The document's Order.
-/
import Derived.Test.YtldcpnabgpjgiaaHandTH
import Derived.IntWalk
import Derived.Deep.RegionLaw
import Derived.Deep.AppendLies
namespace Go.Proofs.Ytldcpnabgpjgiaa.WalksT
open Go.Proofs.Ytldcpnabgpjgiaa.Walks
open Go.RowKit Plain
set_option linter.unusedVariables false

theorem RefX.len2 {w : World} {p base : Nat} {B : Nat → Prop} {f : Int} {l : List Int} {O : List (Int × Int × List Int)} {E : List (Int × Int × Int × Int)} (h : RefX w p base B f l O E) :
    ∃ a cap, w.cell? ⟨p, 2, none⟩ = some (.slice a O.length cap) := by
  by_cases h0 : 0 < O.length
  · obtain ⟨g, cap, h1, _⟩ := h.orders h0
    exact ⟨_, _, h1⟩
  · obtain rfl : O = [] := List.eq_nil_of_length_eq_zero (by omega)
    obtain ⟨v, h1, a, cap, rfl⟩ := h.noOrders
    exact ⟨_, _, h1⟩
theorem orderE_has {f : Int} {l : List Int} {O : List (Int × Int × List Int)} {n e : Int} {m : List Int} (h : hasC f l n = false) : orderE f l O n e m = 110 ∧ orderO f l O n e m = O := by
  simp [orderE, orderO, mayO, h]
theorem orderE_ep {f : Int} {l : List Int} {O : List (Int × Int × List Int)} {n e : Int} {m : List Int} (h : hasC f l n = true) (h1 : ¬ (1 ≤ e ∧ e ≤ 1048576)) : orderE f l O n e m = 171 ∧ orderO f l O n e m = O := by
  refine ⟨by simp [orderE, h, h1], ?_⟩
  have : (decide (1 ≤ e) && decide (e ≤ 1048576)) = false := by rw [← Bool.decide_and, decide_eq_false_iff_not]; exact h1
  simp [orderO, mayO, this]
theorem orderE_bad {f : Int} {l : List Int} {O : List (Int × Int × List Int)} {n e : Int} {m : List Int} (h : hasC f l n = true) (h1 : 1 ≤ e) (h2 : e ≤ 1048576) (h3 : goodC f m = false) : orderE f l O n e m = 2 ∧ orderO f l O n e m = O := by
  simp [orderE, orderO, mayO, h, h1, h2, h3]
theorem orderE_old {f : Int} {l : List Int} {O : List (Int × Int × List Int)} {n e : Int} {m : List Int} (h : hasC f l n = true) (h1 : 1 ≤ e) (h2 : e ≤ 1048576) (h3 : goodC f m = true) (h4 : (ordOf O n e).isSome = true) : orderE f l O n e m = 0 ∧ orderO f l O n e m = O := by
  simp [orderE, orderO, mayO, h, h1, h2, h3, h4]
theorem orderE_full {f : Int} {l : List Int} {O : List (Int × Int × List Int)} {n e : Int} {m : List Int} (h : hasC f l n = true) (h1 : 1 ≤ e) (h2 : e ≤ 1048576) (h3 : goodC f m = true) (h4 : ordOf O n e = none) (h5 : ordN O n = 64) : orderE f l O n e m = 7 ∧ orderO f l O n e m = O := by
  simp [orderE, orderO, mayO, h, h1, h2, h3, h4, h5]

theorem orderE_put {f : Int} {l : List Int} {O : List (Int × Int × List Int)} {n e : Int} {m : List Int} (h : hasC f l n = true) (h1 : 1 ≤ e) (h2 : e ≤ 1048576) (h3 : goodC f m = true) (h4 : ordOf O n e = none) (h5 : ordN O n ≠ 64) : orderE f l O n e m = 0 ∧ orderO f l O n e m = O ++ [(n, e, m)] := by
  simp [orderE, orderO, mayO, h, h1, h2, h3, h4, h5]
set_option maxRecDepth 100000 in
theorem info147 : (Try.prog.info? 147).map (fun i => (i.zero, i.size, i.bytes)) = some (some (.agg #[.int .i64 0, .int .i64 0, .slice none 0 0]), 3, 40) := by kernel_rfl
/-- append(orders, one), in a region that draws its order. -/
theorem step_append_order {ops : Array Oper} {o : Oper} {a : Act} {w : World} {K : Act → World → Prop} {Q : Exit → Act → World → Prop} {X : Prop} (hgd : o.guard = none) (s x : Operand)
    (ho : o.op = .call { callee := .builtin .append, args := #[s, x], argTypes := #[139, 139] }) (base : Nat) (v : Value) (k : Nat) (xs : List Value) (hs : a.eval s = v) (hown : w.ownsRow base 147 3 v k xs)
    (gb : Nat) (n0 e0 : Int) (ad : Option Addr) (len cap : Nat) (hx : a.eval x = .slice (some ⟨gb, 0, none⟩) 1 1) (hb : w.heap[gb]? = some (.cells #[.int .i64 n0, .int .i64 e0, .slice ad len cap] 147 (0, 0)))
    (hk : k ≤ 1000) (hbase : base ≤ w.heap.size)
    (h : ∀ g cap' w', w'.ownsRow base 147 3 (.slice (some ⟨g, 0, none⟩) (k + 1) cap') (k + 1) (xs ++ [.int .i64 n0, .int .i64 e0, .slice ad len cap]) → w.grownBy w' v.ownBlock → (v.ownBlock = some g ∨ g = w.heap.size) → g < w'.heap.size → K (a.put o.dst (.slice (some ⟨g, 0, none⟩) (k + 1) cap')) w') :
    if Region.wanted o (yielded ops a.tmps) = true then Oper.wp Try.prog o a w K Q else X := by
  obtain ⟨i0, hi, hz0, hz1, hz2⟩ : ∃ i, Try.prog.info? 147 = some i ∧ i.zero = some (.agg #[.int .i64 0, .int .i64 0, .slice none 0 0]) ∧ i.size = 3 ∧ i.bytes = 40 := by
    have := info147
    cases hi : Try.prog.info? 147 with
    | none => rw [hi] at this; cases this
    | some i =>
      rw [hi] at this
      simp only [Option.map_some, Option.some.injEq, Prod.mk.injEq] at this
      exact ⟨i, rfl, this.1, this.2.1, this.2.2⟩
  exact step_append_lies w hgd s x 139 ho base 147 i0 _ 3 40 Try.underlying139 hi hz0 hz1 hz2 rfl (by decide) v k xs hs hown ⟨gb, 0, none⟩ 1 1 [.int .i64 n0, .int .i64 e0, .slice ad len cap] hx rfl (World.news_of_block hb)
    (by intro u hu; simp at hu; rcases hu with rfl | rfl | rfl <;> rfl) (by decide) (by unfold maxLen; omega) (by omega) hbase w.heap.size rfl h

set_option maxRecDepth 100000 in
set_option maxHeartbeats 4000000 in
theorem refOrder_any (p base : Nat) (B : Nat → Prop) (f : Int) (l : List Int) (O : List (Int × Int × List Int)) (E : List (Int × Int × Int × Int)) (n e : Int) (a : Option Addr) (cap : Nat) (m : List Int) (w : World)
    (hR : RefX w p base B f l O E) (hI : Ints w a m) (hc : a = none → cap = 0) (hr : m.length ≤ 17592186044415) (hB : ∀ b, w.heap.size ≤ b → ¬ B b) (hO : O.length ≤ 1000) (hbase : base ≤ w.heap.size) :
    Calls Try.prog 35 #[.pointer (some ⟨p, 0, none⟩), .int .i64 n, .int .i64 e, .slice a m.length cap] w
      fun e' w' => e' = .returned (.int .i64 (orderE f l O n e m)) ∧ RefX w' p base B f l (orderO f l O n e m) E ∧ Below base w w' ∧ RefGo p w w' := by
  have HP := Lib.hid hR.lt
  have HR := Lib.hid hR
  have HI := Lib.hid hI
  have HC := Lib.hid hc
  have HBB := Lib.hid hB
  have c0 := hR.c0
  obtain ⟨al, capl, c1, i1, _, _⟩ := hR.c1
  have HL := Lib.hid i1
  obtain ⟨q, hq⟩ : ∃ q, q = hasC f l n := ⟨_, rfl⟩
  have HQ := Lib.hid hq
  clear hR hI hc hB i1 hq
  go_enter Try.func35, Try.ntmps35
  go_wp2_with fail
  refine Calls.mono (refHas_any f al capl l n _ HL.out) ?_
  rintro e1 w1 ⟨rfl, hb1⟩
  have HB1 := Lib.hid hb1
  have HR1 := Lib.hid (HR.out.below hb1)
  have HI1 := Lib.hid (HI.out.below hb1)
  have c0 := keepc hb1 c0
  rw [← HQ.out]
  clear hb1 HL
  cases q with
  | false =>
    go_wp2
    go_ret
    obtain ⟨x1, x2⟩ := orderE_has (O := O) (e := e) (m := m) HQ.out.symm
    exact ⟨ret_int x1.symm, by rw [x2]; exact HR1.out, HB1.out.mono hbase, RefGo.of_below HP.out HB1.out⟩
  | true =>
    by_cases he1 : 1 ≤ e
    case neg =>
      have he1' : e < 1 := by omega
      go_wp2
      go_ret
      obtain ⟨x1, x2⟩ := orderE_ep (O := O) (e := e) (m := m) HQ.out.symm (by omega)
      exact ⟨ret_int x1.symm, by rw [x2]; exact HR1.out, HB1.out.mono hbase, RefGo.of_below HP.out HB1.out⟩
    by_cases he2 : e ≤ 1048576
    case neg =>
      have he2' : 1048576 < e := by omega
      have he1' : ¬ e < 1 := by omega
      go_wp2
      go_ret
      obtain ⟨x1, x2⟩ := orderE_ep (O := O) (e := e) (m := m) HQ.out.symm (by omega)
      exact ⟨ret_int x1.symm, by rw [x2]; exact HR1.out, HB1.out.mono hbase, RefGo.of_below HP.out HB1.out⟩
    have he1' : ¬ e < 1 := by omega
    have he2' : ¬ 1048576 < e := by omega
    go_wp2_with fail
    refine Calls.mono (refCheck_any f a cap m _ HI1.out) ?_
    rintro e1 w2 ⟨rfl, hb2⟩
    have HB2 := Lib.hid (Below.step HB1.out hb2)
    have HR2 := Lib.hid (HR1.out.below hb2)
    have HI2 := Lib.hid (HI1.out.below hb2)
    clear hb2 c0
    cases hg : goodC f m with
    | false =>
      have he := errC_bad hg
      have HG := Lib.hid hg
      rw [he]
      clear he hg
      go_wp2
      go_ret
      obtain ⟨x1, x2⟩ := orderE_bad (O := O) HQ.out.symm he1 he2 HG.out
      exact ⟨ret_int x1.symm, by rw [x2]; exact HR2.out, HB2.out.mono hbase, RefGo.of_below HP.out HB2.out⟩
    | true =>
      have he := errC_good hg
      have HG := Lib.hid hg
      rw [he]
      clear he hg
      obtain ⟨a2, cap2, hc2⟩ := HR2.out.len2
      go_wp2_with fail
      go_loop [9, 10] (fun mv iv => ∃ k : Nat, k ≤ O.length ∧ iv = .int .i64 k ∧ mv = .int .i64 (ordN (O.take k) n : Nat) ∧ Hid (ordOf (O.take k) n e = none)) (fun _ iv => O.length - (intOf iv).toNat)
      case atStart => exact ⟨0, by omega, rfl, rfl, Lib.hid rfl⟩
      case round =>
        obtain ⟨k, hk, rfl, rfl, HN⟩ := hrel
        have hle1 : ordN (O.take k) n ≤ k := by unfold ordN; exact Nat.le_trans (List.length_filter_le _ _) (by simp; omega)
        by_cases hlt : k < O.length
        · clear hc2
          obtain ⟨g, gcap, hv, hle, hmx, hat⟩ := HR2.out.orders (by omega)
          obtain ⟨y0, y1, _⟩ := hat k hlt
          obtain ⟨x, hx⟩ : ∃ x, x = O[k].1 := ⟨_, rfl⟩
          obtain ⟨y, hy⟩ : ∃ y, y = O[k].2.1 := ⟨_, rfl⟩
          rw [← hx] at y0
          rw [← hy] at y1
          have s1 := ordN_take_succ hlt n
          rw [← hx] at s1
          obtain ⟨M, hM⟩ : ∃ M, M = ordN (O.take k) n := ⟨_, rfl⟩
          rw [← hM] at s1 hle1 ⊢
          have HX := Lib.hid hx
          have HY := Lib.hid hy
          have S1 := Lib.hid s1
          clear hat hx hy hM s1
          by_cases hxn : x = n
          · by_cases hye : y = e
            · go_wp2
              go_ret
              obtain ⟨x1, x2⟩ := orderE_old (O := O) HQ.out.symm he1 he2 HG.out (ordOf_isSome hlt ⟨HX.out ▸ hxn, HY.out ▸ hye⟩)
              exact ⟨ret_int x1.symm, by rw [x2]; exact HR2.out, HB2.out.mono hbase, RefGo.of_below HP.out HB2.out⟩
            · go_wp2
              go_round
              case rel => exact ⟨k + 1, by omega, by go_num, by rw [S1.out, if_pos hxn]; rfl, Lib.hid (ordOf_take_none hlt HN.out (fun hh => hye (HY.out.trans hh.2)))⟩
              case measure => simp [intOf]; omega
          · go_wp2
            go_round
            case rel => exact ⟨k + 1, by omega, by go_num, by rw [S1.out, if_neg hxn]; rfl, Lib.hid (ordOf_take_none hlt HN.out (fun hh => hxn (HX.out.trans hh.1)))⟩
            case measure => simp [intOf]; omega
        · have hk2 : k = O.length := by omega
          subst hk2
          have HN2 : Hid (ordOf O n e = none) := Lib.hid (by have := HN.out; rwa [List.take_length] at this)
          rw [List.take_length] at hle1 ⊢
          obtain ⟨M, hM⟩ : ∃ M, M = ordN O n := ⟨_, rfl⟩
          rw [← hM] at hle1 ⊢
          have HM := Lib.hid hM
          clear hM HN
          by_cases hm : M = 64
          · have hmi : (M : Int) = 64 := by omega
            go_wp2
            go_ret
            obtain ⟨x1, x2⟩ := orderE_full (O := O) HQ.out.symm he1 he2 HG.out HN2.out (HM.out.symm.trans hm)
            exact ⟨ret_int x1.symm, by rw [x2]; exact HR2.out, HB2.out.mono hbase, RefGo.of_below HP.out HB2.out⟩
          · have hmi : ¬ (M : Int) = 64 := by omega
            obtain ⟨v2, xs2, hv, o2, o3, o4⟩ := HR2.out.c2
            have hfz := HR2.out.z2
            have hpl : p < w2.heap.size := block_lt_of_cell hv
            have H4 := Lib.hid o4
            have hBz := HB2.out.mono hbase
            have hi2 := HI2.out
            obtain rfl : v2 = .slice a2 O.length cap2 := by rw [hc2] at hv; exact (Option.some.inj hv).symm
            clear hc2 o4
            have HO3 := Lib.hid o3
            clear o3
            go_wp2_with fail
            go_region_law
              ((first
                | (go_simp; go_at_call 33; (with_reducible refine Calls.mono (copyInts_any a cap m _ ?_ HC.out ?_) ?_); (first | exact hi2 | exact hi2.drew); omega; rintro e1 wd ⟨a5, cap5, rfl, hO5, hb5⟩; have hb5 : Below w2.heap.size w2 wd := (by first | exact hb5 | exact Below.step (Below.refl _ _).drew hb5); have hbd : base ≤ wd.heap.size := Nat.le_trans hbase (Nat.le_trans HB2.out.size hb5.size); have hpd : p < wd.heap.size := Nat.lt_of_lt_of_le hpl hb5.size; have hvd := keepc hb5 hv)
                | (refine step_append_order rfl _ _ rfl base (.slice a2 O.length cap2) O.length xs2 (by rfl) (ownsRow_below o2 (by first | exact Below.step hb5 (Below.new _ _) | exact Below.step hb5 ((Below.new _ _).drew))) wd.heap.size n e a5 m.length cap5 (by rfl) (heap_alloc_new wd _) hO (by simp; omega) ?_; intro g5 c5 w5 hown hgr hat hg5; have hv5 : w5.cell? ⟨p, 2, none⟩ = some (.slice a2 O.length cap2) := (hgr.cell_far ⟨p, 2, none⟩ (by simp; omega) (fun hh => (HO3.out _ hh.symm).1 rfl)).trans (by first | exact keepc (Below.step hb5 (Below.new _ _)) hv | exact keepc (Below.step hb5 ((Below.new _ _).drew)) hv); have hfz5 : w5.frozen? ⟨p, 2, none⟩ = false := (hgr.frozen_far ⟨p, 2, none⟩ (by simp; omega) (fun hh => (HO3.out _ hh.symm).1 rfl)).trans (by first | exact keepf (Below.step hb5 (Below.new _ _)) hpl hfz | exact keepf (Below.step hb5 ((Below.new _ _).drew)) hpl hfz))))
            all_goals
              go_wp2
              go_ret
              obtain ⟨x1, x2⟩ := orderE_put HQ.out.symm he1 he2 HG.out HN2.out (by rw [← HM.out]; exact hm)
              have hI5 := Own.ints hO5 (by omega)
              obtain ⟨r1, r2, r3⟩ := RefX.appended2 HR2.out (by first | exact Below.step hb5 (Below.new _ _) | exact Below.step hb5 ((Below.new _ _).drew)) (by first | exact hI5.alloc _ | exact (hI5.alloc _).drew) (fun x hx => Own.base_le hO5 hx) (fun b hb => HBB.out b (Nat.le_trans HB2.out.size hb)) (Own.nocap hO5) hv o2 HO3.out H4.out hown hgr hat rfl
              exact ⟨ret_int x1.symm, by rw [x2]; exact r1, (HB2.out.mono hbase).trans r2, (RefGo.of_below HP.out HB2.out).trans r3⟩
end Go.Proofs.Ytldcpnabgpjgiaa.WalksT
