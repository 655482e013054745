/-
  The walk of Hand.Order.
-/
import Derived.Test.YtldcpnabgpjgiaaHandTB
namespace Go.Proofs.Ytldcpnabgpjgiaa.WalksT
open Go.Proofs.Ytldcpnabgpjgiaa.Walks
open Go.RowKit Plain
set_option linter.unusedVariables false

theorem key_box {w : World} {x y : Value} : (w.alloc (.cells #[x, y] 144)).cell? ⟨w.heap.size, 0, none⟩ = some x ∧ (w.alloc (.cells #[x, y] 144)).cell? ⟨w.heap.size, 1, none⟩ = some y :=
  ⟨cell_of_row _ _ 0 _ _ _ (heap_alloc_new _ _), cell_of_row _ _ 1 _ _ _ (heap_alloc_new _ _)⟩
theorem crew_boxF {w : World} {x y : Value} : (w.alloc (.cells #[x, y] 24)).frozen? ⟨w.heap.size, 0, none⟩ = false ∧ (w.alloc (.cells #[x, y] 24)).frozen? ⟨w.heap.size, 1, none⟩ = false :=
  ⟨frozen_of_row _ _ 0 _ _ (heap_alloc_new _ _), frozen_of_row _ _ 1 _ _ (heap_alloc_new _ _)⟩
theorem crew_box2 {w : World} {F : Int} {v : Value} : (w.alloc (.cells #[.int .i64 F, v] 24)).cell? ⟨w.heap.size, 0, none⟩ = some (.int .i64 F) ∧ (w.alloc (.cells #[.int .i64 F, v] 24)).cell? ⟨w.heap.size, 1, none⟩ = some v :=
  ⟨cell_of_row _ _ 0 _ _ _ (heap_alloc_new _ _), cell_of_row _ _ 1 _ _ _ (heap_alloc_new _ _)⟩

theorem order_stay {w : World} {q : HLoc} {N : Nat} {f : Int} {l : List Int} {O : List (Int × Int × List Int)} {E : List (Int × Int × Int × Int)} {n e : Int} {m : List Int} (h : HandX w q N f l O O O E E) (hm : mayO f l O n e m = false) : HandAt w q (N + 3) f l (orderO f l O n e m) E := by
  rw [show orderO f l O n e m = O by simp [orderO, hm]]
  exact h.mono (by omega) fun _ => rfl
theorem ints_setCell_far {w : World} {a : Option Addr} {l : List Int} (h : Ints w a l) {g : Nat} (hg : ∀ ad, a = some ad → ad.block ≠ g) (k : Nat) (v : Value) : Ints (w.setCell ⟨g, k, none⟩ v) a l := by
  refine ⟨h.1, ?_⟩
  rcases h.2 with rfl | ⟨b, off, rfl, hc⟩
  · exact .inl rfl
  · exact .inr ⟨b, off, rfl, fun i hi => by
      rw [World.cell?_setCell_other _ _ _ _ (by intro hh; have := hg _ rfl; simp at hh this; omega)]
      exact hc i hi⟩
theorem order_went {w : World} {q : HLoc} {N : Nat} {f : Int} {l : List Int} {O : List (Int × Int × List Int)} {E : List (Int × Int × Int × Int)} {n e : Int} {m : List Int} (h : HandX w q (N + 1 + 1) f l (O ++ [(n, e, m)]) (O ++ [(n, e, m)]) O E E)
    (hm : mayO f l O n e m = true) (hc : ¬ (crewOf f O e = none ∧ f + 1 ≤ (tellers (O ++ [(n, e, m)]) l e m : Int))) : HandAt w q (N + 3) f l (orderO f l O n e m) E := by
  rw [show orderO f l O n e m = O ++ [(n, e, m)] by simp [orderO, hm]]
  exact h.mono (by omega) fun e' => by rw [crew_step h.good h.inv, if_neg (fun hh => hc hh.2)]
theorem order_full {w : World} {q : HLoc} {N : Nat} {f : Int} {l : List Int} {O : List (Int × Int × List Int)} {E : List (Int × Int × Int × Int)} {n e : Int} {m : List Int} (h : HandX w q (N + 1 + 1 + 1) f l (O ++ [(n, e, m)]) (O ++ [(n, e, m)]) (O ++ [(n, e, m)]) E E)
    (hm : mayO f l O n e m = true) : HandAt w q (N + 3) f l (orderO f l O n e m) E := by
  rw [show orderO f l O n e m = O ++ [(n, e, m)] by simp [orderO, hm]]
  exact h
theorem crew_hit {f n e : Int} {l m : List Int} {O : List (Int × Int × List Int)} (hg : goodC f l = true) (hI : OInv f l (O ++ [(n, e, m)])) (h1 : false = (crewOf f O e).isSome) (h2 : f + 1 ≤ (tellers (O ++ [(n, e, m)]) l e m : Int)) (e' : Int) :
    crewOf f (O ++ [(n, e, m)]) e' = if e' = e then some m else crewOf f O e' := by
  have h3 : crewOf f O e = none := by cases hc : crewOf f O e with
    | none => rfl
    | some r => rw [hc] at h1; cases h1
  rw [crew_step hg hI]
  simp [h3, h2]
theorem mayO_mk {f : Int} {l : List Int} {O : List (Int × Int × List Int)} {n e : Int} {m : List Int} (h1 : hasC f l n = true) (h2 : 1 ≤ e) (h3 : e ≤ 1048576) (h4 : goodC f m = true) (h5 : false = (ordOf O n e).isSome) (h6 : ¬ ordN O n = 64) : mayO f l O n e m = true := by
  simp [mayO, h1, h2, h3, h4, ← h5, h6]
theorem orderE_mk {f : Int} {l : List Int} {O : List (Int × Int × List Int)} {n e : Int} {m : List Int} (h1 : hasC f l n = true) (h2 : 1 ≤ e) (h3 : e ≤ 1048576) (h4 : goodC f m = true) (h5 : false = (ordOf O n e).isSome) (h6 : ¬ ordN O n = 64) : orderE f l O n e m = 0 := by
  simp [orderE, h1, h2, h3, h4, ← h5, h6]
theorem good_short {f : Int} {l : List Int} (h : goodC f l = true) : l.length ≤ 7 := by have := goodC_len h; omega

set_option maxRecDepth 100000 in
set_option maxHeartbeats 4000000 in
theorem order_any (q : HLoc) (N : Nat) (f : Int) (l : List Int) (O : List (Int × Int × List Int)) (E : List (Int × Int × Int × Int)) (n e : Int) (a : Option Addr) (cap : Nat) (m : List Int) (w : World)
    (hH : HandAt w q N f l O E) (hN : N + 3 < maxLen) (hn : Wf n) (he : Wf e) (hI : Ints w a m) (hc : a = none → cap = 0) (hr : m.length ≤ 17592186044415) (hP : ∀ b, w.heap.size ≤ b → ¬ q.ban b) :
    Calls Try.prog 34 #[.pointer (some ⟨q.p, 0, none⟩), .int .i64 n, .int .i64 e, .slice a m.length cap] w
      fun e' w' => e' = .returned (.int .i64 (orderE f l O n e m)) ∧ HandAt w' q (N + 3) f l (orderO f l O n e m) E ∧ Only q.R w w' := by
  have HN := Lib.hid hN
  have HPP := Lib.hid hP
  clear hP
  have HI := Lib.hid hI
  have HC := Lib.hid hc
  have c0 := hH.c0
  have c2 := hH.c2
  have hmm := hI.1
  have HH := Lib.hid hH
  clear hH hI hN hc
  go_enter Try.func34, Try.ntmps34
  go_wp2_with fail
  refine Calls.mono (none_any q.p (some q.r1) _ c2) ?_
  rintro e0 w' ⟨rfl, rfl⟩
  go_wp2_with fail
  clear c0 c2
  obtain ⟨w2, hw2⟩ : ∃ w2, w2 = (w.alloc (.cells #[.int .i64 f, .slice a m.length cap] 24)).alloc (.cells #[.int .i64 n, .int .i64 e] 144) := ⟨_, rfl⟩
  have hb2 : Below w.heap.size w w2 := by rw [hw2]; exact (Below.new w _).alloc (by simp) _
  have hz2 : w.heap.size + 1 < w2.heap.size := by rw [hw2]; simp
  have b0 : w2.cell? ⟨w.heap.size, 0, none⟩ = some (.int .i64 f) := by rw [hw2]; exact keepc (Below.new _ _) crew_box2.1
  have b1 : w2.cell? ⟨w.heap.size, 1, none⟩ = some (.slice a m.length cap) := by rw [hw2]; exact keepc (Below.new _ _) crew_box2.2
  have k0 : w2.cell? ⟨w.heap.size + 1, 0, none⟩ = some (.int .i64 n) := by rw [hw2]; exact (by simp : (w.alloc (.cells #[.int .i64 f, .slice a m.length cap] 24)).heap.size = w.heap.size + 1) ▸ (key_box (w := w.alloc (.cells #[.int .i64 f, .slice a m.length cap] 24)) (x := .int .i64 n) (y := .int .i64 e)).1
  have k1 : w2.cell? ⟨w.heap.size + 1, 1, none⟩ = some (.int .i64 e) := by rw [hw2]; exact (by simp : (w.alloc (.cells #[.int .i64 f, .slice a m.length cap] 24)).heap.size = w.heap.size + 1) ▸ (key_box (w := w.alloc (.cells #[.int .i64 f, .slice a m.length cap] 24)) (x := .int .i64 n) (y := .int .i64 e)).2
  have bf : w2.frozen? ⟨w.heap.size, 1, none⟩ = false := by rw [hw2]; exact keepf (Below.new _ _) (by simp) crew_boxF.2
  rw [← hw2]
  clear hw2
  have H2 := Lib.hid (HH.out.below hb2)
  have HI2 := Lib.hid (HI.out.below hb2)
  have HO := Lib.hid hb2
  have c2 := H2.out.c2
  obtain ⟨x, hlk⟩ := H2.out.told1 hn he
  obtain ⟨told, ht⟩ : ∃ t, t = (ordOf O n e).isSome := ⟨_, rfl⟩
  rw [← ht] at hlk
  have HT := Lib.hid ht
  clear ht hb2
  obtain ⟨al, capl, c1, i1, -⟩ := H2.out.c1
  have c0 := H2.out.c0
  have HI1 := Lib.hid i1
  have hl7 := good_short HH.out.good
  clear i1
  go_quiet (fail)
  go_wp2_with fail
  refine Calls.mono (has_any f al capl l n _ (HI1.out.below (below_drewN (Below.refl _ _) _)) (by omega)) ?_
  rintro e1 w3 ⟨rfl, hb3⟩
  have hb3' : Below w2.heap.size w2 w3 := Below.step (below_drewN (Below.refl _ _) nq) hb3
  have H3 := Lib.hid (H2.out.below hb3')
  have HI3 := Lib.hid (HI2.out.below hb3')
  have HO3 := Lib.hid (Below.step HO.out hb3')
  have b0 := keepc hb3' b0
  have b1 := keepc hb3' b1
  have k0 := keepc hb3' k0
  have k1 := keepc hb3' k1
  have bf := keepf hb3' (by simp; omega) bf
  have c4 := H3.out.c4
  have hlk3 := H3.out.look3 hn
  have hz3 : w.heap.size + 1 < w3.heap.size := by have := hb3'.size; omega
  clear hb3 hb3' c2 c1 c0 hlk
  cases hq : hasC f l n with
  | false =>
    have HQ := Lib.hid hq
    clear hq
    go_wp2
    go_ret
    exact ⟨ret_int (by simp [orderE, HQ.out]), order_stay H3.out (by simp [mayO, HQ.out]), Only.of_below HO3.out⟩
  | true =>
    have HQ := Lib.hid hq
    clear hq
    by_cases he1 : 1 ≤ e
    case neg =>
      go_wp2
      go_ret
      exact ⟨ret_int (by simp [orderE, HQ.out, show ¬ 1 ≤ e by omega]), order_stay H3.out (by simp [mayO, show ¬ 1 ≤ e by omega]), Only.of_below HO3.out⟩
    by_cases he2 : e ≤ 1048576
    case neg =>
      go_wp2
      go_ret
      exact ⟨ret_int (by simp [orderE, HQ.out, show ¬ e ≤ 1048576 by omega]), order_stay H3.out (by simp [mayO, show ¬ e ≤ 1048576 by omega]), Only.of_below HO3.out⟩
    go_wp2_with fail
    refine Calls.mono (check_any f a cap m _ HI3.out) ?_
    rintro e1 w4 ⟨rfl, hb4⟩
    have H4 := Lib.hid (H3.out.below hb4)
    have HI4 := Lib.hid (HI3.out.below hb4)
    have HO4 := Lib.hid (Below.step HO3.out hb4)
    have b0 := keepc hb4 b0
    have b1 := keepc hb4 b1
    have k0 := keepc hb4 k0
    have k1 := keepc hb4 k1
    have bf := keepf hb4 (by simp; omega) bf
    have c4 := H4.out.c4
    have hlk3 := H4.out.look3 hn
    have hz4 : w.heap.size + 1 < w4.heap.size := by have := hb4.size; omega
    cases hg : goodC f m with
    | false =>
      have HG := Lib.hid hg
      rw [errC_bad hg]
      clear hg
      go_wp2
      go_ret
      exact ⟨ret_int (by simp [orderE, HQ.out, HG.out, he1, he2]), order_stay H4.out (by simp [mayO, HG.out]), Only.of_below HO4.out⟩
    | true =>
      have HG := Lib.hid hg
      rw [errC_good hg]
      clear hg hb4 hz3
      cases told with
      | true =>
        go_wp2
        go_ret
        exact ⟨ret_int (by simp [orderE, HQ.out, HG.out, he1, he2, ← HT.out]), order_stay H4.out (by simp [mayO, ← HT.out]), Only.of_below HO4.out⟩
      | false =>
        by_cases hfull : ordN O n = 64
        · have hf' : (((ordN O n : Nat) : Int) == 64) = true := by simp [hfull]
          have HF := Lib.hid hfull
          clear hfull
          go_wp2
          go_ret
          exact ⟨ret_int (by simp [orderE, HQ.out, HG.out, he1, he2, ← HT.out, HF.out]), order_stay H4.out (by simp [mayO, HF.out]), Only.of_below HO4.out⟩
        · have hf' : (((ordN O n : Nat) : Int) == 64) = false := by simp; omega
          go_wp2_with fail
          refine Calls.mono (clone_any a cap m _ HI4.out HC.out (by omega)) ?_
          rintro e1 w5 ⟨a', cap', rfl, hO5, hb5, _⟩
          have b0 := keepc hb5 b0
          have b1 := keepc hb5 b1
          have k0 := keepc hb5 k0
          have k1 := keepc hb5 k1
          have bf := keepf hb5 (by simp; omega) bf
          have HO5 := Lib.hid (Below.step HO4.out hb5)
          have I5 := Own.ints hO5 hmm
          have I6 := Lib.hid (ints_setCell_far I5 (g := w.heap.size) (fun ad had => by have := hO5.base_le had; omega) 1 (.slice a' m.length cap'))
          have N6 := Lib.hid (Own.nocap hO5)
          have HFR : Hid (Far q.ban a' m) := Lib.hid (.inr fun x hx => HPP.out _ (by have := hO5.base_le hx; omega))
          have hb6 : Below w.heap.size w (w5.setCell ⟨w.heap.size, 1, none⟩ (.slice a' m.length cap')) := HO5.out.setCell (by simp) _
          clear hO5 hb5 I5 c4 hlk3
          go_wp2_with fail
          have d0 : (w5.setCell ⟨w.heap.size, 1, none⟩ (.slice a' m.length cap')).cell? ⟨w.heap.size, 0, none⟩ = some (.int .i64 f) := by rw [World.cell?_setCell_other _ _ _ _ (by simp)]; exact b0
          have d1 : (w5.setCell ⟨w.heap.size, 1, none⟩ (.slice a' m.length cap')).cell? ⟨w.heap.size, 1, none⟩ = some (.slice a' m.length cap') := World.cell?_setCell_same _ _ _ b1
          have e0 : (w5.setCell ⟨w.heap.size, 1, none⟩ (.slice a' m.length cap')).cell? ⟨w.heap.size + 1, 0, none⟩ = some (.int .i64 n) := by rw [World.cell?_setCell_other _ _ _ _ (by simp)]; exact k0
          have e1' : (w5.setCell ⟨w.heap.size, 1, none⟩ (.slice a' m.length cap')).cell? ⟨w.heap.size + 1, 1, none⟩ = some (.int .i64 e) := by rw [World.cell?_setCell_other _ _ _ _ (by simp)]; exact k1
          generalize (w5.setCell ⟨w.heap.size, 1, none⟩ (.slice a' m.length cap')) = w6 at *
          clear b0 b1 k0 k1 bf
          have H6 := Lib.hid (HH.out.below hb6)
          have HI6 := Lib.hid (HI.out.below hb6)
          have HB6 := Lib.hid hb6
          have hinv : OInv f l (O ++ [(n, e, m)]) := HH.out.inv.snoc (by have := HQ.out; simp [hasC] at this; exact this.2) ⟨he1, he2⟩ HG.out (by have := HT.out; cases hc : ordOf O n e with
            | none => rfl
            | some r => rw [hc] at this; cases this) hfull
          obtain ⟨w7, hs7, H7, hg7⟩ := H6.out.drew.store1 (by have := HN.out; omega) (cap := cap') hn he I6.out HFR.out (by have := HT.out; cases hc : ordOf O n e with
            | none => rfl
            | some r => rw [hc] at this; cases this) hinv
          have c2 := H6.out.c2
          have hle := HH.out.inv.2.2 n
          have ho7 : Only q.R w6 w7 := (Only.of_below (Below.refl _ w6).drew).trans (Only.of_grown hg7 (by simp [HLoc.R]))
          have HO7 := Lib.hid ho7
          have HV := Lib.hid hinv
          clear hb6 hg7 hinv ho7
          go_region
          have H7h := Lib.hid H7
          have c4 := H7.c4
          have hlk3 := H7.look3 hn
          have d0 := HO7.out.cell (H6.out.notR d0) d0
          have d1 := HO7.out.cell (H6.out.notR d1) d1
          have I7 := Lib.hid (H6.out.keepI HO7.out I6.out)
          have HI7 := Lib.hid (H6.out.keepI HO7.out HI6.out)
          obtain ⟨w8, hs8, H8, hg8⟩ := H7.store3 (O3' := O ++ [(n, e, m)]) (by have := HN.out; omega) hn (fun n' => ordN_snoc O (n, e, m) n')
          have ho8 : Only q.R w7 w8 := Only.of_grown hg8 (by simp [HLoc.R])
          have d0 := ho8.cell (H7.notR d0) d0
          have d1 := ho8.cell (H7.notR d1) d1
          have I8 := Lib.hid (H7.keepI ho8 I7.out)
          have HI8 := Lib.hid (H7.keepI ho8 HI7.out)
          have HO8 := Lib.hid (HO7.out.trans ho8)
          have H8h := Lib.hid H8
          obtain ⟨al8, capl8, c1, i8, -⟩ := H8.c1
          have HL8 := Lib.hid i8
          have Hf8 := H8.c0
          have c2 := H8.c2
          clear H7 ho8 hg8 i8 hs7 H8 e0 e1'
          clear hlk3
          have hlk3 := H7h.out.look3 hn
          go_wp2_with fail
          have hm0 : m ≠ [] := by rintro rfl; have := goodC_len HG.out; simp at this; omega
          go_loopw [13, 91] (fun cv iv wr => ∃ k t : Nat, k ≤ l.length ∧ t ≤ k ∧ iv = .int .i64 k ∧ cv = .int .i64 t ∧ Hid (t = tellers (O ++ [(n, e, m)]) (l.take k) e m) ∧ Below w8.heap.size w8 wr) (fun _ iv _ => l.length - (intOf iv).toNat)
          case atStart => exact ⟨0, 0, by omega, by omega, rfl, rfl, Lib.hid (by simp [tellers]), Below.refl _ _⟩
          case round =>
            obtain ⟨k, t, hk, htk, rfl, rfl, HTK, hbr⟩ := hrel
            have HR := Lib.hid (H8h.out.below hbr)
            by_cases hlt : k < l.length
            · obtain ⟨b, off, rfl, hbb, hcl⟩ := (HL8.out.below hbr).at_lt hlt
              have hcell := hcl k hlt
              obtain ⟨y, hy⟩ : ∃ y, y = l[k] := ⟨_, rfl⟩
              rw [← hy] at hcell
              have hyw : Wf y := by have := good_mem HH.out.good y (hy ▸ List.getElem_mem _); exact Wf.of (by omega) (by omega)
              have c2 := HR.out.c2
              obtain ⟨a0, cap0, m0, hlk, hI0, hiff⟩ := HR.out.look1s (m := m) hyw he hm0
              have HI0 := Lib.hid hI0
              have HIm := Lib.hid (HI8.out.below hbr)
              have HY := Lib.hid hy
              have HIF := Lib.hid hiff
              clear hcl hy hI0 hiff
              go_wp2_with fail
              refine Calls.mono (equal_any a0 a cap0 cap m0 m _ HI0.out HIm.out) ?_
              rintro e1 w9 ⟨rfl, hb9⟩
              cases hd : decide (m0 = m) with
              | true =>
                have HD := Lib.hid hd
                clear hd
                go_wp2
                go_roundw
                case rel => exact ⟨k + 1, t + 1, by omega, by omega, by go_num, by go_num, Lib.hid (by rw [tellers_take_succ hlt, ← HY.out, if_pos (HIF.out.1 (of_decide_eq_true HD.out)), HTK.out]), Below.step hbr hb9⟩
                case measure => simp [intOf]; omega
              | false =>
                have HD := Lib.hid hd
                clear hd
                go_wp2
                go_roundw
                case rel => exact ⟨k + 1, t, by omega, by omega, by go_num, rfl, Lib.hid (by rw [tellers_take_succ hlt, ← HY.out, if_neg (fun h => of_decide_eq_false HD.out (HIF.out.2 h)), HTK.out]; rfl), Below.step hbr hb9⟩
                case measure => simp [intOf]; omega
            · have hkl : k = l.length := by omega
              have HTL : Hid (t = tellers (O ++ [(n, e, m)]) l e m) := Lib.hid (by rw [HTK.out, List.take_of_length_le (by omega)])
              clear hkl
              have c6 := HR.out.c6
              obtain ⟨F0, a0, n0, cap0, hlk5⟩ := HR.out.look5s he
              have c0 := HR.out.c0
              obtain ⟨al9, capl9, c1, i9, -⟩ := HR.out.c1
              have HI9 := Lib.hid i9
              have d0 := H8h.out.keep (Only.of_below hbr) d0
              have d1 := H8h.out.keep (Only.of_below hbr) d1
              have I9 := Lib.hid (I8.out.below hbr)
              have HO9 := Lib.hid (HO8.out.trans (Only.of_below hbr))
              obtain ⟨dn, hdn⟩ : ∃ d, d = (crewOf f O e).isSome := ⟨_, rfl⟩
              rw [← hdn] at hlk5
              have HDN := Lib.hid hdn
              have c2 := HR.out.c2
              clear i9 hdn
              have hp : q.p < wr.heap.size := block_lt_of_cell c0
              have hqz : w.heap.size < wr.heap.size := block_lt_of_cell d0
              have HF := Lib.hid hfull
              clear hfull
              cases dn with
              | true =>
                go_wp2
                go_ret
                refine ⟨ret_int (orderE_mk HQ.out he1 he2 HG.out HT.out HF.out).symm, order_went (HR.out.below (Below.new _ _)) (mayO_mk HQ.out he1 he2 HG.out HT.out HF.out) (fun h => by have := HDN.out; rw [h.1] at this; cases this), ?_⟩
                exact ((Only.of_below HB6.out).trans HO9.out).trans (Only.of_below (Below.new _ _))
              | false =>
                go_wp2_with fail
                have hb9 := Below.new wr (.cells #[.int .i64 F0, .slice a0 n0 cap0] 24)
                have d0 := keepc hb9 d0
                have d1 := keepc hb9 d1
                have H9 := Lib.hid (HR.out.below hb9)
                have I9 := Lib.hid (I9.out.below hb9)
                have HO9 := Lib.hid (HO9.out.trans (Only.of_below hb9))
                have HI9 := Lib.hid (HI9.out.below hb9)
                generalize (wr.alloc (.cells #[.int .i64 F0, .slice a0 n0 cap0] 24)) = w9 at *
                refine Calls.mono (some_any f al9 capl9 l _ HI9.out) ?_
                rintro e2 w10 ⟨rfl, hb10⟩
                have d0 := keepc hb10 d0
                have d1 := keepc hb10 d1
                have H10 := Lib.hid (H9.out.below hb10)
                have I10 := Lib.hid (I9.out.below hb10)
                have HO10 := Lib.hid (HO9.out.trans (Only.of_below hb10))
                have hsm : someC f l = f + 1 := by simp [someC, HH.out.good]
                rw [hsm]
                have hfb := goodC_len HH.out.good
                have hf0 := hfb.1
                have hf2 := hfb.2.1
                clear hb9 hb10 hsm hfb
                by_cases hmany : f + 1 ≤ (t : Int)
                · obtain ⟨w11, hs11, H11, hg11⟩ := H10.out.drew.store5 (O5' := O ++ [(n, e, m)]) (by have := HN.out; omega) he I10.out HFR.out N6.out (fun e' => crew_hit HH.out.good HV.out HDN.out (by rw [← HTL.out]; exact hmany) e')
                  have c6 := H10.out.c6
                  go_wp2_with fail
                  go_region
                  go_wp2
                  go_ret
                  refine ⟨ret_int (orderE_mk HQ.out he1 he2 HG.out HT.out HF.out).symm, order_full H11 (mayO_mk HQ.out he1 he2 HG.out HT.out HF.out), ?_⟩
                  exact (((Only.of_below HB6.out).trans HO10.out).trans (Only.of_below (Below.refl _ _).drew)).trans (Only.of_grown hg11 (by simp [HLoc.R]))
                · go_wp2
                  go_ret
                  refine ⟨ret_int (orderE_mk HQ.out he1 he2 HG.out HT.out HF.out).symm, order_went H10.out (mayO_mk HQ.out he1 he2 HG.out HT.out HF.out) (fun h => by have := HTL.out; omega), ?_⟩
                  exact (Only.of_below HB6.out).trans HO10.out
end Go.Proofs.Ytldcpnabgpjgiaa.WalksT
