/-
  A head of a plate is looked at.
-/
import Derived.Test.YtdhidcoglioalaaGreatM23
namespace Go.Proofs.YtdhidcoglioalaaGreat.Walks
open Go.RowKit Plain
set_option linter.unusedVariables false
attribute [local go_sem ↓] exec_load116 exec_store116 exec_alloc116 exec_load112 exec_store112 exec_alloc112 exec_build3 exec_build4 Go.wp_at_zero Go.wp_at_succ exec_load112T exec_store116T exec_load116T
attribute [local go_sem] isPt_mk adOf_mk isI_mk iOf_mk cellsV_mk sctL_length blkL_length setCells_drew oneN_sct oneN_blk oneN_fields roomN_new isRow_new cellL_new alloc_setN roomN_past isRow_past cellL_past roomN_drew isRow_drew cellL_drew setCells_size setCells_past

/-- The journal that a head tells. -/
def hdJ (d : Hd) : Jn := ⟨d.log, d.turn, d.at_, 0, d.next, fun _ => none, false⟩
theorem kind_one (b : Sec) : (((parseS b).kind == 1) = (b 0 == 1)) := by
  show ((((b 0).toNat : Int) == 1) = (b 0 == 1))
  have : ((b 0).toNat = 1) ↔ b 0 = 1#8 := ⟨fun h => BitVec.eq_of_toNat_eq h, fun h => by rw [h]; rfl⟩
  rw [Bool.eq_iff_iff]
  simp only [beq_iff_eq]
  constructor
  · intro h; exact this.1 (by omega)
  · intro h; have := this.2 h; omega
theorem cut_cut (b : Sec) (i n k m : Nat) (h : k + m ≤ n) : ((cutS b i n).drop k).take m = cutS b (i + k) m := by
  apply List.ext_getElem?
  intro x
  by_cases hx : x < m
  · rw [List.getElem?_take_of_lt hx, List.getElem?_drop]
    simp only [cutS, List.getElem?_map, List.getElem?_range hx, List.getElem?_range (show k + x < n by omega), Option.map_some]
    rw [Nat.add_assoc]
  · rw [List.getElem?_eq_none (by rw [List.length_take]; omega), List.getElem?_eq_none (by rw [cutS_length]; omega)]
theorem parse_data_bytes (b : Sec) : bytesB (parseS b).data = cutS b 8 48 := bytes_blk (cutS_length _ _ _)
/-- Some bytes of a sector's data, in memory. -/
theorem bys_data {w : World} {g : Nat} {b : Sec} (h : RowAt w ⟨g, 0, none⟩ (sctL (parseS b))) (k m : Nat) (hk : k + m ≤ 48) : Bys w (some ⟨g, 3 + k, none⟩) (cutS b (8 + k) m) := by
  have hl := cutS_length b (8 + k) m
  refine ⟨by omega, .inr ⟨g, 3 + k, rfl, fun i hi => ?_⟩⟩
  rw [hl] at hi
  have h1 : (sctL (parseS b))[3 + (k + i)]? = some (byteV (cutS b (8 + k) m)[i]) := by
    unfold sctL
    rw [show 3 + (k + i) = (k + i) + 1 + 1 + 1 by omega, List.getElem?_cons_succ, List.getElem?_cons_succ, List.getElem?_cons_succ]
    unfold blkL
    rw [parse_data_bytes, List.getElem?_map]
    simp [cutS, show k + i < 48 by omega, Nat.add_assoc]
  have := h.cell h1
  rw [show (0 : Nat) + (3 + (k + i)) = 3 + k + i by omega] at this
  exact this
theorem get_cut {w : World} {g : Nat} {b : Sec} (h : RowAt w ⟨g, 0, none⟩ (sctL (parseS b))) (k m cap o : Nat) (hk : k + m ≤ 48) (hm : m ≤ 7) (ho : o = 3 + k) : Calls Tryz.prog 49 #[.slice (some ⟨g, o, none⟩) m cap] w fun e w' => e = .returned (.int .i64 (getN (cutS b (8 + k) m))) ∧ w = w' := by
  subst ho
  have := get_n w _ _ m cap (cutS_length _ _ _) (bys_data h k m hk)
  rw [getV_small (by rw [cutS_length]; omega)] at this
  exact this
theorem jat_new (w : World) (q : PLoc) (l h a t : Nat) : JAt ((w.alloc (.map #[] 0)).alloc (.cells #[pv q, .int .i64 l, .int .i64 h, .int .i64 a, .int .i64 0, .int .i64 t, .map (some w.heap.size), .bool false] 33)).drew ⟨w.heap.size + 1, w.heap.size⟩ q ⟨l, h, a, 0, t, fun _ => none, false⟩ := by
  have hc : ∀ o, ((w.alloc (.map #[] 0)).alloc (.cells #[pv q, .int .i64 l, .int .i64 h, .int .i64 a, .int .i64 0, .int .i64 t, .map (some w.heap.size), .bool false] 33)).drew.cell? ⟨w.heap.size + 1, o, none⟩ = #[pv q, .int .i64 l, .int .i64 h, .int .i64 a, .int .i64 0, .int .i64 t, .map (some w.heap.size), .bool false][o]? := fun o => by
    have := cell_new (w.alloc (.map #[] 0)) #[pv q, .int .i64 l, .int .i64 h, .int .i64 a, .int .i64 0, .int .i64 t, .map (some w.heap.size), .bool false] 33 o
    rw [World.size_alloc] at this
    exact this
  refine ⟨hc 0, hc 1, hc 2, hc 3, hc 4, hc 5, hc 6, hc 7, fun i => ?_, ?_⟩
  · have := frozen_new (w.alloc (.map #[] 0)) #[pv q, .int .i64 l, .int .i64 h, .int .i64 a, .int .i64 0, .int .i64 t, .map (some w.heap.size), .bool false] 33 i
    rw [World.size_alloc] at this
    exact this
  · show IM EB _ w.heap.size (pmap fun _ => none)
    rw [pmap_none]
    exact (IM.new EB w).block (w' := ((w.alloc (.map #[] 0)).alloc _).drew) (heap_alloc_lt (by simp))
theorem z108 : (Tryz.prog.info? 33).map (·.size) = some 8 := by kernel_rfl
set_option maxRecDepth 10000 in
set_option maxHeartbeats 2000000 in
theorem headAt_any (w : World) (q : PLoc) (P : Pl) (h : PlateAt w q P) (i : Nat) : Calls Tryz.prog 34 #[pv q, .int .i64 i] w fun e w' => (∃ v, e = .returned (.tuple #[v, .bool (headAt P i).isSome]) ∧ ∀ d, headAt P i = some d → ∃ g m, v = .pointer (some ⟨g, 0, none⟩) ∧ w.heap.size ≤ g ∧ w.heap.size ≤ m ∧ JAt w' ⟨g, m⟩ q (hdJ d)) ∧ Below w.heap.size w w' := by
  by_cases h0 : P.has i = 0
  · obtain ⟨hd, _, hn⟩ := Pl.has_zero h0
    have hRd := read_ok w q P h i (by omega) hd
    obtain ⟨s, hs⟩ : ∃ s, s = P.seen i := ⟨_, rfl⟩
    rw [← hs] at hRd
    have HA : Hid (headAt P i = if hdOk P.n s = true then some (hdOf s) else none) := Lib.hid (by
      unfold headAt
      rw [hs, h0]
      by_cases e : hdOk P.n (P.seen i) = true <;> simp [e])
    have HRd := Lib.hid hRd
    have H := Lib.hid h
    obtain ⟨N, hN⟩ : ∃ N, N = P.n := ⟨_, rfl⟩
    have hN4 : N ≤ 4096 := by have := h.ok.most; omega
    have HN := Lib.hid hN
    rw [← hN] at HA
    clear hRd h h0 hd hn hs hN
    go_enter Tryz.func34, Tryz.ntmps34
    go_wp2_with fail
    refine Calls.mono HRd.out ?_
    rintro e w1 ⟨hb1, g, rfl, hg, hc⟩
    have HPa := Lib.hid (parse_any w1 g 0 s (bys_sec hc))
    have HB1 := Lib.hid hb1
    clear hb1 hg hc
    go_wp2_with fail
    refine Calls.mono HPa.out ?_
    rintro e w2 ⟨rfl, hb2⟩
    have HB2 := Lib.hid (Below.step HB1.out hb2)
    clear hb2
    obtain ⟨w3, hw3⟩ : ∃ x, x = w2.alloc (.cells (sctL (parseS s)).toArray 52) := ⟨_, rfl⟩
    have hrow : RowAt w3 ⟨w2.heap.size, 0, none⟩ (sctL (parseS s)) := by rw [hw3]; exact row_new w2 52 _ rfl
    have hb3 : Below w.heap.size w w3 := by rw [hw3]; exact Below.step HB2.out (Below.new _ _)
    have hlt3 : w2.heap.size < w3.heap.size := by rw [hw3]; simp
    obtain ⟨g8, hg8⟩ : ∃ g, g = w2.heap.size := ⟨_, rfl⟩
    rw [← hg8] at hrow hlt3
    have HRow := Lib.hid hrow
    have HB3 := Lib.hid hb3
    obtain ⟨d, hde⟩ : ∃ d, d = hdOf s := ⟨_, rfl⟩
    have HDe := Lib.hid hde
    have MK : Hid (∀ w', Below w3.heap.size w3 w' → w'.cell? ⟨g8, 1, none⟩ = some (.int .i64 d.turn) ∧ w'.cell? ⟨g8, 2, none⟩ = some (.int .i64 d.log)) := Lib.hid fun w' hb => by
      have hr := HRow.out.below hb hlt3
      rw [hde]
      exact ⟨by have := hr.cell (j := 1) rfl; exact this, by have := hr.cell (j := 2) rfl; exact this⟩
    have HGA : Hid (∀ w', Below w3.heap.size w3 w' → Calls Tryz.prog 49 #[.slice (some ⟨g8, 3, none⟩) 2 48] w' fun e w'' => e = .returned (.int .i64 d.at_) ∧ w' = w'') := Lib.hid fun w' hb => by
      rw [hde]; exact get_cut (HRow.out.below hb hlt3) 0 2 48 3 (by omega) (by omega) rfl
    have HGN : Hid (∀ w', Below w3.heap.size w3 w' → Calls Tryz.prog 49 #[.slice (some ⟨g8, 5, none⟩) 5 46] w' fun e w'' => e = .returned (.int .i64 d.next) ∧ w' = w'') := Lib.hid fun w' hb => by
      rw [hde]; exact get_cut (HRow.out.below hb hlt3) 2 5 46 5 (by omega) (by omega) rfl
    have HPL : Hid (PlateAt w3 q P) := Lib.hid (H.out.below hb3)
    have hmap := @run_makeMap Tryz.prog
    have hS : Below w3.heap.size w3 w3 := Below.refl _ _
    obtain ⟨S0, S1⟩ := MK.out w3 hS
    have HLt := Lib.hid hlt3
    clear hrow hb3 hlt3 hde HRd HPa
    go_upto_region 5 with (fail)
    rw [← hw3, ← hg8]
    clear hw3 hg8
    go_cut [10] from 24 to 37 (fun v10 wx => ∃ gj m, v10 = .pointer (some ⟨gj, 0, none⟩) ∧ Hid (w3.heap.size ≤ gj) ∧ Hid (w3.heap.size ≤ m) ∧ Hid (JAt wx ⟨gj, m⟩ q (hdJ d)) ∧ Hid (Below w3.heap.size w3 wx))
    case first =>
      go_region_held3 (fun w' => w'.cell? ⟨g8, 1, none⟩ = some (.int .i64 d.turn) ∧ w'.cell? ⟨g8, 2, none⟩ = some (.int .i64 d.log))
        (first | with_reducible exact MK.out _ hS | with_reducible exact MK.out _ hS.drew | with_reducible exact MK.out _ (Below.step hS (Below.new _ _)) | with_reducible exact MK.out _ (Below.step hS.drew (Below.new _ _)) | with_reducible exact MK.out _ (Below.step (Below.step hS (Below.new _ _)) (Below.new _ _)) | with_reducible exact MK.out _ (Below.step (Below.step hS (Below.new _ _)) (Below.new _ _)).drew | with_reducible exact MK.out _ (Below.step (Below.step hS (Below.new _ _)).drew (Below.new _ _)) | with_reducible exact MK.out _ (Below.step (Below.step hS.drew (Below.new _ _)) (Below.new _ _)))
        ((first
        | (go_at_call 49; ((with_reducible refine Calls.mono (HGA.out _ ?_) ?_); (first | with_reducible exact hS | with_reducible exact Below.drew hS | with_reducible exact Below.step hS (Below.new _ _) | with_reducible exact Below.step (Below.drew hS) (Below.new _ _) | with_reducible exact Below.drew (Below.step hS (Below.new _ _))); rintro e w' ⟨rfl, rfl⟩))
        | (go_at_call 49; ((with_reducible refine Calls.mono (HGN.out _ ?_) ?_); (first | with_reducible exact hS | with_reducible exact Below.drew hS | with_reducible exact Below.step hS (Below.new _ _) | with_reducible exact Below.step (Below.drew hS) (Below.new _ _) | with_reducible exact Below.drew (Below.step hS (Below.new _ _))); rintro e w' ⟨rfl, rfl⟩))))
      all_goals
        go_wp2_with fail
        go_meet
        exact ⟨_, _, rfl, Lib.hid (Nat.le_succ _), Lib.hid (Nat.le_refl _), Lib.hid (jat_new w3 q d.log d.turn d.at_ d.next), Lib.hid (Below.step (Below.new _ _) (Below.new _ _)).drew⟩
    case rest =>
      obtain ⟨gj, m, rfl, HGJ, HGM, HJA, HBx⟩ := hcut
      have c1 : wc.cell? ⟨gj, 1, none⟩ = some (.int .i64 (d.log : Int)) := HJA.out.c1
      have c3 : wc.cell? ⟨gj, 3, none⟩ = some (.int .i64 (d.at_ : Int)) := HJA.out.c3
      have c5 : wc.cell? ⟨gj, 5, none⟩ = some (.int .i64 (d.next : Int)) := HJA.out.c5
      have hr := HRow.out.below HBx.out HLt.out
      have r0 : wc.cell? ⟨g8, 0, none⟩ = some (.int .i64 (parseS s).kind) := hr.cell (j := 0) rfl
      have r1 : wc.cell? ⟨g8, 1, none⟩ = some (.int .i64 d.turn) := by rw [HDe.out]; exact hr.cell (j := 1) rfl
      have hlog : d.log < 65536 := by rw [HDe.out]; exact getN2_lt s
      have HLM : Hid (∀ k, Calls Tryz.prog 28 #[pv q, .int .i64 (d.log : Int)] (wc.drewN k) fun e w' => e = .returned (.bool (decide (2 ≤ d.log ∧ d.log + 3 ≤ N))) ∧ wc.drewN k = w') := Lib.hid fun k => by
        have h1 := logMay_any ((HPL.out.below HBx.out).drewN k) (d.log : Int) (by omega)
        rw [← HN.out] at h1
        have e : decide ((2 : Int) ≤ (d.log : Int) ∧ (d.log : Int) + 3 ≤ (N : Int)) = decide (2 ≤ d.log ∧ d.log + 3 ≤ N) := by rw [decide_eq_decide]; omega
        rw [e] at h1
        exact h1
      have HBl : Hid (∀ k, Calls Tryz.prog 16 #[.slice (some ⟨g8, 10, none⟩) 41 41] (wc.drewN k) fun e w' => e = .returned (.bool (zeroL (cutS s 15 41))) ∧ wc.drewN k = w') := Lib.hid fun k =>
        blank_n _ _ _ 41 41 (cutS_length _ _ _) ((bys_data hr 7 41 (by omega)).below (below_drewN (Below.refl _ _) k))
      have HOkE : Hid (hdOk N s = (parseOk s && ((parseS s).kind == 1) && decide (0 < d.turn) && decide (2 ≤ d.log ∧ d.log + 3 ≤ N) && decide (d.at_ < d.log) && decide (0 < d.next) && zeroL (cutS s 15 41))) := Lib.hid (by rw [HDe.out, kind_one]; rfl)
      have HB := Lib.hid (HB3.out.trans (HBx.out.mono HB3.out.size))
      have HG1 := Lib.hid (Nat.le_trans HB3.out.size HGJ.out)
      have HG2 := Lib.hid (Nat.le_trans HB3.out.size HGM.out)
      have HDj := Lib.hid (show hdOk N s = true → headAt P i = some d from fun e => by rw [HA.out, if_pos e, HDe.out])
      have HDn := Lib.hid (show hdOk N s = false → headAt P i = none from fun e => by rw [HA.out, e]; simp)
      clear hr S0 S1 hS HRow HPL HGA HGN MK HB3 HB2 HB1 HA HDe H HN HBx HGJ HGM HLt
      obtain ⟨K, hK⟩ : ∃ K, K = (parseS s).kind := ⟨_, rfl⟩
      rw [← hK] at r0 HOkE
      clear hK
      obtain ⟨b0, hb0⟩ : ∃ b, b = parseOk s := ⟨_, rfl⟩
      rw [← hb0] at HOkE ⊢
      clear hb0
      obtain ⟨b3, hb3⟩ : ∃ b, b = decide (2 ≤ d.log ∧ d.log + 3 ≤ N) := ⟨_, rfl⟩
      rw [← hb3] at HOkE HLM
      clear hb3
      obtain ⟨b6, hb6⟩ : ∃ b, b = zeroL (cutS s 15 41) := ⟨_, rfl⟩
      rw [← hb6] at HOkE HBl
      clear hb6
      cases b0
      · simp only [Bool.false_and] at HOkE
        go_wp2_with fail
        go_quiet ((first | (go_at_call 28; exact quiet_of_eq (HLM.out _)) | (go_at_call 16; exact quiet_of_eq (HBl.out _))))
        go_wp2
        refine bodyPost_ret (results_tmp2 rfl _ _ _) rfl ?_
        exact ⟨⟨_, by rw [HDn.out HOkE.out]; rfl, fun d' e' => by rw [HDn.out HOkE.out] at e'; cases e'⟩, HB.out.trans ((below_drewN (Below.refl _ _) _).mono HB.out.size)⟩
      · simp only [Bool.true_and] at HOkE
        cases hq1 : (K == 1)
        · rw [hq1] at HOkE
          simp only [Bool.false_and] at HOkE
          go_wp2_with fail
          go_quiet ((first | (go_at_call 28; exact quiet_of_eq (HLM.out _)) | (go_at_call 16; exact quiet_of_eq (HBl.out _))))
          go_wp2
          refine bodyPost_ret (results_tmp2 rfl _ _ _) rfl ?_
          exact ⟨⟨_, by rw [HDn.out HOkE.out]; rfl, fun d' e' => by rw [HDn.out HOkE.out] at e'; cases e'⟩, HB.out.trans ((below_drewN (Below.refl _ _) _).mono HB.out.size)⟩
        · rw [hq1] at HOkE
          simp only [Bool.true_and] at HOkE
          cases hq2 : decide (0 < d.turn)
          · rw [hq2] at HOkE
            simp only [Bool.false_and] at HOkE
            go_wp2_with fail
            go_quiet ((first | (go_at_call 28; exact quiet_of_eq (HLM.out _)) | (go_at_call 16; exact quiet_of_eq (HBl.out _))))
            go_wp2
            refine bodyPost_ret (results_tmp2 rfl _ _ _) rfl ?_
            exact ⟨⟨_, by rw [HDn.out HOkE.out]; rfl, fun d' e' => by rw [HDn.out HOkE.out] at e'; cases e'⟩, HB.out.trans ((below_drewN (Below.refl _ _) _).mono HB.out.size)⟩
          · rw [hq2] at HOkE
            simp only [Bool.true_and] at HOkE
            cases b3
            · simp only [Bool.false_and] at HOkE
              go_wp2_with fail
              go_quiet ((first | (go_at_call 28; exact quiet_of_eq (HLM.out _)) | (go_at_call 16; exact quiet_of_eq (HBl.out _))))
              go_wp2
              refine bodyPost_ret (results_tmp2 rfl _ _ _) rfl ?_
              exact ⟨⟨_, by rw [HDn.out HOkE.out]; rfl, fun d' e' => by rw [HDn.out HOkE.out] at e'; cases e'⟩, HB.out.trans ((below_drewN (Below.refl _ _) _).mono HB.out.size)⟩
            · simp only [Bool.true_and] at HOkE
              cases hq4 : decide (d.at_ < d.log)
              · rw [hq4] at HOkE
                simp only [Bool.false_and] at HOkE
                go_wp2_with fail
                go_quiet ((first | (go_at_call 28; exact quiet_of_eq (HLM.out _)) | (go_at_call 16; exact quiet_of_eq (HBl.out _))))
                go_wp2
                refine bodyPost_ret (results_tmp2 rfl _ _ _) rfl ?_
                exact ⟨⟨_, by rw [HDn.out HOkE.out]; rfl, fun d' e' => by rw [HDn.out HOkE.out] at e'; cases e'⟩, HB.out.trans ((below_drewN (Below.refl _ _) _).mono HB.out.size)⟩
              · rw [hq4] at HOkE
                simp only [Bool.true_and] at HOkE
                cases hq5 : decide (0 < d.next)
                · rw [hq5] at HOkE
                  simp only [Bool.false_and] at HOkE
                  go_wp2_with fail
                  go_quiet ((first | (go_at_call 28; exact quiet_of_eq (HLM.out _)) | (go_at_call 16; exact quiet_of_eq (HBl.out _))))
                  go_wp2
                  refine bodyPost_ret (results_tmp2 rfl _ _ _) rfl ?_
                  exact ⟨⟨_, by rw [HDn.out HOkE.out]; rfl, fun d' e' => by rw [HDn.out HOkE.out] at e'; cases e'⟩, HB.out.trans ((below_drewN (Below.refl _ _) _).mono HB.out.size)⟩
                · rw [hq5] at HOkE
                  simp only [Bool.true_and] at HOkE
                  cases b6
                  · skip
                    go_wp2_with fail
                    go_quiet ((first | (go_at_call 28; exact quiet_of_eq (HLM.out _)) | (go_at_call 16; exact quiet_of_eq (HBl.out _))))
                    go_wp2
                    refine bodyPost_ret (results_tmp2 rfl _ _ _) rfl ?_
                    exact ⟨⟨_, by rw [HDn.out HOkE.out]; rfl, fun d' e' => by rw [HDn.out HOkE.out] at e'; cases e'⟩, HB.out.trans ((below_drewN (Below.refl _ _) _).mono HB.out.size)⟩
                  · skip
                    go_wp2_with fail
                    go_quiet ((first | (go_at_call 28; exact quiet_of_eq (HLM.out _)) | (go_at_call 16; exact quiet_of_eq (HBl.out _))))
                    go_wp2
                    refine bodyPost_ret (results_tmp2 rfl _ _ _) rfl ?_
                    have hT := HOkE.out
                    have e := HDj.out hT
                    exact ⟨⟨_, by rw [e]; rfl, fun d' e' => by rw [e] at e'; cases e'; exact ⟨gj, m, rfl, HG1.out, HG2.out, HJA.out.below (below_drewN (Below.refl _ _) _)⟩⟩, HB.out.trans ((below_drewN (Below.refl _ _) _).mono HB.out.size)⟩
  · have e1 : headAt P i = none := by unfold headAt; rw [if_neg (fun hh => h0 hh.1)]
    have HRd := Lib.hid (read_no w q P h i h0)
    obtain ⟨z, hz⟩ : ∃ z, z = P.has i := ⟨_, rfl⟩
    have hzq : (z != 0) = true := ne_zero_bne (hz ▸ h0)
    rw [← hz] at HRd
    rw [e1]
    clear h h0 hz e1
    go_enter Tryz.func34, Tryz.ntmps34
    go_wp2_with fail
    refine Calls.mono HRd.out ?_
    rintro e w' ⟨rfl, rfl⟩
    go_wp2
    refine bodyPost_ret (results_tmp2 rfl _ _ _) rfl ?_
    exact ⟨⟨_, rfl, fun _ e => by cases e⟩, Below.refl _ _⟩
end Go.Proofs.YtdhidcoglioalaaGreat.Walks
