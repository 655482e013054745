/-
  The document's journal: some blocks are committed.
-/
import Derived.Test.YtdhidcoglioalaaGreatM37
import Derived.Deep.CutBlock
namespace Go.Proofs.YtdhidcoglioalaaGreat.Walks
open Go.RowKit Plain Jn
set_option linter.unusedVariables false
/-- Puts that a Commit of the document's is handed, in blocks that are none of N. -/
structure PutsQ (w : World) (N : List Nat) (v : Value) (l : List (Int × List Byte)) : Prop where
  own : OwnQ 150 w 0 N v l
  out : ∀ g, v.ownBlock = some g → g ∉ N
  len : l.length ≤ 10000
  wf : ∀ x ∈ l, Wf x.1 ∧ x.2.length ≤ 4096
section
variable {w w' : World} {m : Nat} {r : RLoc} {J J' : Jn} {P P' : Pl}
theorem PutsQ.below {N : List Nat} {v : Value} {l : List (Int × List Byte)} (h : PutsQ w N v l) (hb : Below w.heap.size w w') : PutsQ w' N v l := ⟨h.own.below hb, h.out, h.len, h.wf⟩
theorem PutsQ.only {N R : List Nat} {v : Value} {l : List (Int × List Byte)} (h : PutsQ w N v l) (ho : Only R w w') (hR : ∀ b ∈ R, b ∈ N) : PutsQ w' N v l := ⟨h.own.only ho hR fun g hg hm => h.out g hg (hR g hm), h.out, h.len, h.wf⟩
theorem PutsQ.at_ {N : List Nat} {a : Option Addr} {n c : Nat} {l : List (Int × List Byte)} (h : PutsQ w N (.slice a n c) l) {k : Nat} (hk : k < l.length) : ∃ g, a = some ⟨g, 0, none⟩ ∧ g ∉ N ∧ g < w.heap.size ∧ ∃ da dc, w.cell? ⟨g, k * 2, none⟩ = some (.int .i64 l[k].1) ∧ w.cell? ⟨g, k * 2 + 1, none⟩ = some (.slice da l[k].2.length dc) ∧ Dat w N (.slice da l[k].2.length dc) l[k].2 := by
  rcases h.own.form with ⟨e, _⟩ | ⟨g, c', e, _, _, hg, _, hc⟩
  · rw [e] at hk; simp at hk
  · simp only [Value.slice.injEq] at e
    obtain ⟨rfl, _, _⟩ := e
    obtain ⟨da, dc, b1, b2, b3⟩ := hc k _ (List.getElem?_eq_getElem hk)
    exact ⟨g, rfl, h.out g rfl, hg, da, dc, b1, b2, b3⟩
theorem entriesW_len (J : Jn) (l : List (Nat × Blk)) : (J.entriesW l).length = l.length := by unfold Jn.entriesW; rw [List.length_map, List.length_range]
def entWk (J : Jn) (l : List (Nat × Blk)) (k : Nat) : Wk := Wk.wr (J.place k) (packS (entrySct J.turn (l.getD k (0, zeroB))))
theorem entriesW_take (J : Jn) (l : List (Nat × Blk)) {k : Nat} (h : k < l.length) : (J.entriesW l).take (k + 1) = (J.entriesW l).take k ++ [entWk J l k] := by
  rw [List.take_succ_eq_append_getElem (by rw [entriesW_len]; exact h)]
  congr 2
  unfold Jn.entriesW
  rw [List.getElem_map, List.getElem_range]
  rfl
theorem entriesW_split (J : Jn) (l : List (Nat × Blk)) {k : Nat} (h : k < l.length) (r : List Wk) : J.entriesW l ++ r = (J.entriesW l).take k ++ entWk J l k :: ((J.entriesW l).drop (k + 1) ++ r) := by
  have hk : k < (J.entriesW l).length := by rw [entriesW_len]; exact h
  have e : J.entriesW l = (J.entriesW l).take k ++ (J.entriesW l)[k] :: (J.entriesW l).drop (k + 1) := by rw [← List.drop_eq_getElem_cons hk, List.take_append_drop]
  have e2 : (J.entriesW l)[k] = entWk J l k := by
    have h1 : (J.entriesW l)[k]? = some (entWk J l k) := by
      unfold Jn.entriesW
      rw [List.getElem?_map, List.getElem?_range h]
      rfl
    rw [List.getElem?_eq_getElem hk] at h1
    exact Option.some.inj h1
  rw [e2] at e
  conv => lhs; rw [e]
  rw [List.append_assoc, List.cons_append]
theorem blk_nil : blkOf [] = zeroB := by
  funext j
  unfold blkOf zeroB
  split <;> simp
/-- .. with some more that is pending. -/
def pendJ (J : Jn) (l : List (Nat × Blk)) : Jn := { J with pend := putAll J.pend l }
theorem rj_movesZ (h : RJ w m r J P) (n : Nat) (z : Int) (hz : z = (n : Int)) (hu : J.used + n ≤ J.log) (ht : J.turn < 4611686018427387904) : Calls Tryz.prog 115 #[mv m, .int .i64 z] w fun e w' => (∃ u, e = .returned u) ∧ RJ w' m r (movedJ J n) P ∧ Only [m] w w' := by
  subst hz
  exact rj_moves h n hu ht
theorem mRN {b : Nat} (h : RJ w m r J P) (hb : b ∈ m :: r.R) : b ∈ r.N := by
  rcases List.mem_cons.1 hb with rfl | hb
  · exact inN_ban h.bm
  · exact r.inN' hb
theorem mem_take_map {l : List (Int × List Byte)} {k : Nat} {z : Int} (h : ∀ j (hj : j < l.length), j < k → l[j].1 ≠ z) : ¬ z ∈ (l.take k).map (·.1) := by
  intro hm
  obtain ⟨x, hx, e⟩ := List.mem_map.1 hm
  obtain ⟨j, hj, rfl⟩ := List.getElem_of_mem hx
  rw [List.length_take] at hj
  rw [List.getElem_take] at e
  exact h j (by omega) (by omega) e
set_option maxRecDepth 10000 in
set_option maxHeartbeats 8000000 in
theorem rj_commitOn (h : RJ w m r J P) (hb : J.broken = false) (hh : J.head < 4611686018427387904) (ht : J.turn < 4611686018427387904) (a : Option Addr) (n c : Nat) (l : List (Int × List Byte)) (hn : l.length = n) (hl : PutsQ w r.N (.slice a n c) l) :
    Calls Tryz.prog 84 #[mv m, .slice a n c] w fun e w' => e = .returned (.int .i64 (commitE P J l)) ∧ RJ w' m r (commitJ P J l) (commitP P J l) ∧ Only (m :: r.R) w w' := by
  have c7 := h.c7
  have c1 := h.c1
  rw [hb] at c7
  have hlog := h.ok.logn
  have hlog2 := h.ok.log2
  have hn4 := h.rf.ok.most
  have hn10 := hl.len
  have hnl : n ≤ 10000 := by omega
  have hBB : J.blocks P.n = P.n - 2 - J.log := by unfold Jn.blocks; rw [hb]; simp
  obtain ⟨B, hB⟩ : ∃ B, B = J.blocks P.n := ⟨_, rfl⟩
  have hB4 : B ≤ 4096 := by omega
  obtain ⟨L, hL⟩ : ∃ L, L = J.log := ⟨_, rfl⟩
  rw [← hL] at c1
  have hL4 : L ≤ 4096 := by omega
  have hL2 : 2 ≤ L := by omega
  have HB := Lib.hid hB
  have HBB : Hid (B = P.n - 2 - J.log) := Lib.hid (hB.trans hBB)
  have HBr := Lib.hid hb
  have HN := Lib.hid hn
  have H := Lib.hid h
  have HPu := Lib.hid hl
  have HHd := Lib.hid hh
  have HTn := Lib.hid ht
  have HL := Lib.hid hL
  have HBad : Hid (badE P J l = if putsE B [] l ≠ 0 then putsE B [] l else if L - 1 < l.length then 7 else 0) := Lib.hid (by unfold badE; rw [hb, hB, hL]; simp)
  have HFin : Hid (∀ (w' : World) (e : Ending) (z : Int), badE P J l = z → (z ≠ 0 ∨ l.length = 0) → e = .returned (.int .i64 z) → RJ w' m r J P → Only (m :: r.R) w w' → e = .returned (.int .i64 (commitE P J l)) ∧ RJ w' m r (commitJ P J l) (commitP P J l) ∧ Only (m :: r.R) w w') := Lib.hid (by
    intro w' e z hz h0 he hj ho
    have hnn : J.nothing P l = true := by
      unfold Jn.nothing
      rw [hz]
      rcases h0 with h0 | h0
      · simp [h0]
      · simp [h0]
    unfold commitE commitJ commitP
    rw [hnn, hz]
    exact ⟨he, hj, ho⟩)
  clear h hb hB hBB hn hl hh ht hL hlog hlog2 hn4 hn10
  go_enter Tryz.func84, Tryz.ntmps84
  go_wp2_with fail
  go_loopw [5] (fun i wr => ∃ k : Nat, k ≤ n ∧ i = .int .i64 k ∧ Hid (putsE B [] (l.take k) = 0) ∧ Hid (Below w.heap.size w wr)) (fun i _ => n - (RowKit.intOf i).toNat)
  case atStart => exact ⟨0, Nat.zero_le _, rfl, Lib.hid rfl, Lib.hid (Below.refl _ _)⟩
  case round =>
    obtain ⟨k, hk, rfl, HE0, HBw⟩ := hrel
    by_cases hlt : k < n
    · have hkl : k < l.length := by have := HN.out; omega
      obtain ⟨pe1, pe2, pe3⟩ := putsE_at hkl HE0.out
      have HPw := Lib.hid (HPu.out.below HBw.out)
      obtain ⟨g, rfl, hgn, hgl, da, dc, p0, p1, hd⟩ := HPw.out.at_ hkl
      have hwf := HPu.out.wf _ (List.getElem_mem hkl)
      obtain ⟨x, hx⟩ : ∃ x, x = l[k] := ⟨_, rfl⟩
      rw [← hx] at pe1 pe2 pe3 p0 p1 hd hwf
      obtain ⟨xi, xd⟩ := x
      simp only at pe1 pe2 pe3 p0 p1 hd hwf
      obtain ⟨xl, hxl⟩ : ∃ xl, xl = xd.length := ⟨_, rfl⟩
      rw [← hxl] at p1 hd hwf pe2 pe3
      have hxl4 : xl ≤ 4096 := hwf.2
      have PE1 := Lib.hid pe1
      have PE2 := Lib.hid pe2
      have PE3 := Lib.hid pe3
      have HJw := Lib.hid (H.out.below HBw.out)
      have HBl : Hid (∀ k, Calls Tryz.prog 61 #[mv m] (wr.drewN k) fun e w' => e = .returned (.int .i64 B) ∧ ∃ n, w' = wr.drewN n) := Lib.hid fun k => by
        refine Calls.mono (rj_blocks (HJw.out.drewN k)) ?_
        rintro e w' ⟨rfl, nq, rfl⟩
        exact ⟨by rw [HB.out], k + nq, by simp [World.drewN, Nat.add_assoc]⟩
      clear pe1 pe2 pe3 hx hkl hd hwf hxl hgn hgl
      go_upto_region 6 with (fail)
      by_cases hz : xi < 0
      · have HPe := Lib.hid (PE1.out (.inl hz))
        clear PE1 PE2 PE3
        go_quiet (fail)
        go_wp2
        go_ret
        exact HFin.out _ _ 9 (by rw [HBad.out, HPe.out]; rfl) (.inl (by decide)) rfl (HJw.out.drewN _) ((Only.of_below HBw.out).drewN _)
      · by_cases hz2 : (B : Int) ≤ xi
        · have HPe := Lib.hid (PE1.out (.inr hz2))
          clear PE1 PE2 PE3
          go_quiet ((go_at_call 61; exact HBl.out _))
          go_wp2
          go_ret
          exact HFin.out _ _ 9 (by rw [HBad.out, HPe.out]; rfl) (.inl (by decide)) rfl (HJw.out.drewN _) ((Only.of_below HBw.out).drewN _)
        · have hno : ¬ (xi < 0 ∨ (B : Int) ≤ xi) := by omega
          go_quiet ((go_at_call 61; exact HBl.out _))
          generalize hwq : wr.drewN _ = wq
          have hbq : Below wr.heap.size wr wq := by rw [← hwq]; exact below_drewN (Below.refl _ _) _
          have HBq := Lib.hid (Below.step HBw.out hbq)
          replace p0 := keepc hbq p0
          replace p1 := keepc hbq p1
          have HPq := Lib.hid (HPw.out.below hbq)
          have HBl := Lib.hid hbq
          clear hwq hbq PE1
          by_cases hlen : xl = 48
          · have HNo := Lib.hid hno
            have hq48 : ((xl : Int) != 48) = false := by rw [hlen]; rfl
            have HLen := Lib.hid hlen
            clear hlen hno
            go_wp2_with fail
            go_loopw [6] (fun j wx => ∃ k2 : Nat, k2 ≤ k ∧ j = .int .i64 k2 ∧ Hid (∀ j (hj : j < l.length), j < k2 → l[j].1 ≠ xi) ∧ Hid (Below wq.heap.size wq wx)) (fun j _ => k - (RowKit.intOf j).toNat)
            case atStart => exact ⟨0, Nat.zero_le _, rfl, Lib.hid (fun _ _ h => absurd h (Nat.not_lt_zero _)), Lib.hid (Below.refl _ _)⟩
            case round =>
              obtain ⟨k2, hk2, rfl, HZ2, HB2⟩ := hrel
              have p0' := keepc HB2.out p0
              by_cases hlt2 : k2 < k
              · have hkl2 : k2 < l.length := by have := HN.out; omega
                obtain ⟨g', e', _, _, da2, dc2, r0, _, _⟩ := (HPq.out.below HB2.out).at_ hkl2
                cases e'
                obtain ⟨yi, hyi⟩ : ∃ y, y = l[k2].1 := ⟨_, rfl⟩
                rw [← hyi] at r0
                have HY := Lib.hid hyi
                clear hyi
                go_upto_region 13 with (fail)
                by_cases heq : yi = xi
                · have heb : (yi == xi) = true := by simp [heq]
                  have HEq := Lib.hid heq
                  clear heq
                  go_quiet (fail)
                  go_wp2
                  go_ret
                  have hmem : xi ∈ (l.take k).map (·.1) := by
                    refine List.mem_map.2 ⟨l[k2], ?_, by rw [← HEq.out]; exact HY.out.symm⟩
                    rw [List.mem_take_iff_getElem]
                    exact ⟨k2, by omega, rfl⟩
                  have hbx := below_drewN (Below.step HBq.out HB2.out)
                  exact HFin.out _ _ 2 (by rw [HBad.out, PE2.out HNo.out (.inr hmem)]; rfl) (.inl (by decide)) rfl (H.out.below (hbx _)) (Only.of_below (hbx _))
                · have heb : (yi == xi) = false := by rw [beq_eq_false_iff_ne]; exact heq
                  have HNe := Lib.hid heq
                  clear heq
                  go_quiet (fail)
                  go_wp2
                  go_roundw
                  case rel => exact ⟨k2 + 1, by omega, by go_num, Lib.hid (fun j hj hjk => by
                    by_cases e : j = k2
                    · subst e; rw [← HY.out]; exact HNe.out
                    · exact HZ2.out j hj (by omega)), Lib.hid (below_drewN HB2.out _)⟩
                  case measure => simp [RowKit.intOf]; omega
              · obtain rfl : k2 = k := by omega
                have HPe := Lib.hid (PE3.out HNo.out (fun hh => hh.elim (fun h => h HLen.out) (fun h => mem_take_map HZ2.out h)))
                go_wp2
                go_roundw
                case rel => exact ⟨k2 + 1, by omega, by go_num, HPe, Lib.hid (Below.step HBq.out HB2.out)⟩
                case measure => simp [RowKit.intOf]; omega
          · have HPe := Lib.hid (PE2.out hno (.inl hlen))
            have hq48 : ((xl : Int) != 48) = true := by simp; omega
            clear hlen PE2 PE3
            go_wp2
            go_ret
            exact HFin.out _ _ 2 (by rw [HBad.out, HPe.out]; rfl) (.inl (by decide)) rfl (H.out.below HBq.out) (Only.of_below HBq.out)
    · obtain rfl : k = n := by omega
      have hfull : l.take k = l := List.take_of_length_le (by have := HN.out; omega)
      have HE : Hid (putsE B [] l = 0) := Lib.hid (by have := HE0.out; rw [hfull] at this; exact this)
      have HRt : Hid (∀ x ∈ l, 0 ≤ x.1 ∧ x.1 < B ∧ x.2.length = 48) := Lib.hid (putsE_right l [] HE.out)
      have HBad2 : Hid (badE P J l = if L - 1 < k then 7 else 0) := Lib.hid (by rw [HBad.out, HE.out, HN.out]; simp)
      obtain ⟨bl, hbl⟩ : ∃ bl, bl = blks l := ⟨_, rfl⟩
      have HBl : Hid (bl.length = k) := Lib.hid (by rw [hbl]; unfold blks; rw [List.length_map]; exact HN.out)
      have HbE := Lib.hid hbl
      have HJ := Lib.hid (H.out.below HBw.out)
      have HO1 := Lib.hid (Only.of_below (R := m :: r.R) HBw.out)
      have HPu1 := Lib.hid (HPu.out.below HBw.out)
      have m1 := keepc HBw.out c1
      clear hfull HE0 HBad hbl c1 c7
      by_cases hful : L - 1 < k
      · have hfi : (L : Int) - 1 < (k : Int) := by omega
        go_wp2_with fail
        go_ret
        exact HFin.out _ _ 7 (by rw [HBad2.out, if_pos hful]) (.inl (by decide)) rfl HJ.out HO1.out
      · have hfi : ¬ ((L : Int) - 1 < (k : Int)) := by omega
        by_cases h0 : k = 0
        · have h0i : ((k : Int) == 0) = true := by rw [h0]; rfl
          have HK0 := Lib.hid h0
          clear h0
          go_wp2_with fail
          go_ret
          exact HFin.out _ _ 0 (by rw [HBad2.out, if_neg hful]) (.inr (HN.out.trans HK0.out)) rfl HJ.out HO1.out
        · have h0i : ((k : Int) == 0) = false := by rw [beq_eq_false_iff_ne]; omega
          have HNo : Hid (J.nothing P l = false) := Lib.hid (by
            unfold Jn.nothing
            rw [HBad2.out, if_neg hful, HN.out]
            simp [h0])
          have HRm : Hid (k + 1 ≤ L) := Lib.hid (by omega)
          have HK1 : Hid (1 ≤ k) := Lib.hid (by omega)
          clear HFin HBad2
          have HFr := Lib.hid (rj_free HJ.out)
          obtain ⟨fr, hfr⟩ : ∃ fr, fr = J.free := ⟨_, rfl⟩
          rw [← hfr] at HFr
          have HFrE := Lib.hid hfr
          clear hfr
          go_upto_if 77 with ((go_at_call 62; refine Calls.mono HFr.out ?_; rintro e w5 ⟨rfl, nq, rfl⟩))
          obtain ⟨wq, hwq⟩ : ∃ wq, wq = wr.drewN nq := ⟨_, rfl⟩
          have hbq : Below wr.heap.size wr wq := by rw [hwq]; exact below_drewN (Below.refl _ _) _
          rw [← hwq]
          have HBq := Lib.hid hbq
          have HJq := Lib.hid (HJ.out.below hbq)
          have hm1q := keepc hbq m1
          clear hwq hbq m1 h0 hful
          go_cut [] from 7 to 82 (fun wx => ∃ J1 P1, Hid (RJ wx m r J1 P1) ∧ Hid (Only (m :: r.R) wr wx) ∧ Hid (J1.broken = false ∧ J1.log = L ∧ J1.turn = J.turn ∧ J1.used + k + 1 ≤ L ∧ J1.head < 4611686018427387905) ∧ Hid (P1.n = P.n) ∧
            Hid (commitE P J l = runE (J1.writeW bl) P1 ∧ commitP P J l = runP (J1.writeW bl) P1 ∧ commitJ P J l = if runE (J1.writeW bl) P1 ≠ 0 then J1.brk else J1.wrote bl))
          case first =>
            by_cases htt : fr < k
            · have hti : (fr : Int) < (k : Int) := by omega
              have HTi : Hid (J.tight bl.length = true) := Lib.hid (by unfold Jn.tight; rw [HBl.out, ← HFrE.out]; simpa using htt)
              have HCl := Lib.hid (rj_clear HJq.out HHd.out)
              by_cases hce : clearE P J = 0
              · rw [hce] at HCl
                have HCe := Lib.hid hce
                clear hce
                go_wp2_with fail
                refine Calls.mono HCl.out ?_
                rintro e w6 ⟨rfl, hj6, ho6⟩
                have HJ6 := Lib.hid hj6
                have HO6 := Lib.hid ho6
                clear hj6 ho6
                go_wp2
                go_meet
                have hcj : clearJ P J = J.cleared := by
                  have h1 := HCe.out
                  unfold clearE at h1
                  unfold clearJ
                  rw [HBr.out] at h1 ⊢
                  simp only [Bool.false_eq_true, if_false] at h1 ⊢
                  rw [h1]; simp
                refine ⟨J.cleared, clearP P J, Lib.hid (by rw [← hcj]; exact HJ6.out), Lib.hid ((Only.of_below HBq.out).trans HO6.out), Lib.hid ⟨HBr.out, HL.out.symm, rfl, by show 0 + k + 1 ≤ L; have := HRm.out; omega, by show J.head + 1 < _; have := HHd.out; omega⟩, Lib.hid (by unfold clearP; rw [HBr.out]; exact (runP_n _ _)), Lib.hid ?_⟩
                unfold commitE commitP commitJ
                rw [HNo.out, ← HbE.out]
                unfold putE putP putJ
                rw [HTi.out, HCe.out]
                simp
              · obtain ⟨z, hz⟩ : ∃ z, z = clearE P J := ⟨_, rfl⟩
                have hzq : (z != 0) = true := ne_zero_bne (hz ▸ hce)
                rw [← hz] at HCl
                have HCe := Lib.hid hce
                have HZ := Lib.hid hz
                clear hce hz
                go_wp2_with fail
                refine Calls.mono HCl.out ?_
                rintro e w6 ⟨rfl, hj6, ho6⟩
                have HJ6 := Lib.hid hj6
                have HO6 := Lib.hid ho6
                clear hj6 ho6
                go_wp2
                go_ret
                have hcj : clearJ P J = J.brk := by
                  have h1 := HCe.out
                  unfold clearE at h1
                  unfold clearJ
                  rw [HBr.out] at h1 ⊢
                  simp only [Bool.false_eq_true, if_false] at h1 ⊢
                  rw [if_pos h1]
                have hO6 : Only (m :: r.R) w w6 := HO1.out.trans ((Only.of_below HBq.out).trans HO6.out)
                have hJ6 := HJ6.out
                rw [hcj] at hJ6
                unfold commitE commitP commitJ
                rw [HNo.out, ← HbE.out]
                unfold putE putP putJ
                rw [HTi.out]
                simp only [Bool.false_eq_true, if_false, if_true]
                rw [if_pos HCe.out, if_pos HCe.out, if_pos HCe.out, ← HZ.out]
                exact ⟨rfl, hJ6, hO6⟩
            · have hti : ¬ ((fr : Int) < (k : Int)) := by omega
              have HTi : Hid (J.tight bl.length = false) := Lib.hid (by unfold Jn.tight; rw [HBl.out, ← HFrE.out]; simpa using htt)
              have HUs : Hid (J.used + k + 1 ≤ L) := Lib.hid (by
                have h1 := HFrE.out
                unfold Jn.free at h1
                rw [HBr.out] at h1
                simp only [Bool.false_eq_true, if_false] at h1
                have h2 := HL.out
                have h3 := HK1.out
                omega)
              go_wp2
              go_meet
              refine ⟨J, P, HJq, Lib.hid (Only.of_below HBq.out), Lib.hid ⟨HBr.out, HL.out.symm, rfl, HUs.out, by have := HHd.out; omega⟩, Lib.hid rfl, Lib.hid ?_⟩
              unfold commitE commitP commitJ
              rw [HNo.out, ← HbE.out]
              unfold putE putP putJ
              rw [HTi.out]
              simp
          case rest =>
            obtain ⟨J1, P1, HJ1, HO2, HF1, HPn, HC1⟩ := hcut
            obtain ⟨wp, hwp⟩ : ∃ wp, wp = wc := ⟨_, rfl⟩
            subst hwp
            have HPu2 := Lib.hid (HPu1.out.only HO2.out fun b hb => mRN H.out hb)
            have HOw := Lib.hid (HO1.out.trans HO2.out)
            clear HO1 HO2 HPu1 HJ HJq hm1q HFr HFrE
            have HTN : Hid (J1.turn = J.turn) := Lib.hid HF1.out.2.2.1
            have hk4 : k ≤ 4096 := by have := HF1.out.2.2.2.1; omega
            obtain ⟨tn, htn⟩ : ∃ tn, tn = J1.turn := ⟨_, rfl⟩
            have htn4 : tn < 4611686018427387904 := by rw [htn, HTN.out]; exact HTn.out
            obtain ⟨A, hA⟩ : ∃ A, A = J1.at_ := ⟨_, rfl⟩
            have hA4 : A < L := by have h1 := HJ1.out.ok.at_; have h2 := HF1.out.2.1; omega
            have HTE := Lib.hid htn
            have HAE := Lib.hid hA
            have HWW : Hid (J1.writeW bl = J1.entriesW bl ++ [.fl, .wr (J1.place k) (packS (endSct tn k)), .fl]) := Lib.hid (by unfold Jn.writeW; rw [HBl.out, htn])
            have MR : Hid (∀ (w' : World) (Q : Pl), RJ w' m r J1 Q → w'.cell? ⟨m, 0, none⟩ = some (rv r) ∧ w'.cell? ⟨m, 1, none⟩ = some (.int .i64 (L : Int)) ∧ w'.cell? ⟨m, 3, none⟩ = some (.int .i64 (A : Int)) ∧ w'.cell? ⟨m, 5, none⟩ = some (.int .i64 (tn : Int))) := Lib.hid fun w' Q h => by
              rw [← HF1.out.2.1, hA, htn]
              exact ⟨h.c0, h.c1, h.c3, h.c5⟩
            have hLne : ¬ (L : Int) = 0 := by omega
            clear htn hA
            go_wp2_with fail
            go_loopw [8] (fun vi wx => ∃ k2 : Nat, k2 ≤ k ∧ vi = .int .i64 k2 ∧ ∃ Q, Hid (runE ((J1.entriesW bl).take k2) P1 = 0 ∧ runP ((J1.entriesW bl).take k2) P1 = Q) ∧ Hid (RJ wx m r J1 Q) ∧ Hid (Only (m :: r.R) wp wx)) (fun i _ => k - (RowKit.intOf i).toNat)
            case atStart => exact ⟨0, by omega, rfl, P1, Lib.hid ⟨rfl, rfl⟩, HJ1, Lib.hid (Only.refl _ _)⟩
            case round =>
              obtain ⟨k2, hk2, rfl, Q, HR, HJ, HO⟩ := hrel
              by_cases hlt : k2 < k
              · have hkl : k2 < l.length := by have := HN.out; omega
                have hkb : k2 < bl.length := by have := HBl.out; omega
                obtain ⟨g, rfl, hgn, hgl, da, dc, p0, p1, hd⟩ := (HPu2.out.only HO.out fun b hb => mRN H.out hb).at_ hkl
                obtain ⟨rt1, rt2, rt3⟩ := HRt.out _ (List.getElem_mem hkl)
                have hts := entriesW_take J1 bl hkb
                have hsp := entriesW_split J1 bl hkb [.fl, .wr (J1.place k) (packS (endSct tn k)), .fl]
                have hbx : bl.getD k2 (0, zeroB) = (l[k2].1.toNat, blkOf l[k2].2) := by
                  rw [List.getD_eq_getElem?_getD, HbE.out]
                  unfold blks
                  rw [List.getElem?_map, List.getElem?_eq_getElem hkl]
                  rfl
                obtain ⟨x, hx⟩ : ∃ x, x = l[k2] := ⟨_, rfl⟩
                rw [← hx] at p0 p1 hd rt1 rt2 rt3 hbx
                obtain ⟨xi, xd⟩ := x
                simp only at p0 p1 hd rt1 rt2 rt3 hbx
                rw [rt3] at p1 hd
                obtain ⟨xn, rfl⟩ : ∃ xn : Nat, xi = xn := ⟨xi.toNat, by omega⟩
                rw [Int.toNat_natCast] at hbx
                have HSc : Hid (packS (entrySct J1.turn (bl.getD k2 (0, zeroB))) = packS (sctOf 2 tn xn xd)) := Lib.hid (by rw [hbx, ← HTE.out]; rfl)
                have HXl := Lib.hid rt3
                have HTs := Lib.hid hts
                have HSp := Lib.hid hsp
                have HD := Lib.hid hd
                have hxn : xn ≤ 4096 := by omega
                have HGN := Lib.hid hgn
                obtain ⟨m0, m1, m3, m5⟩ := MR.out wr Q HJ.out
                clear hkl hkb hgn hd rt1 rt2 rt3 hts hsp hbx hx
                have MK : Hid (∀ w', Below wr.heap.size wr w' → w'.cell? ⟨m, 5, none⟩ = some (.int .i64 (tn : Int)) ∧ w'.cell? ⟨g, k2 * 2, none⟩ = some (.int .i64 (xn : Int)) ∧ w'.cell? ⟨g, k2 * 2 + 1, none⟩ = some (.slice da 48 dc)) := Lib.hid fun w' hb => ⟨keepc hb m5, keepc hb p0, keepc hb p1⟩
                have HPk : Hid (∀ w', Below wr.heap.size wr w' → Calls Tryz.prog 112 #[.agg #[.int .i64 2, .int .i64 (tn : Int), .int .i64 (xn : Int), .slice da 48 dc]] w' fun e w'' => ∃ gp cp, e = .returned (.slice (some ⟨gp, 0, none⟩) 64 cp) ∧ (Bys w'' (some ⟨gp, 0, none⟩) (packL (sctOf 2 tn xn xd)) ∧ gp ∉ r.R) ∧ Below w'.heap.size w' w'') := Lib.hid fun w' hb => by
                  have hxd := HXl.out
                  obtain ⟨a9, c9, e9, hB9, _, hc9⟩ := (HD.out.below hb).own.bys (by omega)
                  simp only [Value.slice.injEq] at e9
                  obtain ⟨rfl, e48, rfl⟩ := e9
                  refine Calls.mono (ry_pack w' r Q (HJ.out.below hb).rf 2 tn xn xd da 48 dc hxd (by omega) hB9 hc9 (by omega) (by omega) _ rfl) ?_
                  rintro e w'' ⟨gp, cp, rfl, h1, h2, h3⟩
                  exact ⟨gp, cp, rfl, ⟨h1, h2⟩, h3⟩
                have hS : Below wr.heap.size wr wr := Below.refl _ _
                go_upto_region 26 with (fail)
                go_cut [9] from 83 to 127 (fun v9 wx => ∃ gp cp, v9 = .slice (some ⟨gp, 0, none⟩) 64 cp ∧ Hid (Bys wx (some ⟨gp, 0, none⟩) (packL (sctOf 2 tn xn xd)) ∧ gp ∉ r.R) ∧ Hid (Below wr.heap.size wr wx))
                case first =>
                  go_region_held3 (fun w' => w'.cell? ⟨m, 5, none⟩ = some (.int .i64 (tn : Int)) ∧ w'.cell? ⟨g, k2 * 2, none⟩ = some (.int .i64 (xn : Int)) ∧ w'.cell? ⟨g, k2 * 2 + 1, none⟩ = some (.slice da 48 dc))
                    (first | ((with_reducible refine MK.out _ ?_); (first | with_reducible exact hS | with_reducible exact Below.drew hS | with_reducible exact Below.step hS (Below.new _ _) | with_reducible exact Below.step (Below.drew hS) (Below.new _ _) | with_reducible exact Below.drew (Below.step hS (Below.new _ _)))))
                    ((first
                    | (go_at_call 112; go_loud ((with_reducible refine Calls.mono (HPk.out _ ?_) ?_); (first | with_reducible exact hS | with_reducible exact Below.drew hS | with_reducible exact Below.step hS (Below.new _ _) | with_reducible exact Below.step (Below.drew hS) (Below.new _ _) | with_reducible exact Below.drew (Below.step hS (Below.new _ _))); rintro e w5 ⟨gp, cp, rfl, hBp, hb⟩; have hS0 := hS; have hS : Below wr.heap.size wr w5 := (by first | exact Below.step hS0 hb | exact Below.step hS0.drew hb); have HBp := Lib.hid hBp; clear hBp hb))))
                  all_goals
                    go_wp2_with fail
                    go_meet
                    exact ⟨gp, cp, rfl, HBp, Lib.hid hS⟩
                case rest =>
                  obtain ⟨gp, cp, rfl, HBp, HBe⟩ := hcut
                  obtain ⟨wd, hwd⟩ : ∃ wd, wd = wc := ⟨_, rfl⟩
                  subst hwd
                  have HJd := Lib.hid (HJ.out.below HBe.out)
                  have n0 := keepc HBe.out m0
                  have n1 := keepc HBe.out m1
                  have n3 := keepc HBe.out m3
                  obtain ⟨s, hs⟩ : ∃ s : Nat, s = A + k2 := ⟨_, rfl⟩
                  obtain ⟨q, hq⟩ : ∃ q : Nat, q = s % L := ⟨_, rfl⟩
                  obtain ⟨pl, hpl⟩ : ∃ pl : Nat, pl = 2 + q := ⟨_, rfl⟩
                  have hqL : q < L := by rw [hq]; exact Nat.mod_lt _ (by omega)
                  have hplc : J1.place k2 = pl := by unfold Jn.place; rw [hpl, hq, hs, HAE.out, HF1.out.2.1]
                  have w1 := IntWalk.i64_in (n := (A : Int) + (k2 : Int)) (by omega)
                  have w2 : (A : Int) + (k2 : Int) = (s : Int) := by omega
                  have w3 := IntWalk.i64_in (n := (s : Int)) (by omega)
                  have w4 : (s : Int).tmod (L : Int) = (q : Int) := by rw [Int.tmod_eq_emod_of_nonneg (by omega), hq, Int.natCast_emod]
                  have w5 : (s : Int) % (L : Int) = (q : Int) := by rw [hq, Int.natCast_emod]
                  have w6 := IntWalk.i64_in (n := (q : Int)) (by omega)
                  have w7 : IntKind.i64.wrap ((2 : Int) + (q : Int)) = (pl : Int) := by rw [IntWalk.i64_in (n := (2 : Int) + (q : Int)) (by omega)]; omega
                  have w8 : (2 : Int) + (q : Int) = (pl : Int) := by omega
                  have w9 := IntWalk.i64_in (n := (pl : Int)) (by omega)
                  obtain ⟨wk, hwk⟩ : ∃ wk, wk = Wk.wr pl (packS (sctOf 2 tn xn xd)) := ⟨_, rfl⟩
                  have hent : entWk J1 bl k2 = wk := by unfold entWk; rw [hplc, HSc.out, hwk]
                  rw [hent] at HTs HSp
                  obtain ⟨z, hz⟩ : ∃ z, z = wk.err Q := ⟨_, rfl⟩
                  have hS : Below wd.heap.size wd wd := Below.refl _ _
                  have HWr : Hid (∀ w', Below wd.heap.size wd w' → Calls Tryz.prog 78 #[rv r, .int .i64 (pl : Int), .slice (some ⟨gp, 0, none⟩) 64 cp] w' fun e w'' => e = .returned (.int .i64 z) ∧ RJ w'' m r J1 (wk.act Q) ∧ Only (m :: r.R) wd w'') := Lib.hid fun w' hb => by
                    have hj := HJd.out.below hb
                    refine Calls.mono (ry_wr hj.rf pl (sctOf 2 tn xn xd) gp cp (HBp.out.1.below hb) HBp.out.2) ?_
                    rintro e w'' ⟨rfl, h1, h2⟩
                    rw [← hwk] at h1
                    exact ⟨by rw [hz, hwk], hj.plate h1 h2 (act_n Q wk), (Only.of_below hb).trans (h2.mono fun b hb => List.mem_cons_of_mem _ hb)⟩
                  have HZ := Lib.hid hz
                  clear hs hq hpl hplc hqL hwk hent hz p0 p1 m0 m1 m3 m5
                  go_upto_region 27 with (fail)
                  go_cut [10] from 83 to 127 (fun v10 wx => v10 = .int .i64 z ∧ Hid (RJ wx m r J1 (wk.act Q)) ∧ Hid (Only (m :: r.R) wd wx))
                  case first =>
                    go_region_with ((go_at_call 78; ((with_reducible refine Calls.mono (HWr.out _ ?_) ?_); (first | with_reducible exact hS | with_reducible exact Below.drew hS | with_reducible exact Below.step hS (Below.new _ _) | with_reducible exact Below.step (Below.drew hS) (Below.new _ _) | with_reducible exact Below.drew (Below.step hS (Below.new _ _))); rintro e w9 ⟨rfl, hj9, ho9⟩; have HJ9 := Lib.hid hj9; have HO9 := Lib.hid ho9; clear hj9 ho9)))
                    all_goals
                      go_wp2
                      go_meet
                      exact ⟨rfl, HJ9, HO9⟩
                  case rest =>
                    obtain ⟨rfl, HJ9, HO9⟩ := hcut
                    have HOX := Lib.hid (HO.out.trans ((Only.of_below HBe.out).trans HO9.out))
                    clear w1 w2 w3 w4 w5 w6 w7 w8 w9 n0 n1 n3 hS
                    by_cases hz0 : z = 0
                    · subst hz0
                      have HR7 := Lib.hid (run_on HR.out.1 (x := wk) (by rw [HR.out.2, ← HZ.out]))
                      go_wp2_with fail
                      refine Calls.mono (rj_did0 HJ9.out HF1.out.1) ?_
                      rintro e w8 ⟨rfl, hj8, ho8⟩
                      have HJ8 := Lib.hid hj8
                      have HO8 := Lib.hid (HOX.out.trans (ho8.mono fun b hb => by simp at hb; rw [hb]; simp))
                      clear hj8 ho8
                      go_wp2
                      go_roundw
                      case rel => exact ⟨k2 + 1, by omega, by go_num, wk.act Q, Lib.hid (by rw [HTs.out]; have h1 := HR7.out; rw [HR.out.2] at h1; exact h1), HJ8, HO8⟩
                      case measure => simp [RowKit.intOf]; omega
                    · have hzb : (z != 0) = true := by simpa using hz0
                      have HRE : Hid (runE (J1.entriesW bl ++ [.fl, .wr (J1.place k) (packS (endSct tn k)), .fl]) P1 = z ∧ runP (J1.entriesW bl ++ [.fl, .wr (J1.place k) (packS (endSct tn k)), .fl]) P1 = wk.act Q) := Lib.hid (by
                        have h1 := run_stop (k := (J1.entriesW bl).drop (k2 + 1) ++ [.fl, .wr (J1.place k) (packS (endSct tn k)), .fl]) HR.out.1 (x := wk) (by rw [HR.out.2, ← HZ.out]; exact hz0)
                        rw [HR.out.2, ← HZ.out] at h1
                        rw [HSp.out]
                        exact h1)
                      have HJX := HJ9
                      clear hz0
                      go_wp2_with fail
                      refine Calls.mono (rj_did1 HJX.out HF1.out.1 z hzb) ?_
                      rintro e w8 ⟨rfl, hj8, ho8⟩
                      have HJ8 := Lib.hid hj8
                      have HO8 := Lib.hid (HOX.out.trans (ho8.mono fun b hb => by simp at hb; rw [hb]; simp))
                      clear hj8 ho8
                      go_wp2
                      go_ret
                      obtain ⟨e1, e2⟩ := HRE.out
                      obtain ⟨y1, y2, y3⟩ := HC1.out
                      rw [HWW.out, e1] at y1
                      rw [HWW.out, e2] at y2
                      rw [HWW.out, e1, if_pos (by simpa using hzb)] at y3
                      rw [y1, y2, y3]
                      exact ⟨rfl, HJ8.out, HOw.out.trans HO8.out⟩
              · obtain rfl : k2 = k := by omega
                have hfin : (J1.entriesW bl).take k2 = J1.entriesW bl := List.take_of_length_le (by rw [entriesW_len]; have := HBl.out; omega)
                rw [hfin] at HR
                obtain ⟨m0, m1, m3, m5⟩ := MR.out wr Q HJ.out
                obtain ⟨z1, hz1⟩ : ∃ z, z = Wk.fl.err Q := ⟨_, rfl⟩
                have hfl := ry_fl HJ.out.rf
                rw [← hz1] at hfl
                have HFl := Lib.hid hfl
                have HZ1 := Lib.hid hz1
                clear hfin hz1 hfl
                go_wp2_with fail
                refine Calls.mono HFl.out ?_
                rintro e w2 ⟨rfl, hr2, ho2⟩
                have HJ2 := Lib.hid (HJ.out.plate hr2 ho2 (act_n Q .fl))
                have HO2 := Lib.hid (HO.out.trans (ho2.mono fun b hb => List.mem_cons_of_mem _ hb))
                clear hr2 ho2 m0 m1 m3 m5
                by_cases hz : z1 = 0
                · have HR2 := Lib.hid (run_on (x := .fl) HR.out.1 (by rw [HR.out.2, ← HZ1.out]; exact hz))
                  subst hz
                  rw [HR.out.2] at HR2
                  obtain ⟨Q1, hQ1⟩ : ∃ Q1, Q1 = Wk.fl.act Q := ⟨_, rfl⟩
                  rw [← hQ1] at HJ2 HR2
                  obtain ⟨m0, m1, m3, m5⟩ := MR.out w2 Q1 HJ2.out
                  obtain ⟨s, hs⟩ : ∃ s : Nat, s = A + k2 := ⟨_, rfl⟩
                  obtain ⟨q, hq⟩ : ∃ q : Nat, q = s % L := ⟨_, rfl⟩
                  obtain ⟨pl, hpl⟩ : ∃ pl : Nat, pl = 2 + q := ⟨_, rfl⟩
                  have hqL : q < L := by rw [hq]; exact Nat.mod_lt _ (by omega)
                  have hplc : J1.place k2 = pl := by unfold Jn.place; rw [hpl, hq, hs, HAE.out, HF1.out.2.1]
                  rw [hplc] at HWW
                  have w1 := IntWalk.i64_in (n := (A : Int) + (k2 : Int)) (by omega)
                  have w2' : (A : Int) + (k2 : Int) = (s : Int) := by omega
                  have w3 := IntWalk.i64_in (n := (s : Int)) (by omega)
                  have w4 : (s : Int).tmod (L : Int) = (q : Int) := by rw [Int.tmod_eq_emod_of_nonneg (by omega), hq, Int.natCast_emod]
                  have w5 : (s : Int) % (L : Int) = (q : Int) := by rw [hq, Int.natCast_emod]
                  have w6 := IntWalk.i64_in (n := (q : Int)) (by omega)
                  have w7 : IntKind.i64.wrap ((2 : Int) + (q : Int)) = (pl : Int) := by rw [IntWalk.i64_in (n := (2 : Int) + (q : Int)) (by omega)]; omega
                  have w8 : (2 : Int) + (q : Int) = (pl : Int) := by omega
                  have w9 := IntWalk.i64_in (n := (pl : Int)) (by omega)
                  obtain ⟨sc, hsc⟩ : ∃ sc, sc = endSct tn k2 := ⟨_, rfl⟩
                  have hso : sctOf 3 tn k2 [] = sc := by rw [hsc]; unfold sctOf endSct; rw [blk_nil]
                  rw [← hsc] at HWW
                  obtain ⟨wk, hwk⟩ : ∃ wk, wk = Wk.wr pl (packS sc) := ⟨_, rfl⟩
                  rw [← hwk] at HWW
                  obtain ⟨z2, hz2⟩ : ∃ z, z = wk.err Q1 := ⟨_, rfl⟩
                  have hS : Below w2.heap.size w2 w2 := Below.refl _ _
                  have MK : Hid (∀ w', Below w2.heap.size w2 w' → w'.cell? ⟨m, 0, none⟩ = some (rv r) ∧ w'.cell? ⟨m, 1, none⟩ = some (.int .i64 (L : Int)) ∧ w'.cell? ⟨m, 3, none⟩ = some (.int .i64 (A : Int)) ∧ w'.cell? ⟨m, 5, none⟩ = some (.int .i64 (tn : Int))) := Lib.hid fun w' hb => ⟨keepc hb m0, keepc hb m1, keepc hb m3, keepc hb m5⟩
                  have HPk : Hid (∀ w', Below w2.heap.size w2 w' → Calls Tryz.prog 112 #[.agg #[.int .i64 3, .int .i64 (tn : Int), .int .i64 (k2 : Int), .slice none 0 0]] w' fun e w'' => ∃ gp cp, e = .returned (.slice (some ⟨gp, 0, none⟩) 64 cp) ∧ (Bys w'' (some ⟨gp, 0, none⟩) (packL sc) ∧ gp ∉ r.R) ∧ Below w'.heap.size w' w'') := Lib.hid fun w' hb => by
                    refine Calls.mono (ry_pack w' r Q1 (HJ2.out.below hb).rf 3 tn k2 [] none 0 0 rfl (by omega) (Bys.nil _ _) (fun _ => rfl) (by omega) (by omega) sc hso) ?_
                    rintro e w'' ⟨gp, cp, rfl, h1, h2, h3⟩
                    exact ⟨gp, cp, rfl, ⟨h1, h2⟩, h3⟩
                  have HWr : Hid (∀ w' gp cp, Below w2.heap.size w2 w' → (Bys w' (some ⟨gp, 0, none⟩) (packL sc) ∧ gp ∉ r.R) → Calls Tryz.prog 78 #[rv r, .int .i64 (pl : Int), .slice (some ⟨gp, 0, none⟩) 64 cp] w' fun e w'' => e = .returned (.int .i64 z2) ∧ (w''.cell? ⟨m, 0, none⟩ = some (rv r) ∧ w''.cell? ⟨m, 1, none⟩ = some (.int .i64 (L : Int)) ∧ w''.cell? ⟨m, 3, none⟩ = some (.int .i64 (A : Int)) ∧ w''.cell? ⟨m, 5, none⟩ = some (.int .i64 (tn : Int))) ∧ RJ w'' m r J1 (wk.act Q1) ∧ Only (m :: r.R) w2 w'') := Lib.hid fun w' gp cp hb hB => by
                    have hj := HJ2.out.below hb
                    refine Calls.mono (ry_wr hj.rf pl sc gp cp hB.1 hB.2) ?_
                    rintro e w'' ⟨rfl, h1, h2⟩
                    rw [← hwk] at h1
                    have hj2 := hj.plate h1 h2 (act_n Q1 wk)
                    exact ⟨by rw [hz2, hwk], MR.out _ _ hj2, hj2, (Only.of_below hb).trans (h2.mono fun b hb => List.mem_cons_of_mem _ hb)⟩
                  have HZ2 := Lib.hid hz2
                  clear hQ1 hs hq hpl hplc hqL hwk hz2 hsc hso
                  have hLn : ¬ L = 0 := by omega
                  go_upto_region 32 with (fail)
                  go_cut [11] from 133 to 160 (fun v11 wx => v11 = .int .i64 z2 ∧ Hid (RJ wx m r J1 (wk.act Q1)) ∧ Hid (Only (m :: r.R) w2 wx))
                  case first =>
                    go_region_held3 (fun w' => w'.cell? ⟨m, 0, none⟩ = some (rv r) ∧ w'.cell? ⟨m, 1, none⟩ = some (.int .i64 (L : Int)) ∧ w'.cell? ⟨m, 3, none⟩ = some (.int .i64 (A : Int)) ∧ w'.cell? ⟨m, 5, none⟩ = some (.int .i64 (tn : Int)))
                      (first | with_reducible exact hS6 | ((with_reducible refine MK.out _ ?_); (first | with_reducible exact hS | with_reducible exact Below.drew hS | with_reducible exact Below.step hS (Below.new _ _) | with_reducible exact Below.step (Below.drew hS) (Below.new _ _) | with_reducible exact Below.drew (Below.step hS (Below.new _ _)))))
                      ((first
                      | (go_at_call 112; go_loud ((with_reducible refine Calls.mono (HPk.out _ ?_) ?_); (first | with_reducible exact hS | with_reducible exact Below.drew hS | with_reducible exact Below.step hS (Below.new _ _) | with_reducible exact Below.step (Below.drew hS) (Below.new _ _) | with_reducible exact Below.drew (Below.step hS (Below.new _ _))); rintro e w5 ⟨gp, cp, rfl, hBp, hb⟩; have hS0 := hS; have hS : Below w2.heap.size w2 w5 := (by first | exact Below.step hS0 hb | exact Below.step hS0.drew hb); have HBp := Lib.hid hBp; clear hBp hb))
                      | (go_at_call 78; go_loud ((with_reducible refine Calls.mono (HWr.out _ _ _ ?_ HBp.out) ?_); (first | with_reducible exact hS | with_reducible exact Below.drew hS | with_reducible exact Below.step hS (Below.new _ _) | with_reducible exact Below.step (Below.drew hS) (Below.new _ _) | with_reducible exact Below.drew (Below.step hS (Below.new _ _))); rintro e w6 ⟨rfl, hS6, hj6, ho6⟩; have HJ6 := Lib.hid hj6; have HO6 := Lib.hid ho6; clear hj6 ho6))))
                    all_goals
                      go_wp2_with fail
                      go_meet
                      exact ⟨rfl, HJ6, HO6⟩
                  case rest =>
                    obtain ⟨rfl, HJ6, HO6⟩ := hcut
                    clear m0 m1 m3 m5 w1 w2' w3 w4 w5 w6 w7 w8 w9 hS
                    by_cases hz0 : z2 = 0
                    · subst hz0
                      have HR3 := Lib.hid (run_on (x := wk) HR2.out.1 (by rw [HR2.out.2, ← HZ2.out]))
                      rw [HR2.out.2] at HR3
                      obtain ⟨Q2, hQ2⟩ : ∃ Q2, Q2 = wk.act Q1 := ⟨_, rfl⟩
                      rw [← hQ2] at HJ6 HR3
                      obtain ⟨z3, hz3⟩ : ∃ z, z = Wk.fl.err Q2 := ⟨_, rfl⟩
                      have hfl := ry_fl HJ6.out.rf
                      rw [← hz3] at hfl
                      have HFl3 := Lib.hid hfl
                      have HZ3 := Lib.hid hz3
                      obtain ⟨m0, _, _, _⟩ := MR.out wc Q2 HJ6.out
                      clear hz3 hfl hQ2
                      go_wp2_with fail
                      refine Calls.mono HFl3.out ?_
                      rintro e w7 ⟨rfl, hr7, ho7⟩
                      have HJX := Lib.hid (HJ6.out.plate hr7 ho7 (act_n Q2 .fl))
                      have HOX := Lib.hid ((HO2.out.trans HO6.out).trans (ho7.mono fun b hb => List.mem_cons_of_mem _ hb))
                      clear hr7 ho7 m0
                      by_cases hz9 : z3 = 0
                      · have HRE : Hid (runE (J1.entriesW bl ++ [.fl, wk, .fl]) P1 = 0 ∧ runP (J1.entriesW bl ++ [.fl, wk, .fl]) P1 = Wk.fl.act Q2) := Lib.hid (by
                          have h1 := run_on (x := .fl) HR3.out.1 (by rw [HR3.out.2, ← HZ3.out]; exact hz9)
                          rw [HR3.out.2] at h1
                          simpa [List.append_assoc] using h1)
                        subst hz9
                        have HCC : Hid (commitE P J l = 0 ∧ commitP P J l = Wk.fl.act Q2 ∧ commitJ P J l = J1.wrote bl) := Lib.hid (by
                          obtain ⟨e1, e2⟩ := HRE.out
                          obtain ⟨y1, y2, y3⟩ := HC1.out
                          rw [HWW.out, e1] at y1
                          rw [HWW.out, e2] at y2
                          rw [HWW.out, e1] at y3
                          exact ⟨y1, y2, by rw [y3]; simp⟩)
                        obtain ⟨Q3, hQ3⟩ : ∃ Q3, Q3 = Wk.fl.act Q2 := ⟨_, rfl⟩
                        rw [← hQ3] at HCC HJX
                        have HQn : Hid (Q3.n = P.n) := Lib.hid (by
                          have h1 := HRE.out.2
                          rw [← hQ3] at h1
                          rw [← h1, runP_n, HPn.out])
                        clear hQ3 HRE HR3 HR2 HR HZ1 HZ2 HZ3 HC1 HWW
                        go_wp2_with fail
                        refine Calls.mono (rj_did0 HJX.out HF1.out.1) ?_
                        rintro e w8 ⟨rfl, hj8, ho8⟩
                        have HJ8 : Hid (RJ w8 m r (pendJ J1 (bl.take 0)) Q3) := Lib.hid hj8
                        have HO8 := Lib.hid (HOX.out.trans (ho8.mono fun b hb => by simp at hb; rw [hb]; simp))
                        clear hj8 ho8
                        go_wp2_with fail
                        go_loopw [12] (fun vi wx => ∃ k3 : Nat, k3 ≤ k2 ∧ vi = .int .i64 k3 ∧ Hid (RJ wx m r (pendJ J1 (bl.take k3)) Q3) ∧ Hid (Only (m :: r.R) wp wx)) (fun i _ => k2 - (RowKit.intOf i).toNat)
                        case atStart => exact ⟨0, by omega, rfl, HJ8, HO8⟩
                        case round =>
                          obtain ⟨k3, hk3, rfl, HJL, HOL⟩ := hrel
                          by_cases hlt3 : k3 < k2
                          · have hkl : k3 < l.length := by have := HN.out; omega
                            have hkb : k3 < bl.length := by have := HBl.out; omega
                            obtain ⟨g, rfl, hgn, hgl, da, dc, p0, p1, hd⟩ := (HPu2.out.only HOL.out fun b hb => mRN H.out hb).at_ hkl
                            obtain ⟨rt1, rt2, rt3⟩ := HRt.out _ (List.getElem_mem hkl)
                            have hts : bl.take (k3 + 1) = bl.take k3 ++ [(l[k3].1.toNat, blkOf l[k3].2)] := by
                              rw [List.take_succ_eq_append_getElem hkb]
                              congr 2
                              have h1 : bl[k3]? = some (l[k3].1.toNat, blkOf l[k3].2) := by
                                rw [HbE.out]
                                unfold blks
                                rw [List.getElem?_map, List.getElem?_eq_getElem hkl]
                                rfl
                              rw [List.getElem?_eq_getElem hkb] at h1
                              exact Option.some.inj h1
                            obtain ⟨x, hx⟩ : ∃ x, x = l[k3] := ⟨_, rfl⟩
                            rw [← hx] at p0 p1 hd rt1 rt2 rt3 hts
                            obtain ⟨xi, xd⟩ := x
                            simp only at p0 p1 hd rt1 rt2 rt3 hts
                            rw [rt3] at p1 hd
                            obtain ⟨xn, rfl⟩ : ∃ xn : Nat, xi = xn := ⟨xi.toNat, by omega⟩
                            rw [Int.toNat_natCast] at hts
                            have hxn : xn < B := by omega
                            have HTs : Hid (({ pendJ J1 (bl.take k3) with pend := upd (pendJ J1 (bl.take k3)).pend xn (some (blkOf xd)) } : Jn) = pendJ J1 (bl.take (k3 + 1))) := Lib.hid (by rw [hts]; unfold pendJ; rw [putAll_snoc])
                            have HXl := Lib.hid rt3
                            have HD := Lib.hid hd
                            have hgm : g ∉ [m] := by simp; intro e; exact hgn (by rw [e]; exact inN_ban H.out.bm)
                            have HGm := Lib.hid hgm
                            have HXB : Hid (xn < Q3.n - 2 - (pendJ J1 (bl.take k3)).log) := Lib.hid (by
                              show xn < Q3.n - 2 - J1.log
                              have h1 := HBB.out
                              have h2 := HF1.out.2.1
                              have h3 := HL.out
                              have h4 := HQn.out
                              omega)
                            clear hkl hkb hgn hgl hd rt1 rt2 rt3 hts hx hgm
                            have MK : Hid (∀ w', Below wr.heap.size wr w' → w'.cell? ⟨g, k3 * 2, none⟩ = some (.int .i64 (xn : Int)) ∧ w'.cell? ⟨g, k3 * 2 + 1, none⟩ = some (.slice da 48 dc)) := Lib.hid fun w' hb => ⟨keepc hb p0, keepc hb p1⟩
                            have HCp : Hid (∀ w', Below wr.heap.size wr w' → Calls Tryz.prog 64 #[.slice da 48 dc] w' fun e w'' => ∃ ea ec, e = .returned (.slice ea 48 ec) ∧ (Dat w'' r.N (.slice ea 48 ec) (bytesB (blkOf xd)) ∧ (ea = none → ec = 0)) ∧ Below w'.heap.size w' w'') := Lib.hid fun w' hb => by
                              have hxd := HXl.out
                              obtain ⟨a9, c9, e9, hB9, _, hc9⟩ := (HD.out.below hb).own.bys (by omega)
                              simp only [Value.slice.injEq] at e9
                              obtain ⟨rfl, e48, rfl⟩ := e9
                              refine Calls.mono (ry_copy w' da 48 dc xd hxd hB9 hc9 (by omega)) ?_
                              rintro e w'' ⟨u, rfl, ho, hb'⟩
                              obtain ⟨ea, ec, rfl, _, _, hec⟩ := ho.bys (by omega)
                              rw [hxd] at ho ⊢
                              rw [bytes_blk hxd]
                              exact ⟨ea, ec, rfl, ⟨Dat.of ho fun b hb2 => (HJL.out.below hb).rf.x.ltN b hb2, hec⟩, hb'⟩
                            have HHas : Hid (∀ w' ea ec, Below wr.heap.size wr w' → (Dat w' r.N (.slice ea 48 ec) (bytesB (blkOf xd)) ∧ (ea = none → ec = 0)) → Calls Tryz.prog 114 #[mv m, .agg #[.int .i64 (xn : Int), .slice ea 48 ec]] w' fun e w'' => (∃ u, e = .returned u) ∧ (w''.cell? ⟨g, k3 * 2, none⟩ = some (.int .i64 (xn : Int)) ∧ w''.cell? ⟨g, k3 * 2 + 1, none⟩ = some (.slice da 48 dc)) ∧ RJ w'' m r (pendJ J1 (bl.take (k3 + 1))) Q3 ∧ Only (m :: r.R) wr w'') := Lib.hid fun w' ea ec hb hB => by
                              refine Calls.mono (rj_has (HJL.out.below hb) (xn, blkOf xd) ea ec HXB.out hB.1 (flat_blkOf _) hB.2) ?_
                              rintro e w'' ⟨hu, hj, ho⟩
                              obtain ⟨x0, x1⟩ := MK.out w' hb
                              rw [HTs.out] at hj
                              exact ⟨hu, ⟨ho.cell HGm.out x0, ho.cell HGm.out x1⟩, hj, (Only.of_below hb).trans (ho.mono fun b hb => by simp at hb; rw [hb]; simp)⟩
                            have hS : Below wr.heap.size wr wr := Below.refl _ _
                            go_upto_region 40 with (fail)
                            go_region_held3 (fun w' => w'.cell? ⟨g, k3 * 2, none⟩ = some (.int .i64 (xn : Int)) ∧ w'.cell? ⟨g, k3 * 2 + 1, none⟩ = some (.slice da 48 dc))
                              (first | with_reducible exact hS6 | ((with_reducible refine MK.out _ ?_); (first | with_reducible exact hS | with_reducible exact Below.drew hS | with_reducible exact Below.step hS (Below.new _ _) | with_reducible exact Below.step (Below.drew hS) (Below.new _ _) | with_reducible exact Below.drew (Below.step hS (Below.new _ _)))))
                              ((first
                              | (go_at_call 64; go_loud ((with_reducible refine Calls.mono (HCp.out _ ?_) ?_); (first | with_reducible exact hS | with_reducible exact Below.drew hS | with_reducible exact Below.step hS (Below.new _ _) | with_reducible exact Below.step (Below.drew hS) (Below.new _ _) | with_reducible exact Below.drew (Below.step hS (Below.new _ _))); rintro e w5 ⟨ea, ec, rfl, hBp, hb⟩; have hS0 := hS; have hS : Below wr.heap.size wr w5 := (by first | exact Below.step hS0 hb | exact Below.step hS0.drew hb); have HBp := Lib.hid hBp; clear hBp hb))
                              | (go_at_call 114; go_loud ((with_reducible refine Calls.mono (HHas.out _ _ _ ?_ HBp.out) ?_); (first | with_reducible exact hS | with_reducible exact Below.drew hS | with_reducible exact Below.step hS (Below.new _ _) | with_reducible exact Below.step (Below.drew hS) (Below.new _ _) | with_reducible exact Below.drew (Below.step hS (Below.new _ _))); rintro e w6 ⟨⟨u, rfl⟩, hS6, hj6, ho6⟩; have HJ6 := Lib.hid hj6; have HO6 := Lib.hid ho6; clear hj6 ho6))))
                            all_goals
                              go_wp2_with fail
                              go_roundw
                              case rel => exact ⟨k3 + 1, by omega, by go_num, HJ6, Lib.hid (HOL.out.trans HO6.out)⟩
                              case measure => simp [RowKit.intOf]; omega
                          · obtain rfl : k3 = k2 := by omega
                            have hfin : bl.take k3 = bl := List.take_of_length_le (by have := HBl.out; omega)
                            rw [hfin] at HJL
                            have HMv := Lib.hid (rj_movesZ HJL.out (k3 + 1) ((k3 : Int) + 1) (by omega) (by show J1.used + (k3 + 1) ≤ J1.log; have h1 := HF1.out.2.2.2.1; have h2 := HF1.out.2.1; omega) (by show J1.turn < _; have h1 := HTN.out; have h2 := HTn.out; omega))
                            have HEq : Hid (movedJ (pendJ J1 bl) (k3 + 1) = J1.wrote bl) := Lib.hid (by
                              unfold movedJ pendJ Jn.wrote
                              simp only [HBl.out, Nat.add_assoc])
                            clear hfin
                            go_wp2_with fail
                            refine Calls.mono HMv.out ?_
                            rintro e w9 ⟨⟨u, rfl⟩, hj9, ho9⟩
                            have HJ9 := Lib.hid hj9
                            have HO9 := Lib.hid (HOL.out.trans (ho9.mono fun b hb => by simp at hb; rw [hb]; simp))
                            clear hj9 ho9
                            go_wp2
                            go_ret
                            obtain ⟨y1, y2, y3⟩ := HCC.out
                            rw [y1, y2, y3, ← HEq.out]
                            exact ⟨rfl, HJ9.out, HOw.out.trans HO9.out⟩
                      · have hzb : (z3 != 0) = true := by simpa using hz9
                        have HRE : Hid (runE (J1.entriesW bl ++ [.fl, wk, .fl]) P1 = z3 ∧ runP (J1.entriesW bl ++ [.fl, wk, .fl]) P1 = Wk.fl.act Q2) := Lib.hid (by
                          have h1 := run_stop (k := []) (x := .fl) HR3.out.1 (by rw [HR3.out.2, ← HZ3.out]; exact hz9)
                          rw [HR3.out.2, ← HZ3.out] at h1
                          simpa [List.append_assoc] using h1)
                        clear hz9
                        go_wp2_with fail
                        refine Calls.mono (rj_did1 HJX.out HF1.out.1 z3 hzb) ?_
                        rintro e w8 ⟨rfl, hj8, ho8⟩
                        have HJ8 := Lib.hid hj8
                        have HO8 := Lib.hid (HOX.out.trans (ho8.mono fun b hb => by simp at hb; rw [hb]; simp))
                        clear hj8 ho8
                        go_wp2
                        go_ret
                        obtain ⟨e1, e2⟩ := HRE.out
                        obtain ⟨y1, y2, y3⟩ := HC1.out
                        rw [HWW.out, e1] at y1
                        rw [HWW.out, e2] at y2
                        rw [HWW.out, e1, if_pos (by simpa using hzb)] at y3
                        rw [y1, y2, y3]
                        exact ⟨rfl, HJ8.out, HOw.out.trans HO8.out⟩
                    · have hzb : (z2 != 0) = true := by simpa using hz0
                      have HRE : Hid (runE (J1.entriesW bl ++ [.fl, wk, .fl]) P1 = z2 ∧ runP (J1.entriesW bl ++ [.fl, wk, .fl]) P1 = wk.act Q1) := Lib.hid (by
                        have h1 := run_stop (k := [.fl]) (x := wk) HR2.out.1 (by rw [HR2.out.2, ← HZ2.out]; exact hz0)
                        rw [HR2.out.2, ← HZ2.out] at h1
                        simpa [List.append_assoc] using h1)
                      have HJX := HJ6
                      have HOX := Lib.hid (HO2.out.trans HO6.out)
                      clear hz0
                      go_wp2_with fail
                      refine Calls.mono (rj_did1 HJX.out HF1.out.1 z2 hzb) ?_
                      rintro e w8 ⟨rfl, hj8, ho8⟩
                      have HJ8 := Lib.hid hj8
                      have HO8 := Lib.hid (HOX.out.trans (ho8.mono fun b hb => by simp at hb; rw [hb]; simp))
                      clear hj8 ho8
                      go_wp2
                      go_ret
                      obtain ⟨e1, e2⟩ := HRE.out
                      obtain ⟨y1, y2, y3⟩ := HC1.out
                      rw [HWW.out, e1] at y1
                      rw [HWW.out, e2] at y2
                      rw [HWW.out, e1, if_pos (by simpa using hzb)] at y3
                      rw [y1, y2, y3]
                      exact ⟨rfl, HJ8.out, HOw.out.trans HO8.out⟩
                · have hzb : (z1 != 0) = true := by simpa using hz
                  have HRE : Hid (runE (J1.entriesW bl ++ [.fl, .wr (J1.place k2) (packS (endSct tn k2)), .fl]) P1 = z1 ∧ runP (J1.entriesW bl ++ [.fl, .wr (J1.place k2) (packS (endSct tn k2)), .fl]) P1 = Wk.fl.act Q) := Lib.hid (by
                    have h1 := run_stop (k := [.wr (J1.place k2) (packS (endSct tn k2)), .fl]) (x := .fl) HR.out.1 (by rw [HR.out.2, ← HZ1.out]; exact hz)
                    rw [HR.out.2, ← HZ1.out] at h1
                    exact h1)
                  have HJX := HJ2
                  have HOX := HO2
                  clear hz
                  go_wp2_with fail
                  refine Calls.mono (rj_did1 HJX.out HF1.out.1 z1 hzb) ?_
                  rintro e w8 ⟨rfl, hj8, ho8⟩
                  have HJ8 := Lib.hid hj8
                  have HO8 := Lib.hid (HOX.out.trans (ho8.mono fun b hb => by simp at hb; rw [hb]; simp))
                  clear hj8 ho8
                  go_wp2
                  go_ret
                  obtain ⟨e1, e2⟩ := HRE.out
                  obtain ⟨y1, y2, y3⟩ := HC1.out
                  rw [HWW.out, e1] at y1
                  rw [HWW.out, e2] at y2
                  rw [HWW.out, e1, if_pos (by simpa using hzb)] at y3
                  rw [y1, y2, y3]
                  exact ⟨rfl, HJ8.out, HOw.out.trans HO8.out⟩
end
end Go.Proofs.YtdhidcoglioalaaGreat.Walks
