/-
  A journal is opened.
-/
import Derived.Test.YtdhidcoglioalaaGreatM30
namespace Go.Proofs.YtdhidcoglioalaaGreat.Walks
open Go.RowKit Plain
set_option linter.unusedVariables false
def OpenR (w w' : World) (q : PLoc) (P : Pl) (e : Ending) : Prop :=
  if openE P ≠ 0 then e = .returned (.tuple #[.pointer none, .int .i64 (openE P)]) ∧ PlateAt w' q P.flush ∧ Only q.R w w'
  else ∃ j J, openJ P.flush = some J ∧ e = .returned (.tuple #[jv j, .int .i64 0]) ∧ JP w' j (q.banX [j.p, j.m]) J P.flush ∧ w.heap.size ≤ j.p ∧ w.heap.size ≤ j.m ∧ Only q.R w w'
theorem headAt_facts {P : Pl} {i : Nat} {d : Hd} (h : headAt P i = some d) : 0 < d.turn ∧ d.turn < 1099511627776 ∧ 2 ≤ d.log ∧ d.log + 3 ≤ P.n ∧ d.at_ < d.log ∧ 0 < d.next ∧ d.next < 1099511627776 := by
  unfold headAt at h
  split at h
  · rename_i hc
    cases h
    obtain ⟨_, h2⟩ := hc
    unfold hdOk logMay at h2
    simp only [Bool.and_eq_true, decide_eq_true_eq] at h2
    obtain ⟨⟨⟨⟨⟨⟨_, _⟩, h3⟩, h4⟩, h5⟩, h6⟩, _⟩ := h2
    have g1 := getN_lt (cutS (P.seen i) 1 5)
    have g2 := getN_lt (cutS (P.seen i) 10 5)
    rw [cutS_length] at g1 g2
    exact ⟨h3, g1, h4.1, h4.2, h5, h6, g2⟩
  · cases h
theorem openJ_on {P : Pl} {d : Hd} (h : heads2 P = some d) : openJ P = goesOn P.seen (P.n - 2 - d.log) d.log (hdJ d) := by
  unfold openJ goesOn hdJ
  rw [h]
  rfl
theorem flush_alive {P : Pl} (h : P.flushE = 0) : P.flush.dead = false ∧ P.flush.n = P.n := by
  have hn : P.flush.n = P.n := act_n P Wk.fl
  refine ⟨?_, hn⟩
  unfold Pl.flushE at h
  unfold Pl.flush
  cases hd : P.dead
  · rw [hd] at h
    simp only [Bool.false_eq_true, if_false] at h ⊢
    cases hg : P.goes
    · simp only [Bool.false_eq_true, if_false]
      show P.did.dead = false
      unfold Pl.did
      unfold Pl.goes at hg
      cases hf : P.fails
      · simp [hd]
      · rw [hf] at hg
        have hl : 0 < P.left := by simpa using hg
        simp [hl, hd]
    · rw [hg] at h; cases h
  · rw [hd] at h; cases h
theorem only_fresh {R X : List Nat} {w w1 w2 : World} (h1 : Only R w w1) (h2 : Only (X ++ R) w1 w2) (hX : ∀ x ∈ X, w.heap.size ≤ x) : Only R w w2 := by
  refine ⟨h2.os.trans h1.os, h2.tape.trans h1.tape, h2.output.trans h1.output, Nat.le_trans h1.size h2.size, fun b hb hn => ?_⟩
  refine (h2.block b (Nat.lt_of_lt_of_le hb h1.size) fun hm => ?_).trans (h1.block b hb hn)
  rcases List.mem_append.1 hm with hm | hm
  · have := hX b hm; omega
  · exact hn hm
section
variable {w w' : World} {j : JLoc} {q : PLoc} {J J' : Jn} {P P' : Pl}
theorem JAt.ban (h : JAt w j q J) (X : List Nat) : JAt w j (q.banX X) J := ⟨h.c0, h.c1, h.c2, h.c3, h.c4, h.c5, h.c6, h.c7, h.fz, h.mp⟩
set_option maxRecDepth 10000 in
set_option maxHeartbeats 4000000 in
theorem open_any (w : World) (q : PLoc) (P : Pl) (h : PlateAt w q P) : Calls Tryz.prog 10 #[pv q] w fun e w' => OpenR w w' q P e := by
  have hFl := flush_any w q P h
  by_cases hf : P.flushE = 0
  · rw [hf] at hFl
    have HFl := Lib.hid hFl
    obtain ⟨had, hnn⟩ := flush_alive hf
    have HE : Hid (openE P = match openJ P.flush with | none => 70 | some _ => 0) := Lib.hid (by unfold openE; rw [hf, if_neg (by simp)]; rfl)
    have hlt : ∀ b ∈ q.R, b < w.heap.size := h.lt
    have HLt := Lib.hid hlt
    have hpos := h.ok.pos
    have hn4 := h.ok.most
    obtain ⟨F, hF⟩ : ∃ F, F = P.flush := ⟨_, rfl⟩
    rw [← hF] at HFl HE had hnn
    have HF := Lib.hid hF
    have HAd := Lib.hid had
    have hn4F : F.n ≤ 4096 := by omega
    have bad : ∀ (w' : World) (e : Ending), openJ F = none → e = .returned (.tuple #[.pointer none, .int .i64 70]) → PlateAt w' q F → Only q.R w w' → OpenR w w' q P e := by
      intro w' e hJ he hp ho
      have hE : openE P = 70 := by rw [HE.out, hJ]
      unfold OpenR
      rw [hE, if_pos (by decide), ← hF]
      exact ⟨he, hp, ho⟩
    have good : ∀ (w' : World) (e : Ending) (j : JLoc) (J : Jn), openJ F = some J → e = .returned (.tuple #[jv j, .int .i64 0]) → JP w' j (q.banX [j.p, j.m]) J F → w.heap.size ≤ j.p → w.heap.size ≤ j.m → Only q.R w w' → OpenR w w' q P e := by
      intro w' e j J hJ he hp h1 h2 ho
      have hE : openE P = 0 := by rw [HE.out, hJ]
      unfold OpenR
      rw [hE, if_neg (by simp), ← hF]
      exact ⟨j, J, hJ, he, hp, h1, h2, ho⟩
    have HBad := Lib.hid bad
    have HGood := Lib.hid good
    clear hFl h hf had hnn hF hlt hn4 HE bad good hpos
    go_enter Tryz.func10, Tryz.ntmps10
    go_wp2_with fail
    refine Calls.mono HFl.out ?_
    rintro e w1 ⟨rfl, hp1, ho1⟩
    have HP1 := Lib.hid hp1
    have HO1 := Lib.hid ho1
    have HA0 := Lib.hid (headAt_any w1 q F hp1 0)
    clear hp1 ho1
    go_wp2_with fail
    refine Calls.mono HA0.out ?_
    rintro e w2 ⟨⟨v0, rfl, hd0⟩, hb2⟩
    have HD0 := Lib.hid hd0
    have HB2 := Lib.hid hb2
    have HA1 := Lib.hid (headAt_any w2 q F (HP1.out.below hb2) 1)
    clear hd0 hb2
    go_wp2_with fail
    refine Calls.mono HA1.out ?_
    rintro e w3 ⟨⟨v1, rfl, hd1⟩, hb3⟩
    have HD1 := Lib.hid hd1
    have HB3 := Lib.hid (Below.step HB2.out hb3)
    have HB23 := Lib.hid hb3
    have HP3 := Lib.hid (HP1.out.below HB3.out)
    clear hd1 hb3 HA0 HA1 HFl
    cases hA : headAt F 0 with
    | none =>
      have hJ : openJ F = none := by unfold openJ heads2; rw [hA]
      have HJ := Lib.hid hJ
      simp only [Option.isSome_none]
      clear hJ
      go_wp2_with fail
      go_quiet (fail)
      go_wp2
      refine bodyPost_ret (results_tmp2 rfl _ _ _) rfl ?_
      exact HBad.out _ _ HJ.out rfl (HP3.out.drewN _) ((HO1.out.trans (Only.of_below HB3.out)).drewN _)
    | some a =>
      cases hB : headAt F 1 with
      | none =>
        have hJ : openJ F = none := by unfold openJ heads2; rw [hA, hB]
        have HJ := Lib.hid hJ
        simp only [Option.isSome_none, Option.isSome_some]
        clear hJ hA hB
        go_wp2_with fail
        go_quiet (fail)
        go_wp2
        refine bodyPost_ret (results_tmp2 rfl _ _ _) rfl ?_
        exact HBad.out _ _ HJ.out rfl (HP3.out.drewN _) ((HO1.out.trans (Only.of_below HB3.out)).drewN _)
      | some b =>
        simp only [Option.isSome_some]
        obtain ⟨ga, ma, rfl, hga, hma, hja⟩ := HD0.out a hA
        obtain ⟨gb, mb, rfl, hgb, hmb, hjb⟩ := HD1.out b hB
        have hja3 := hja.below HB23.out
        obtain ⟨a1, a2, a3, a4, a5, a6, a7⟩ := headAt_facts hA
        obtain ⟨b1, b2, b3, b4, b5, b6, b7⟩ := headAt_facts hB
        have la : w3.cell? ⟨ga, 1, none⟩ = some (.int .i64 (a.log : Int)) := hja3.c1
        have ta : w3.cell? ⟨ga, 2, none⟩ = some (.int .i64 (a.turn : Int)) := hja3.c2
        have lb : w3.cell? ⟨gb, 1, none⟩ = some (.int .i64 (b.log : Int)) := hjb.c1
        have tb : w3.cell? ⟨gb, 2, none⟩ = some (.int .i64 (b.turn : Int)) := hjb.c2
        have H2 : Hid (heads2 F = if a.log = b.log ∧ (a.turn = b.turn + 1 ∨ b.turn = a.turn + 1) then some (if b.turn > a.turn then b else a) else none) := Lib.hid (by unfold heads2; rw [hA, hB])
        have HJA := Lib.hid hja3
        have HJB := Lib.hid hjb
        have HGa : Hid (w1.heap.size ≤ ga ∧ w1.heap.size ≤ ma) := Lib.hid ⟨hga, hma⟩
        have HGb : Hid (w1.heap.size ≤ gb ∧ w1.heap.size ≤ mb) := Lib.hid ⟨Nat.le_trans HB2.out.size hgb, Nat.le_trans HB2.out.size hmb⟩
        have HFa : Hid ((hdJ a).Ok F.n) := Lib.hid ⟨a3, a4, a5, Nat.zero_le _, by show a.next ≤ _; omega, by show a.turn ≤ _; omega, a1, fun _ _ => rfl, fun _ _ e => by cases e⟩
        have HFb : Hid ((hdJ b).Ok F.n) := Lib.hid ⟨b3, b4, b5, Nat.zero_le _, by show b.next ≤ _; omega, by show b.turn ≤ _; omega, b1, fun _ _ => rfl, fun _ _ e => by cases e⟩
        have HNa := Lib.hid a7
        have HNb := Lib.hid b7
        clear hja3 hja hjb hga hma hgb hmb hA hB a1 a3 a5 a6 a7 b1 b3 b5 b6 b7 HD0 HD1 HB23 HB2
        by_cases hl : a.log = b.log
        · by_cases h1 : a.turn = b.turn + 1
          · have hs : IntKind.i64.wrap ((a.turn : Int) - (b.turn : Int)) = 1 := by rw [IntKind.wrap_i64]; omega
            have hgt : ¬ (a.turn < b.turn) := by omega
            have H3 : Hid (heads2 F = some a) := Lib.hid (by rw [H2.out, if_pos ⟨hl, .inl h1⟩, if_neg (by omega)])
            clear H2 h1
            rw [← hl] at lb
            clear hl
            have HOn : Hid (openJ F = goesOn F.seen (F.n - 2 - a.log) a.log (hdJ a)) := Lib.hid (openJ_on H3.out)
            have HJ0 : Hid (JP w3 ⟨ga, ma⟩ (q.banX [ga, ma]) (hdJ a) F) := Lib.hid ⟨HP1.out.reban HB3.out (fun x hx => by simp only [List.mem_cons, List.not_mem_nil, or_false] at hx; rcases hx with rfl | rfl; exact ⟨HGa.out.1, HJA.out.ltP⟩; exact ⟨HGa.out.2, HJA.out.mp.lt⟩), HJA.out.ban _, HFa.out, by simp [PLoc.banX], by simp [PLoc.banX], fun hm => Nat.lt_irrefl _ (Nat.lt_of_lt_of_le (HP1.out.lt _ hm) HGa.out.1), fun hm => Nat.lt_irrefl _ (Nat.lt_of_lt_of_le (HP1.out.lt _ hm) HGa.out.2)⟩
            have HX : Hid (∀ x ∈ [ga, ma], w.heap.size ≤ x) := Lib.hid fun x hx => by
              simp only [List.mem_cons, List.not_mem_nil, or_false] at hx
              rcases hx with rfl | rfl
              · exact Nat.le_trans HO1.out.size HGa.out.1
              · exact Nat.le_trans HO1.out.size HGa.out.2
            go_wp2_with fail
            go_quiet (fail)
            go_wp2_with fail
            go_quiet (fail)
            go_wp2_with fail
            generalize hw4 : w3.drewN _ = w4
            have hb34 : Below w3.heap.size w3 w4 := by rw [← hw4]; exact below_drewN (Below.refl _ _) _
            have HJ4 := Lib.hid (HJ0.out.below hb34)
            have HO4 := Lib.hid ((HO1.out.trans (Only.of_below HB3.out)).trans (Only.of_below hb34))
            obtain ⟨R, hR⟩ : ∃ R, R = openJ F := ⟨_, rfl⟩
            rw [← hR] at HOn
            have HR := Lib.hid hR
            clear hw4 hb34 HJ0 HJA HJB HGa HGb HFa HFb HO1 HB3 HP3 HP1 H3 hR la lb ta tb
            go_loopw [9] (fun v9 wr => ∃ (left : Nat) (J' : Jn), v9 = .int .i64 left ∧ left ≤ 4096 ∧ Hid (J'.broken = false ∧ J'.log = a.log ∧ J'.used + left = a.log ∧ J'.turn + left ≤ a.next + a.log) ∧ Hid (JP wr ⟨ga, ma⟩ (q.banX [ga, ma]) J' F) ∧ Hid (Only q.R w wr) ∧ Hid (goesOn F.seen (F.n - 2 - a.log) left J' = R)) (fun v9 _ => (RowKit.intOf v9).toNat)
            case atStart => exact ⟨a.log, hdJ a, rfl, by omega, Lib.hid ⟨rfl, rfl, Nat.zero_add _, Nat.le_refl _⟩, HJ4, HO4, Lib.hid HOn.out.symm⟩
            case round =>
              obtain ⟨left, J', rfl, hle, HFc, HJ5, HO5, HGo⟩ := hrel
              by_cases h0 : left = 0
              · subst h0
                have hj : R = some J' := by rw [← HGo.out]; exact goesOn_zero _ _ _ HFc.out.1
                rw [HR.out] at hj
                have HJJ := Lib.hid hj
                clear hj
                go_wp2
                refine bodyPost_ret (results_tmp2 rfl _ _ _) rfl ?_
                exact HGood.out _ _ ⟨ga, ma⟩ J' HJJ.out rfl HJ5.out (HX.out _ (by simp)) (HX.out _ (by simp)) HO5.out
              · have hsc := goesOn_scan F.seen (F.n - 2 - a.log) left J' HFc.out.1
                rw [HGo.out, HFc.out.2.1] at hsc
                have hnx := next_any HJ5.out HFc.out.1 HAd.out (by have := HFc.out.2.2.2; have := HNa.out; omega) left (by have := HFc.out; omega)
                rw [HFc.out.2.1] at hnx
                obtain ⟨sc, hs⟩ : ∃ sc, sc = scanL F.seen a.log (F.n - 2 - a.log) J'.at_ J'.turn left [] := ⟨_, rfl⟩
                rw [← hs] at hsc hnx
                have HS := Lib.hid hs
                have HNxt := Lib.hid hnx
                have HSc := Lib.hid hsc
                clear hsc hnx hs
                have hp0 : 0 < left := by omega
                go_wp2_with fail
                refine Calls.mono HNxt.out ?_
                intro e w5 hN
                cases sc with
                | bad =>
                  obtain ⟨rfl, hj, ho⟩ := hN
                  have HJ6 := Lib.hid hj
                  have HO6 := Lib.hid (only_fresh HO5.out ho HX.out)
                  have HRn : Hid (openJ F = none) := Lib.hid (by rw [← HR.out]; exact HSc.out)
                  clear hj ho
                  go_wp2
                  refine bodyPost_ret (results_tmp2 rfl _ _ _) rfl ?_
                  exact HBad.out _ _ HRn.out rfl HJ6.out.pl.unban HO6.out
                | stop =>
                  obtain ⟨rfl, hj, ho⟩ := hN
                  have HJ6 := Lib.hid hj
                  have HO6 := Lib.hid (only_fresh HO5.out ho HX.out)
                  have HRs : Hid (openJ F = some J') := Lib.hid (by rw [← HR.out]; exact HSc.out)
                  clear hj ho
                  go_wp2
                  refine bodyPost_ret (results_tmp2 rfl _ _ _) rfl ?_
                  exact HGood.out _ _ ⟨ga, ma⟩ J' HRs.out rfl HJ6.out (HX.out _ (by simp)) (HX.out _ (by simp)) HO6.out
                | found k =>
                  obtain ⟨rfl, hj, ho⟩ := hN
                  have HJ6 := Lib.hid hj
                  have HO6 := Lib.hid (only_fresh HO5.out ho HX.out)
                  obtain ⟨f1, f2, _, _⟩ := scan_found _ _ _ HS.out.symm
                  have HG6 : Hid (goesOn F.seen (F.n - 2 - a.log) (left - (k.length + 1)) (J'.wrote k) = R) := Lib.hid HSc.out.symm
                  obtain ⟨m, hm⟩ : ∃ m, m = k.length := ⟨_, rfl⟩
                  simp only [List.length_nil, Nat.zero_add] at f1
                  have HM := Lib.hid hm
                  rw [← hm] at f1 ⊢
                  have e9 : ((left - (m + 1) : Nat) : Int) = (left : Int) - ((m + 1 : Nat) : Int) := by omega
                  have HE9 := Lib.hid e9
                  have hm1 : ¬ (((m + 1 : Nat) : Int) = 0) := by omega
                  clear hj ho hm e9 f2
                  go_wp2
                  go_roundw
                  case rel => exact ⟨left - (m + 1), J'.wrote k, by rw [HE9.out]; go_num, by omega, Lib.hid ⟨HFc.out.1, HFc.out.2.1, by have h1 := HFc.out.2.2.1; have h2 := HM.out; show J'.used + k.length + 1 + _ = _; omega, by have h1 := HFc.out.2.2.2; have h2 := HM.out; show J'.turn + 1 + _ ≤ _; omega⟩, HJ6, HO6, by rw [HM.out]; exact HG6⟩
                  case measure => simp [RowKit.intOf]; omega
          · by_cases h2 : b.turn = a.turn + 1
            · have hs : IntKind.i64.wrap ((a.turn : Int) - (b.turn : Int)) = -1 := by rw [IntKind.wrap_i64]; omega
              have hs2 : IntKind.i64.wrap ((b.turn : Int) - (a.turn : Int)) = 1 := by rw [IntKind.wrap_i64]; omega
              have hgt : a.turn < b.turn := by omega
              have H3 : Hid (heads2 F = some b) := Lib.hid (by rw [H2.out, if_pos ⟨hl, .inr h2⟩, if_pos (by omega)])
              clear H2 h1 h2
              rw [hl] at la
              clear hl
              have HOn : Hid (openJ F = goesOn F.seen (F.n - 2 - b.log) b.log (hdJ b)) := Lib.hid (openJ_on H3.out)
              have HJ0 : Hid (JP w3 ⟨gb, mb⟩ (q.banX [gb, mb]) (hdJ b) F) := Lib.hid ⟨HP1.out.reban HB3.out (fun x hx => by simp only [List.mem_cons, List.not_mem_nil, or_false] at hx; rcases hx with rfl | rfl; exact ⟨HGb.out.1, HJB.out.ltP⟩; exact ⟨HGb.out.2, HJB.out.mp.lt⟩), HJB.out.ban _, HFb.out, by simp [PLoc.banX], by simp [PLoc.banX], fun hm => Nat.lt_irrefl _ (Nat.lt_of_lt_of_le (HP1.out.lt _ hm) HGb.out.1), fun hm => Nat.lt_irrefl _ (Nat.lt_of_lt_of_le (HP1.out.lt _ hm) HGb.out.2)⟩
              have HX : Hid (∀ x ∈ [gb, mb], w.heap.size ≤ x) := Lib.hid fun x hx => by
                simp only [List.mem_cons, List.not_mem_nil, or_false] at hx
                rcases hx with rfl | rfl
                · exact Nat.le_trans HO1.out.size HGb.out.1
                · exact Nat.le_trans HO1.out.size HGb.out.2
              go_wp2_with fail
              go_quiet (fail)
              go_wp2_with fail
              go_quiet (fail)
              go_wp2_with fail
              generalize hw4 : w3.drewN _ = w4
              have hb34 : Below w3.heap.size w3 w4 := by rw [← hw4]; exact below_drewN (Below.refl _ _) _
              have HJ4 := Lib.hid (HJ0.out.below hb34)
              have HO4 := Lib.hid ((HO1.out.trans (Only.of_below HB3.out)).trans (Only.of_below hb34))
              obtain ⟨R, hR⟩ : ∃ R, R = openJ F := ⟨_, rfl⟩
              rw [← hR] at HOn
              have HR := Lib.hid hR
              clear hw4 hb34 HJ0 HJA HJB HGa HGb HFa HFb HO1 HB3 HP3 HP1 H3 hR la lb ta tb
              go_loopw [9] (fun v9 wr => ∃ (left : Nat) (J' : Jn), v9 = .int .i64 left ∧ left ≤ 4096 ∧ Hid (J'.broken = false ∧ J'.log = b.log ∧ J'.used + left = b.log ∧ J'.turn + left ≤ b.next + b.log) ∧ Hid (JP wr ⟨gb, mb⟩ (q.banX [gb, mb]) J' F) ∧ Hid (Only q.R w wr) ∧ Hid (goesOn F.seen (F.n - 2 - b.log) left J' = R)) (fun v9 _ => (RowKit.intOf v9).toNat)
              case atStart => exact ⟨b.log, hdJ b, rfl, by omega, Lib.hid ⟨rfl, rfl, Nat.zero_add _, Nat.le_refl _⟩, HJ4, HO4, Lib.hid HOn.out.symm⟩
              case round =>
                obtain ⟨left, J', rfl, hle, HFc, HJ5, HO5, HGo⟩ := hrel
                by_cases h0 : left = 0
                · subst h0
                  have hj : R = some J' := by rw [← HGo.out]; exact goesOn_zero _ _ _ HFc.out.1
                  rw [HR.out] at hj
                  have HJJ := Lib.hid hj
                  clear hj
                  go_wp2
                  refine bodyPost_ret (results_tmp2 rfl _ _ _) rfl ?_
                  exact HGood.out _ _ ⟨gb, mb⟩ J' HJJ.out rfl HJ5.out (HX.out _ (by simp)) (HX.out _ (by simp)) HO5.out
                · have hsc := goesOn_scan F.seen (F.n - 2 - b.log) left J' HFc.out.1
                  rw [HGo.out, HFc.out.2.1] at hsc
                  have hnx := next_any HJ5.out HFc.out.1 HAd.out (by have := HFc.out.2.2.2; have := HNb.out; omega) left (by have := HFc.out; omega)
                  rw [HFc.out.2.1] at hnx
                  obtain ⟨sc, hs⟩ : ∃ sc, sc = scanL F.seen b.log (F.n - 2 - b.log) J'.at_ J'.turn left [] := ⟨_, rfl⟩
                  rw [← hs] at hsc hnx
                  have HS := Lib.hid hs
                  have HNxt := Lib.hid hnx
                  have HSc := Lib.hid hsc
                  clear hsc hnx hs
                  have hp0 : 0 < left := by omega
                  go_wp2_with fail
                  refine Calls.mono HNxt.out ?_
                  intro e w5 hN
                  cases sc with
                  | bad =>
                    obtain ⟨rfl, hj, ho⟩ := hN
                    have HJ6 := Lib.hid hj
                    have HO6 := Lib.hid (only_fresh HO5.out ho HX.out)
                    have HRn : Hid (openJ F = none) := Lib.hid (by rw [← HR.out]; exact HSc.out)
                    clear hj ho
                    go_wp2
                    refine bodyPost_ret (results_tmp2 rfl _ _ _) rfl ?_
                    exact HBad.out _ _ HRn.out rfl HJ6.out.pl.unban HO6.out
                  | stop =>
                    obtain ⟨rfl, hj, ho⟩ := hN
                    have HJ6 := Lib.hid hj
                    have HO6 := Lib.hid (only_fresh HO5.out ho HX.out)
                    have HRs : Hid (openJ F = some J') := Lib.hid (by rw [← HR.out]; exact HSc.out)
                    clear hj ho
                    go_wp2
                    refine bodyPost_ret (results_tmp2 rfl _ _ _) rfl ?_
                    exact HGood.out _ _ ⟨gb, mb⟩ J' HRs.out rfl HJ6.out (HX.out _ (by simp)) (HX.out _ (by simp)) HO6.out
                  | found k =>
                    obtain ⟨rfl, hj, ho⟩ := hN
                    have HJ6 := Lib.hid hj
                    have HO6 := Lib.hid (only_fresh HO5.out ho HX.out)
                    obtain ⟨f1, f2, _, _⟩ := scan_found _ _ _ HS.out.symm
                    have HG6 : Hid (goesOn F.seen (F.n - 2 - b.log) (left - (k.length + 1)) (J'.wrote k) = R) := Lib.hid HSc.out.symm
                    obtain ⟨m, hm⟩ : ∃ m, m = k.length := ⟨_, rfl⟩
                    simp only [List.length_nil, Nat.zero_add] at f1
                    have HM := Lib.hid hm
                    rw [← hm] at f1 ⊢
                    have e9 : ((left - (m + 1) : Nat) : Int) = (left : Int) - ((m + 1 : Nat) : Int) := by omega
                    have HE9 := Lib.hid e9
                    have hm1 : ¬ (((m + 1 : Nat) : Int) = 0) := by omega
                    clear hj ho hm e9 f2
                    go_wp2
                    go_roundw
                    case rel => exact ⟨left - (m + 1), J'.wrote k, by rw [HE9.out]; go_num, by omega, Lib.hid ⟨HFc.out.1, HFc.out.2.1, by have h1 := HFc.out.2.2.1; have h2 := HM.out; show J'.used + k.length + 1 + _ = _; omega, by have h1 := HFc.out.2.2.2; have h2 := HM.out; show J'.turn + 1 + _ ≤ _; omega⟩, HJ6, HO6, by rw [HM.out]; exact HG6⟩
                    case measure => simp [RowKit.intOf]; omega
            · obtain ⟨x, hx⟩ : ∃ x, x = IntKind.i64.wrap ((a.turn : Int) - (b.turn : Int)) := ⟨_, rfl⟩
              obtain ⟨y, hy⟩ : ∃ y, y = IntKind.i64.wrap ((b.turn : Int) - (a.turn : Int)) := ⟨_, rfl⟩
              have hx1 : (x != 1) = true := by rw [bne_iff_ne, hx, IntKind.wrap_i64]; omega
              have hy1 : (y != 1) = true := by rw [bne_iff_ne, hy, IntKind.wrap_i64]; omega
              replace hx := hx.symm
              replace hy := hy.symm
              have HJ : Hid (openJ F = none) := Lib.hid (by
                unfold openJ
                rw [H2.out, if_neg]
                rintro ⟨_, e | e⟩
                · exact h1 e
                · exact h2 e)
              clear H2 h1 h2
              rw [hl] at la
              go_wp2_with fail
              go_quiet (fail)
              go_wp2
              refine bodyPost_ret (results_tmp2 rfl _ _ _) rfl ?_
              exact HBad.out _ _ HJ.out rfl (HP3.out.drewN _) ((HO1.out.trans (Only.of_below HB3.out)).drewN _)
        · have hlq : ((a.log : Int) != (b.log : Int)) = true := by rw [bne_iff_ne]; omega
          have HJ : Hid (openJ F = none) := Lib.hid (by unfold openJ; rw [H2.out, if_neg (fun hh => hl hh.1)])
          clear H2 hl
          go_wp2_with fail
          go_quiet (fail)
          go_wp2
          refine bodyPost_ret (results_tmp2 rfl _ _ _) rfl ?_
          exact HBad.out _ _ HJ.out rfl (HP3.out.drewN _) ((HO1.out.trans (Only.of_below HB3.out)).drewN _)
  · have hq : (P.flushE != 0) = true := ne_zero_bne hf
    have hE : openE P = P.flushE := by unfold openE; rw [if_pos hf]
    obtain ⟨z, hz⟩ : ∃ z, z = P.flushE := ⟨_, rfl⟩
    rw [← hz] at hFl hq hE
    have HFl := Lib.hid hFl
    have HE := Lib.hid hE
    have HZ : Hid (z ≠ 0) := Lib.hid (hz ▸ hf)
    clear hFl h hf hE hz
    go_enter Tryz.func10, Tryz.ntmps10
    go_wp2_with fail
    refine Calls.mono HFl.out ?_
    rintro e w1 ⟨rfl, hp, ho⟩
    have HP := Lib.hid hp
    have HO := Lib.hid ho
    clear hp ho
    go_wp2
    refine bodyPost_ret (results_tmp2 rfl _ _ _) rfl ?_
    unfold OpenR
    rw [HE.out, if_pos HZ.out]
    exact ⟨rfl, HP.out, HO.out⟩
end
end Go.Proofs.YtdhidcoglioalaaGreat.Walks
