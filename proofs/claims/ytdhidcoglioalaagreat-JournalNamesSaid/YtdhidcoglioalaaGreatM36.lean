/-
  The document's journal: a block is read.
-/
import Derived.Test.YtdhidcoglioalaaGreatM28
import Derived.Test.YtdhidcoglioalaaGreatM35
namespace Go.Proofs.YtdhidcoglioalaaGreat.Walks
open Go.RowKit Plain Jn
set_option linter.unusedVariables false
/-- What a read of the document's answers. -/
def DocV (w' : World) (v : Value) (e : Int) (b : Blk) : Prop := if e = 0 then ∃ a c, v = .slice a 48 c ∧ Bys w' a (bytesB b) ∧ (a = none → c = 0) else v = .slice none 0 0
section
variable {w w' : World} {m : Nat} {r : RLoc} {J J' : Jn} {P P' : Pl}
theorem rj_readBr (h : RJ w m r J P) (i : Int) (hb : J.broken = true) : Calls Tryz.prog 86 #[mv m, .int .i64 i] w fun e w' => e = .returned (.tuple #[.slice none 0 0, .int .i64 50]) ∧ w = w' := by
  have c7 := h.c7
  rw [hb] at c7
  clear h hb
  go_enter Tryz.func86, Tryz.ntmps86
  go_wp2
  refine bodyPost_ret (results_tmp2 rfl _ _ _) rfl ?_
  exact ⟨rfl, rfl⟩
theorem rj_readOut (h : RJ w m r J P) (i : Int) (hb : J.broken = false) (hi : i < 0 ∨ (J.blocks P.n : Int) ≤ i) : Calls Tryz.prog 86 #[mv m, .int .i64 i] w fun e w' => e = .returned (.tuple #[.slice none 0 0, .int .i64 9]) ∧ ∃ n, w' = w.drewN n := by
  have c7 := h.c7
  rw [hb] at c7
  have HBl := Lib.hid (rj_blocks h)
  by_cases h0 : i < 0
  · clear h hb hi
    go_enter Tryz.func86, Tryz.ntmps86
    go_wp2
    refine bodyPost_ret (results_tmp2 rfl _ _ _) rfl ?_
    exact ⟨rfl, 0, rfl⟩
  · have h1 : (J.blocks P.n : Int) ≤ i := by omega
    obtain ⟨B, hB⟩ : ∃ B, B = J.blocks P.n := ⟨_, rfl⟩
    rw [← hB] at h1 HBl
    clear h hb hi hB
    go_enter Tryz.func86, Tryz.ntmps86
    go_wp2_with fail
    refine Calls.mono HBl.out ?_
    rintro e w' ⟨rfl, k, rfl⟩
    go_wp2
    refine bodyPost_ret (results_tmp2 rfl _ _ _) rfl ?_
    exact ⟨rfl, k, rfl⟩
set_option maxRecDepth 10000 in
set_option maxHeartbeats 4000000 in
theorem rj_readIn (h : RJ w m r J P) (i : Nat) (hb : J.broken = false) (hi : i < J.blocks P.n) : Calls Tryz.prog 86 #[mv m, .int .i64 (i : Int)] w fun e w' => (∃ v, e = .returned (.tuple #[v, .int .i64 (readE P J i)]) ∧ DocV w' v (readE P J i) (readB P J i)) ∧ RJ w' m r (readJ P J i) P ∧ Only (m :: r.R) w w' := by
  have c0 := h.c0
  have c1 := h.c1
  have c7 := h.c7
  have f7 := h.fz 7
  rw [hb] at c7
  obtain ⟨v6, c6, hq, _⟩ := h.c6
  have hlog := h.ok.logn
  have hlog2 := h.ok.log2
  have hn4 := h.rf.ok.most
  have hBB : J.blocks P.n = P.n - 2 - J.log := by unfold Jn.blocks; rw [hb]; simp
  have HBl := Lib.hid (rj_blocks h)
  obtain ⟨l, hl⟩ : ∃ l, l = pendN J.pend (P.n - 2 - J.log) := ⟨_, rfl⟩
  have hln : l.length ≤ 4096 := by rw [hl]; have := pendN_length J.pend (P.n - 2 - J.log); omega
  have hq' : OwnQ 150 w 0 r.N v6 (putsP l) := by rw [hl]; exact hq
  obtain ⟨n, hnn⟩ : ∃ n, n = l.length := ⟨_, rfl⟩
  have hnl : n ≤ 4096 := by omega
  obtain ⟨a6, cp6, e6, _⟩ := hq'.slice
  rw [putsP_length, ← hnn] at e6
  subst e6
  obtain ⟨B, hB⟩ : ∃ B, B = J.blocks P.n := ⟨_, rfl⟩
  obtain ⟨L, hL⟩ : ∃ L, L = J.log := ⟨_, rfl⟩
  rw [← hB] at hi HBl
  rw [← hL] at c1
  have hiB : i < P.n - 2 - J.log := by omega
  have HQ := Lib.hid hq'
  have H := Lib.hid h
  have HN := Lib.hid hnn
  have HM : Hid (∀ y, y ∈ l ↔ y.1 < P.n - 2 - J.log ∧ J.pend y.1 = some y.2) := Lib.hid fun y => by rw [hl]; exact pendN_mem
  -- the answers
  have HE : Hid (∀ b, J.pend i = some b → readE P J i = 0 ∧ readB P J i = b ∧ readJ P J i = J) := Lib.hid fun b hp => by
    have hcond : ¬ ((i : Int) < 0 ∨ (J.blocks P.n : Int) ≤ i) := by omega
    unfold readE readB readJ
    simp only [hb, hcond, Int.toNat_natCast, hp, if_false, Bool.false_eq_true]
    exact ⟨trivial, trivial, trivial⟩
  have HE2 : Hid (J.pend i = none → readE P J i = (if P.has (2 + L + i : Nat) ≠ 0 then P.has (2 + L + i : Nat) else homeE (P.seen (2 + L + i)) i) ∧ readB P J i = homeB (P.seen (2 + L + i)) ∧ readJ P J i = if P.has (2 + L + i : Nat) ≠ 0 then J.brk else J) := Lib.hid fun hp => by
    have hcond : ¬ ((i : Int) < 0 ∨ (J.blocks P.n : Int) ≤ i) := by omega
    unfold readE readB readJ
    simp only [hb, hcond, Int.toNat_natCast, hp, hL, if_false, Bool.false_eq_true]
    exact ⟨rfl, rfl, rfl⟩
  have hLn : 2 + L + i < P.n := by omega
  have HLn := Lib.hid hLn
  have HLL := Lib.hid hL
  have HiB := Lib.hid hiB
  have hL4 : L ≤ 4096 := by omega
  have hi4 : i < 4096 := by omega
  have HBr := Lib.hid hb
  clear h hq hq' hl hnn hb hBB hB hL hiB hlog hlog2 hn4 hLn
  go_enter Tryz.func86, Tryz.ntmps86
  go_wp2_with fail
  refine Calls.mono HBl.out ?_
  rintro e w' ⟨rfl, kd, rfl⟩
  obtain ⟨wd, hwd⟩ : ∃ wd, wd = w.drewN kd := ⟨_, rfl⟩
  have hbd : Below w.heap.size w wd := by rw [hwd]; exact below_drewN (Below.refl _ _) _
  rw [← hwd]
  replace c0 := keepc hbd c0
  replace c1 := keepc hbd c1
  replace c6 := keepc hbd c6
  replace c7 := keepc hbd c7
  have HB := Lib.hid hbd
  clear hwd hbd f7
  go_wp2_with fail
  go_loopw [6] (fun vi wr => ∃ k : Nat, k ≤ n ∧ vi = .int .i64 k ∧ Hid (∀ y ∈ l.take k, y.1 ≠ i) ∧ wr = wd) (fun i _ => n - (RowKit.intOf i).toNat)
  case atStart => exact ⟨0, by omega, rfl, Lib.hid (by simp), rfl⟩
  case round =>
    obtain ⟨k, hk, rfl, HZ, rfl⟩ := hrel
    by_cases hlt : k < n
    · have hkl : k < l.length := by have := HN.out; omega
      have hlk : l[k]? = some l[k] := List.getElem?_eq_getElem hkl
      obtain ⟨g6, rfl, ya, yc, b1, b2, b3⟩ : ∃ g6, a6 = some ⟨g6, 0, none⟩ ∧ ∃ ya yc, w.cell? ⟨g6, k * 2, none⟩ = some (.int .i64 (l[k].1 : Int)) ∧ w.cell? ⟨g6, k * 2 + 1, none⟩ = some (.slice ya 48 yc) ∧ Dat w r.N (.slice ya 48 yc) (bytesB l[k].2) := by
        rcases HQ.out.form with ⟨e, _⟩ | ⟨g, c', e, _, _, hg, _, hc⟩
        · have := congrArg List.length e
          rw [putsP_length] at this
          simp at this
          rw [this] at hkl
          simp at hkl
        · simp only [Value.slice.injEq] at e
          obtain ⟨rfl, _, _⟩ := e
          obtain ⟨ya, yc, b1, b2, b3⟩ := hc k _ (putsP_get hlk)
          simp only [bytesB_length] at b2 b3
          exact ⟨g, rfl, ya, yc, b1, b2, b3⟩
      have hmem := (HM.out l[k]).1 (List.getElem_mem hkl)
      have hts := List.take_succ_eq_append_getElem hkl
      obtain ⟨y, hy⟩ : ∃ y, y = l[k] := ⟨_, rfl⟩
      rw [← hy] at b1 b3 hmem hts
      obtain ⟨yk, yb⟩ := y
      simp only at b1 b3 hmem
      have p0 := keepc HB.out b1
      have p1 := keepc HB.out b2
      have HMem := Lib.hid hmem
      have HTs := Lib.hid hts
      have HD := Lib.hid (b3.below HB.out)
      clear hy hlk hkl b1 b2 b3 hmem hts
      by_cases heq : yk = i
      · have hqi : ((yk : Int) == (i : Int)) = true := by simp [heq]
        have HEE := Lib.hid (HE.out yb (by have := HMem.out.2; rw [heq] at this; exact this))
        obtain ⟨a9, c9, e9, hB9, _, hc9⟩ := HD.out.own.bys (by rw [bytesB_length]; omega)
        simp only [Value.slice.injEq] at e9
        obtain ⟨rfl, e48, rfl⟩ := e9
        clear e48
        have HC := Lib.hid (ry_copy wr ya 48 yc (bytesB yb) (bytesB_length _) hB9 hc9 (by omega))
        clear heq hB9 hc9
        go_wp2_with fail
        refine Calls.mono HC.out ?_
        rintro e w2 ⟨u, rfl, ho, hb2⟩
        have HO := Lib.hid ho
        have HB2 := Lib.hid (Below.step HB.out hb2)
        clear ho hb2
        go_wp2
        refine bodyPost_ret (results_tmp2 rfl _ _ _) rfl ?_
        obtain ⟨a, c, e, h1, _, h3⟩ := HO.out.bys (by rw [bytesB_length]; omega)
        rw [bytesB_length] at e
        obtain ⟨e1, e2, e3⟩ := HEE.out
        rw [e1, e2, e3]
        refine ⟨⟨_, rfl, ?_⟩, H.out.below HB2.out, Only.of_below HB2.out⟩
        unfold DocV
        rw [if_pos rfl]
        exact ⟨a, c, e, h1, h3⟩
      · have hqi : ((yk : Int) == (i : Int)) = false := by simp; omega
        have HNe := Lib.hid heq
        clear heq
        go_wp2
        go_roundw
        case rel => exact ⟨k + 1, by omega, by go_num, Lib.hid (by
          rw [HTs.out]
          intro z hz
          rcases List.mem_append.1 hz with hz | hz
          · exact HZ.out z hz
          · simp at hz; rw [hz]; exact HNe.out), by first | rfl | trivial⟩
        case measure => simp [RowKit.intOf]; omega
    · obtain rfl : k = n := by omega
      have hnone : J.pend i = none := by
        cases hp : J.pend i with
        | none => rfl
        | some b =>
          have hm := (HM.out (i, b)).2 ⟨HiB.out, hp⟩
          have := HZ.out (i, b) (by rw [List.take_of_length_le (by have := HN.out; omega)]; exact hm)
          exact absurd rfl this
      have HEE := Lib.hid (HE2.out hnone)
      clear hnone HE HE2 HM HZ HQ HBl
      have HRf := Lib.hid (H.out.rf)
      have hk7 : wr.frozen? ⟨m, 7, none⟩ = false := (HB.out.frozen (p := ⟨m, 7, none⟩) H.out.lt).trans (H.out.fz 7)
      have HJ := Lib.hid (H.out.below HB.out)
      obtain ⟨hh, hhh⟩ : ∃ hh : Nat, hh = 2 + L + i := ⟨_, rfl⟩
      have hhi : (2 : Int) + (L : Int) + (i : Int) = (hh : Int) := by omega
      rw [← hhh] at HEE HLn
      have HH := Lib.hid hhh
      have HLe := Lib.hid (show L = J.log from HLL.out)
      have hwA := IntWalk.i64_in (n := (2 : Int) + (L : Int)) (by omega)
      have hwB : IntKind.i64.wrap ((2 : Int) + (L : Int) + (i : Int)) = (hh : Int) := by rw [IntWalk.i64_in (n := (2 : Int) + (L : Int) + (i : Int)) (by omega)]; exact hhi
      have hwC := IntWalk.i64_in (n := (hh : Int)) (by omega)
      clear hhh
      by_cases hd : P.dead = true
      · have hhas : P.has (hh : Nat) = 50 := has_dead hd
        have HR : Hid (∀ w', Below wr.heap.size wr w' → Calls Tryz.prog 92 #[rv r, .int .i64 (hh : Int)] w' fun e w'' => e = .returned (.tuple #[.slice none 0 0, .int .i64 50]) ∧ w' = w'') := Lib.hid fun w' hb => by
          have := rf_readNo w' r P (HJ.out.below hb).rf (hh : Int) (by rw [hhas]; decide)
          rw [hhas] at this
          exact this
        rw [hhas] at HEE
        have hS : Below wr.heap.size wr wr := Below.refl _ _
        clear hd hhas
        go_upto_region 10 with (fail)
        go_region_with ((go_at_call 92; ((with_reducible refine Calls.mono (HR.out _ ?_) ?_); (first | with_reducible exact hS | with_reducible exact Below.drew hS | with_reducible exact Below.step hS (Below.new _ _) | with_reducible exact Below.step (Below.drew hS) (Below.new _ _) | with_reducible exact Below.drew (Below.step hS (Below.new _ _))); rintro e w' ⟨rfl, rfl⟩)))
        all_goals
          go_wp2
          refine bodyPost_ret (results_tmp2 rfl _ _ _) rfl ?_
          obtain ⟨e1, e2, e3⟩ := HEE.out
          rw [e1, e2, e3]
          simp only [ne_eq, show ¬ ((50 : Int) = 0) by decide, not_false_eq_true, if_true]
          refine ⟨⟨_, rfl, by unfold DocV; rw [if_neg (by decide)]; try rfl⟩, ?_, ?_⟩
          · exact (HJ.out.below (Below.drew (Below.refl _ _))).setCell (J' := J.brk) (brk_ok H.out.ok) rfl rfl (by simp [brk]) (by simp [brk]) (by simp [brk]) (by simp [brk]) (by simp [brk]) (by omega) (by omega) (by omega)
          · exact (Only.of_below (R := m :: r.R) (HB.out.drew)).setCell (by simp) _
      · have hdl : P.dead = false := by simpa using hd
        have hhas : P.has (hh : Nat) = 0 := by
          have := HLn.out
          unfold Pl.has
          rw [hdl, if_neg (by simp), if_neg (by omega)]
        rw [hhas] at HEE
        obtain ⟨b, hb⟩ : ∃ b, b = P.seen hh := ⟨_, rfl⟩
        have HR : Hid (∀ w', Below wr.heap.size wr w' → Calls Tryz.prog 92 #[rv r, .int .i64 (hh : Int)] w' fun e w'' => ∃ g c, e = .returned (.tuple #[.slice (some ⟨g, 0, none⟩) 64 c, .int .i64 0]) ∧ 64 ≤ c ∧ c ≤ maxLen ∧ w'.heap.size ≤ g ∧ Bys w'' (some ⟨g, 0, none⟩) (bytesOf b) ∧ (∀ j, w''.frozen? ⟨g, j, none⟩ = false) ∧ Below w'.heap.size w' w'') := Lib.hid fun w' hb' => by
          rw [hb]
          exact ry_read w' r P (HJ.out.below hb').rf hh HLn.out hdl
        rw [← hb] at HEE
        have hS : Below wr.heap.size wr wr := Below.refl _ _
        clear hd hdl hhas hb hk7
        go_upto_region 10 with (fail)
        have hdB : decide (B ≤ i) = false := by simp; omega
        simp only [hdB, Bool.or_false]
        go_cut [7, 8] from 52 to 65 (fun v7 v8 wx => v8 = .int .i64 0 ∧ ∃ g c, v7 = .slice (some ⟨g, 0, none⟩) 64 c ∧ Hid (64 ≤ c ∧ c ≤ maxLen) ∧ Hid (Bys wx (some ⟨g, 0, none⟩) (bytesOf b)) ∧ Hid (Below wr.heap.size wr wx))
        case first =>
          go_region_with ((go_at_call 92; ((with_reducible refine Calls.mono (HR.out _ ?_) ?_); (first | with_reducible exact hS | with_reducible exact Below.drew hS | with_reducible exact Below.step hS (Below.new _ _) | with_reducible exact Below.step (Below.drew hS) (Below.new _ _) | with_reducible exact Below.drew (Below.step hS (Below.new _ _))); rintro e w' ⟨g, c, rfl, k1, k2, _, hB, _, hb⟩; have HBy := Lib.hid hB; have HB2 := Lib.hid hb; clear hB hb)))
          all_goals
            go_wp2
            go_meet
            exact ⟨rfl, g, c, rfl, Lib.hid ⟨k1, k2⟩, HBy, Lib.hid ((Below.drew (Below.refl _ _)).trans HB2.out)⟩
        case rest =>
          obtain ⟨rfl, g, c, rfl, HC, HBy, HB2⟩ := hcut
          have HBl := Lib.hid (rj_blank wc (some ⟨g, 0, none⟩) (bytesOf b) 64 c (bytesOf_length _) HBy.out)
          have HU := Lib.hid (rj_unpack wc g c b HBy.out HC.out.1 HC.out.2)
          obtain ⟨zb, hzb⟩ : ∃ zb, zb = isBlank b := ⟨_, rfl⟩
          have hz2 : zeroL (bytesOf b) = zb := hzb.symm
          rw [hz2] at HBl
          have HZ := Lib.hid hzb
          clear hzb hz2
          go_wp2_with fail
          refine Calls.mono HBl.out ?_
          rintro e w' ⟨rfl, rfl⟩
          cases zb
          · go_wp2_with fail
            refine Calls.mono HU.out ?_
            rintro e w5 ⟨da, dc, rfl, ho, hb5⟩
            have HO := Lib.hid ho
            have HB4 := Lib.hid (Below.step HB2.out hb5)
            obtain ⟨vk, hvk⟩ : ∃ v : Int, v = ((b 0).toNat : Int) := ⟨_, rfl⟩
            obtain ⟨v5, hv5⟩ : ∃ v : Int, v = (getN (cutS b 1 5) : Int) := ⟨_, rfl⟩
            obtain ⟨v2, hv2⟩ : ∃ v : Int, v = (getN (cutS b 6 2) : Int) := ⟨_, rfl⟩
            obtain ⟨pk, hpk⟩ : ∃ v, v = parseOk b := ⟨_, rfl⟩
            unfold sctD
            rw [← hvk, ← hv5, ← hv2, ← hpk]
            have HVK := Lib.hid hvk
            have HV5 := Lib.hid hv5
            have HV2 := Lib.hid hv2
            have HPK := Lib.hid hpk
            have HB5 : Hid (∀ o, Below wr.heap.size wr (w5.alloc o)) := Lib.hid fun o => Below.step HB4.out (Below.new _ _)
            clear ho hb5 hvk hv5 hv2 hpk
            cases pk
            · go_wp2
              refine bodyPost_ret (results_tmp2 rfl _ _ _) rfl ?_
              obtain ⟨e1, e2, e3⟩ := HEE.out
              simp only [ne_eq, not_true_eq_false, if_false] at e1 e3
              have hE : homeE b i = 70 := by
                have hz := HZ.out
                unfold homeE
                rw [← hz, if_neg (by simp), if_pos (by simp [parseS, ← HPK.out])]
              rw [e1, e2, e3, hE]
              exact ⟨⟨_, rfl, by unfold DocV; rw [if_neg (by decide)]; try rfl⟩, HJ.out.below (HB5.out _), Only.of_below (HB.out.trans ((HB5.out _).mono HB.out.size))⟩
            · by_cases hk : vk = 4
              · have hkb : (vk != 4) = false := by simp [hk]
                by_cases ht : v5 = 0
                · have htb : (v5 != 0) = false := by simp [ht]
                  by_cases hn : v2 = (i : Int)
                  · have hnb : (v2 != (i : Int)) = false := by simp [hn]
                    have HKK := Lib.hid hk
                    have HTT := Lib.hid ht
                    have HNN := Lib.hid hn
                    clear hk ht hn
                    go_wp2
                    refine bodyPost_ret (results_tmp2 rfl _ _ _) rfl ?_
                    obtain ⟨e1, e2, e3⟩ := HEE.out
                    simp only [ne_eq, not_true_eq_false, if_false] at e1 e3
                    have hE : homeE b i = 0 ∧ homeB b = blkOf (cutS b 8 48) := by
                      have hz := HZ.out
                      have a1 := HKK.out
                      have a2 := HTT.out
                      have a3 := HNN.out
                      rw [HVK.out] at a1
                      rw [HV5.out] at a2
                      rw [HV2.out] at a3
                      unfold homeE homeB
                      rw [← hz, if_neg (by simp), if_neg (by simp [parseS, ← HPK.out, a1, a2, a3]), if_neg (by simp)]
                      exact ⟨rfl, rfl⟩
                    rw [e1, e2, e3, hE.1, hE.2]
                    refine ⟨⟨_, rfl, ?_⟩, HJ.out.below (HB5.out _), Only.of_below (HB.out.trans ((HB5.out _).mono HB.out.size))⟩
                    unfold DocV
                    rw [if_pos rfl]
                    obtain ⟨a9, c9, e9, hB9, _, hc9⟩ := (HO.out.keep (Below.new _ _)).bys (by rw [cutS_length]; omega)
                    rw [cutS_length] at e9
                    rw [bytes_blk (cutS_length _ _ _)]
                    exact ⟨a9, c9, e9, hB9, hc9⟩
                  · have hnb : (v2 != (i : Int)) = true := by simp [hn]
                    have HNN := Lib.hid (show ¬ (getN (cutS b 6 2) : Int) = (i : Int) by have := HV2.out; omega)
                    clear hn
                    go_wp2
                    refine bodyPost_ret (results_tmp2 rfl _ _ _) rfl ?_
                    obtain ⟨e1, e2, e3⟩ := HEE.out
                    simp only [ne_eq, not_true_eq_false, if_false] at e1 e3
                    have hE : homeE b i = 70 := by
                      have hz := HZ.out
                      unfold homeE
                      rw [← hz, if_neg (by simp), if_pos (by rw [Bool.or_eq_true]; exact .inr (bne_iff_ne.2 HNN.out))]
                    rw [e1, e2, e3, hE]
                    exact ⟨⟨_, rfl, by unfold DocV; rw [if_neg (by decide)]; try rfl⟩, HJ.out.below (HB5.out _), Only.of_below (HB.out.trans ((HB5.out _).mono HB.out.size))⟩
                · have htb : (v5 != 0) = true := by simp [ht]
                  have HTT := Lib.hid (show ¬ (getN (cutS b 1 5) : Int) = 0 by have := HV5.out; omega)
                  clear ht
                  go_wp2
                  refine bodyPost_ret (results_tmp2 rfl _ _ _) rfl ?_
                  obtain ⟨e1, e2, e3⟩ := HEE.out
                  simp only [ne_eq, not_true_eq_false, if_false] at e1 e3
                  have hE : homeE b i = 70 := by
                    have hz := HZ.out
                    unfold homeE
                    rw [← hz, if_neg (by simp), if_pos (by rw [Bool.or_eq_true, Bool.or_eq_true]; exact .inl (.inr (bne_iff_ne.2 HTT.out)))]
                  rw [e1, e2, e3, hE]
                  exact ⟨⟨_, rfl, by unfold DocV; rw [if_neg (by decide)]; try rfl⟩, HJ.out.below (HB5.out _), Only.of_below (HB.out.trans ((HB5.out _).mono HB.out.size))⟩
              · have hkb : (vk != 4) = true := by simp [hk]
                have HKK := Lib.hid (show ¬ (((b 0).toNat : Int)) = 4 by have := HVK.out; omega)
                clear hk
                go_wp2
                refine bodyPost_ret (results_tmp2 rfl _ _ _) rfl ?_
                obtain ⟨e1, e2, e3⟩ := HEE.out
                simp only [ne_eq, not_true_eq_false, if_false] at e1 e3
                have hE : homeE b i = 70 := by
                  have hz := HZ.out
                  unfold homeE
                  rw [← hz, if_neg (by simp), if_pos (by rw [Bool.or_eq_true, Bool.or_eq_true, Bool.or_eq_true]; exact .inl (.inl (.inr (bne_iff_ne.2 HKK.out))))]
                rw [e1, e2, e3, hE]
                exact ⟨⟨_, rfl, by unfold DocV; rw [if_neg (by decide)]; try rfl⟩, HJ.out.below (HB5.out _), Only.of_below (HB.out.trans ((HB5.out _).mono HB.out.size))⟩
          · have hmk := make48 wc
            clear HU
            go_wp2
            refine bodyPost_ret (results_tmp2 rfl _ _ _) rfl ?_
            obtain ⟨e1, e2, e3⟩ := HEE.out
            simp only [ne_eq, not_true_eq_false, if_false] at e1 e3
            have hE : homeE b i = 0 ∧ homeB b = zeroB := by
              have hz := HZ.out
              unfold homeE homeB
              rw [← hz, if_pos rfl, if_pos rfl]
              exact ⟨rfl, rfl⟩
            rw [e1, e2, e3, hE.1, hE.2]
            have hB5 := HB2.out.alloc (HB2.out.size) (.cells (blkL zeroB).toArray 5)
            refine ⟨⟨_, rfl, ?_⟩, HJ.out.below hB5, Only.of_below (HB.out.trans (hB5.mono HB.out.size))⟩
            unfold DocV
            rw [if_pos rfl]
            exact ⟨_, _, rfl, bys_row (row_new wc 5 _ rfl), fun e => by cases e⟩
theorem rj_read (h : RJ w m r J P) (i : Int) : Calls Tryz.prog 86 #[mv m, .int .i64 i] w fun e w' => (∃ v, e = .returned (.tuple #[v, .int .i64 (readE P J i)]) ∧ DocV w' v (readE P J i) (readB P J i)) ∧ RJ w' m r (readJ P J i) P ∧ Only (m :: r.R) w w' := by
  cases hb : J.broken with
  | true =>
    have e1 : readE P J i = 50 := by unfold readE; rw [hb]; simp
    have e2 : readJ P J i = J := by unfold readJ; rw [hb]; simp
    rw [e1, e2]
    refine Calls.mono (rj_readBr h i hb) ?_
    rintro e w' ⟨rfl, rfl⟩
    exact ⟨⟨_, rfl, by unfold DocV; rw [if_neg (by decide)]; try rfl⟩, h, Only.refl _ _⟩
  | false =>
    by_cases h0 : i < 0 ∨ (J.blocks P.n : Int) ≤ i
    · have e1 : readE P J i = 9 := by unfold readE; rw [hb]; simp [h0]
      have e2 : readJ P J i = J := by unfold readJ; rw [hb]; simp [h0]
      rw [e1, e2]
      refine Calls.mono (rj_readOut h i hb h0) ?_
      rintro e w' ⟨rfl, n, rfl⟩
      exact ⟨⟨_, rfl, by unfold DocV; rw [if_neg (by decide)]; try rfl⟩, h.drewN n, (Only.refl _ _).drewN n⟩
    · obtain ⟨k, rfl⟩ : ∃ k : Nat, i = (k : Int) := ⟨i.toNat, by omega⟩
      exact rj_readIn h k hb (by omega)
end
end Go.Proofs.YtdhidcoglioalaaGreat.Walks
