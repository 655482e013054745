/-
  The walk of the client's take, of a note that counts.
-/
import Derived.Test.YtldcpnabgpjgiaaDiskT
import Derived.Deep.RegionHeld3
namespace Go.Proofs.Ytldcpnabgpjgiaa.Walks
open Go.RowKit Plain
set_option linter.unusedVariables false
attribute [local go_sem] isPV_mk adV_mk cells_agg cells_agg' held_drew room_drew cellsAt_drew isA4_mk isSl_mk isI_mk intOf_mk
attribute [local go_sem ↓] exec_load88 exec_store88 exec_load81 exec_store81 exec_load90 exec_store90 Go.wp_at_zero Go.wp_at_succ exec_alloc81 exec_build81r exec_build81s exec_bs69 exec_alloc90 exec_build90n
attribute [local irreducible] out0

theorem CliAt.saidC {w : World} {p r1 r2 N : Nat} {c : Cl} (h : CliAt w p r1 r2 N c) (hw : c.way ≠ 0) :
    ∃ g wa wc, w.cell? ⟨p, 59, none⟩ = some (.slice (some ⟨g, 0, none⟩) 1 1) ∧ w.cell? ⟨p, 23, none⟩ = some (.int .i64 c.wish.group) ∧ w.cell? ⟨p, 24, none⟩ = some (.int .i64 c.wish.epoch) ∧ Blk w g (wishL c.wish wa wc) 88 := by
  obtain ⟨da, dc, la, lc, cf, cs, said, am, hP, hM⟩ := h
  obtain ⟨_, ⟨g, wa, wc, hs, hb, _⟩, _⟩ := hM.2.2.2.2 hw
  subst hs
  exact ⟨g, wa, wc, hP.cell (i := 59) rfl, hP.cell (i := 23) rfl, hP.cell (i := 24) rfl, hb⟩
def noteOf (n : No) (da : Option Addr) (dc : Nat) (na : Option Addr) (nc : Nat) : List Value := noteL n.kind n.fr n.group n.epoch (.slice none 0 0) (ansL n.ans da dc na nc) n.stamp n.node
theorem noteOf_len (n : No) (da : Option Addr) (dc : Nat) (na : Option Addr) (nc : Nat) : (noteOf n da dc na nc).length = 58 := rfl
def HeardB (w wx : World) (p r1 r2 N : Nat) (c : Cl) (n : No) : Prop := CliAt wx p r1 r2 (N + 1) (hearC c n) ∧ Only [r2] w wx ∧ Keeps w wx
def FlagB (w wx : World) (b : Bool) (v : Value) : Prop := v = .bool b ∧ Below w.heap.size w wx
theorem MapA.put {w : World} {r N : Nat} {m : Int → Option An} (h : MapA w r N m) (hN : N < maxLen) {k : Int} (hk : Wf k) {v : Value} {A : An} (hv : AnIn w v A) :
    ∃ w', (Instr.mapUpdate 111 (.map (some r)) (.int .i64 k) v).run Try.prog w = .ok () w' ∧ MapA w' r (N + 1) (upF m k (some A)) ∧ w.grownBy w' (some r) ∧ Keeps w w' := by
  obtain ⟨F, h1, h2⟩ := h
  obtain ⟨kl, hkl⟩ := keyOf_i hk
  obtain ⟨w', hr, hvm, hg⟩ := h1.store (val := v) int_key Try.underlying111 hN hkl
  have hks := Keeps.map hg h1
  refine ⟨w', hr, ⟨_, hvm, fun k' hk' => ?_⟩, hg, hks⟩
  unfold upF upd
  by_cases e : k' = k
  · subst e
    rw [if_pos rfl, if_pos rfl]
    exact ⟨v, rfl, hv.keeps hks⟩
  · rw [if_neg e]
    have : ¬ (Value.int .i64 k' = Value.int .i64 k) := fun hh => e (by simpa using hh)
    rw [if_neg this]
    exact (h2 k' hk').keeps hks
theorem CliAt.setAns {w w' : World} {p r1 r2 N N' : Nat} {c : Cl} {m : Int → Option An} (h : CliAt w p r1 r2 N c) (hw : c.way ≠ 0) (hm : MapA w' r2 N' m) (hn : N ≤ N') (hg : w.grownBy w' (some r2)) (hk : Keeps w w') : CliAt w' p r1 r2 N' { c with ans := m } := by
  obtain ⟨da, dc, la, lc, cf, cs, said, am, hP, hM⟩ := h
  obtain ⟨hl, ⟨i1, i2⟩, ⟨i3, i4⟩, hmm, hs⟩ := hM
  obtain ⟨⟨ca, cc, s1, s2, s3, s4⟩, h3, h4, h5, h6⟩ := hs hw
  have hne := h5.ne hP
  exact ⟨da, dc, la, lc, cf, cs, said, am, (hg.block _ hP.lt (by simpa using hne.symm)).trans hP, hl, ⟨hk.il i1, i2⟩, ⟨hk.bl i3, i4⟩, (hmm.same (hg.block _ hmm.lt (by simpa using h6)) hk).mono hn, fun _ => ⟨⟨ca, cc, s1, s2, hk.il s3, s4⟩, h3.keeps hk, h4, hm, h6⟩⟩
theorem CliAt.mapA {w : World} {p r1 r2 N : Nat} {c : Cl} (h : CliAt w p r1 r2 N c) (hw : c.way ≠ 0) : MapA w r2 N c.ans ∧ r1 ≠ r2 := by
  obtain ⟨da, dc, la, lc, cf, cs, said, am, hP, hM⟩ := h
  exact ⟨(hM.2.2.2.2 hw).2.2.2.1, (hM.2.2.2.2 hw).2.2.2.2⟩
theorem heard_w {w3 wd wp : World} {p r1 r2 N : Nat} {c : Cl} {n : No} (hC : CliAt wd p r1 r2 N c) (hw : c.way ≠ 0) (hM : MapA wp r2 (N + 1) (upF c.ans n.fr (some n.ans))) (hg : wd.grownBy wp (some r2)) (hk : Keeps wd wp) (hS : Below w3.heap.size w3 wd) : HeardB w3 wp p r1 r2 N c n :=
  ⟨hC.setAns hw hM (by omega) hg hk, (Only.of_below hS).trans (Only.of_grown hg (by simp)), (Keeps.of_below hS).trans hk⟩
theorem HeardB.drw {w3 wp : World} {p r1 r2 N : Nat} {c : Cl} {n : No} (h : HeardB w3 wp p r1 r2 N c n) : HeardB w3 wp.drew p r1 r2 N c n := ⟨h.1.drw, h.2.1.drw, h.2.2.trans (Keeps.of_below (Below.refl _ _).drew)⟩
set_option maxRecDepth 100000 in
set_option maxHeartbeats 2000000 in
theorem take_is (p r1 r2 N : Nat) (c : Cl) (n : No) (da : Option Addr) (dc : Nat) (na : Option Addr) (nc : Nat) (w : World) (h : CliAt w p r1 r2 N c) (hh : heardB c n = true) (hg : goodC 1 c.crew = true) (hs : 0 ≤ c.stamp ∧ c.stamp ≤ 1000000) (hk : Wf (chunkC c)) (hb : Wf c.call.block) (hN1 : N + 1 < 1000000) (hkeys : ∀ k a, c.ans k = some a → k ∈ c.crew) (hm : ∀ m, c.maps (chunkC c) = some m → goodC 1 m.1 = true) (hway : c.way = 2 → c.call.kind ≠ 4 → (c.maps (chunkC c)).isSome = true)
    (hD : BL w da n.ans.data) (hDn : da = none → dc = 0) (hN : IL w na n.ans.nodes) (hNn : na = none → nc = 0) :
    Calls Try.prog 52 #[.pointer (some ⟨p, 0, none⟩), .agg (noteOf n da dc na nc).toArray] w (GiveP [p, r1, r2] p r1 r2 (N + 2) (takeC c n) (takeO c n) 0 w) := by
  have HC := Lib.hid h
  have HG := Lib.hid hg
  have HS := Lib.hid hs
  have HK := Lib.hid hk
  have HBK := Lib.hid hb
  have HN1 := Lib.hid hN1
  have HKEY := Lib.hid hkeys
  have HM := Lib.hid hm
  have HWAY := Lib.hid hway
  have HD := Lib.hid hD
  have HDN := Lib.hid hDn
  have HN := Lib.hid hN
  have HNN := Lib.hid hNn
  have HH := Lib.hid hh
  simp only [heardB, Bool.and_eq_true, decide_eq_true_eq, Bool.not_eq_true', decide_eq_false_iff_not] at hh
  obtain ⟨⟨⟨⟨h0, h1⟩, h2⟩, h3⟩, ⟨h4, h5⟩, h6⟩ := hh
  have HW := Lib.hid h0
  have HMEM : Hid (n.fr ∈ c.crew) := Lib.hid (by have := h3; simp only [hasC, Bool.and_eq_true, decide_eq_true_eq] at this; exact this.2)
  have HWF : Hid (Wf n.fr) := Lib.hid (by have := good_mem hg _ HMEM.out; exact Wf.of (by omega) (by omega))
  clear h hg hD hDn hN hNn hs hk hb hN1 hkeys hm hway
  go_enter Try.func52, Try.ntmps52
  go_upto_region 2 with (fail)
  obtain ⟨w1, hw1, hb1, hz1, hB, hX, hO⟩ := three_blk w 81 90 90 (noteOf n da dc na nc) out0 out0
  rw [← hw1]
  clear hw1
  have HC1 := Lib.hid (HC.out.below hb1)
  have HB1 := Lib.hid hb1
  have HB := Lib.hid hB
  have HX := Lib.hid hX
  have HO := Lib.hid (show OutAt w1 (w.heap.size + 2) Ou.zero from ⟨_, hO, out0_v w1⟩)
  have HPX := Lib.hid HC.out.lt.1
  have c4 := HC1.out.c4
  clear hb1 hz1 hB hX hO
  go_wp2_with fail
  refine Calls.mono (cnone_is p r1 w1 c4) ?_
  rintro e w2 ⟨rfl, rfl⟩
  obtain ⟨c19, c79, hMA, ca, cc, c20, hI, hIn⟩ := HC1.out.crewC HW.out
  have HI := Lib.hid hI
  have hl7 : c.crew.length ≤ 7 := by have := goodC_len HG.out; omega
  have b0 := HB.out.cell (i := 0) rfl
  have b1 := HB.out.cell (i := 1) rfl
  have b44 := HB.out.cell (i := 44) rfl
  have c7 := HC1.out.c7
  have c0 := HC1.out.c0
  rw [h1] at b0
  rw [h2] at b44
  have hq0 : (c.way == 0) = false := by simpa using h0
  have H3 := Lib.hid h3
  have H4 := Lib.hid h4
  have H5 := Lib.hid h5
  have H6 := Lib.hid h6
  clear hI hIn hMA h0 h1 h2 h3 h4 h5 h6 c79 c4
  go_upto_region 4 with (fail)
  go_cut [11] from 12 to 40 (fun v11 wx => FlagB w1 wx false v11)
  case first =>
    go_region_with
      ((go_at_call 79; go_loud ((with_reducible refine Calls.mono (has_any 1 ca cc c.crew n.fr _ ?_ (by omega)) ?_); (first | exact HI.out.ints | exact (HI.out.below (Below.refl _ _).drew).ints); rintro e wd ⟨rfl, hb⟩; rw [H3.out]; have hS : Below w1.heap.size w1 wd := (by first | exact hb | exact Below.step (Below.refl _ _).drew hb))))
    all_goals
      go_wp2_with fail
      go_meet
      exact ⟨rfl, hS⟩
  case rest =>
    obtain ⟨rfl, hS2⟩ := hcut
    have HC2 := Lib.hid (HC1.out.below hS2)
    have HO2 := Lib.hid (HO.out.below hS2)
    have HX2 := Lib.hid (HX.out.below hS2)
    have HBb := Lib.hid (HB.out.below hS2)
    have HW2 := Lib.hid (Below.step HB1.out hS2)
    obtain ⟨g, wa, wcc, c59, c23, c24, hg⟩ := HC2.out.saidC HW.out
    have g1 := hg.cell (i := 1) rfl
    have b2 := HBb.out.cell (i := 2) rfl
    have b3 := HBb.out.cell (i := 3) rfl
    have b43 := HBb.out.cell (i := 43) rfl
    rw [H4.out] at b43
    rw [H5.out] at b2
    rw [H6.out] at b3
    clear hg c19 c20 b0 b1 b44 c7 c0 hq0 hS2
    go_upto_region 6 with (fail)
    go_quiet (fail)
    obtain ⟨w3, hw3⟩ : ∃ x, x = wc.drewN nq := ⟨_, rfl⟩
    have hS3 : Below wc.heap.size wc w3 := by rw [hw3]; exact below_drewN (Below.refl _ _) _
    rw [← hw3]
    have HC3 := Lib.hid (HC2.out.below hS3)
    have HO3 := Lib.hid (HO2.out.below hS3)
    have HX3 := Lib.hid (HX2.out.below hS3)
    have HB3 := Lib.hid (HBb.out.below hS3)
    have HW3 := Lib.hid (Below.step HW2.out hS3)
    have HD3 := Lib.hid (HD.out.below HW3.out)
    have HN3 := Lib.hid (HN.out.below HW3.out)
    clear c59 c23 c24 g1 b2 b3 b43 hS3 hw3 HC2 HO2 HX2 HBb HW2
    have b1 := HB3.out.cell (i := 1) rfl
    have b39 := HB3.out.cell (i := 39) rfl
    have b40 := HB3.out.cell (i := 40) rfl
    have b41 := HB3.out.cell (i := 41) rfl
    have b42 := HB3.out.cell (i := 42) rfl
    have c79 := (HC3.out.crewC HW.out).2.1
    go_upto_region 8 with (fail)
    go_cut [] from 75 to 83 (fun wx => HeardB w3 wx p r1 r2 N c n)
    case first =>
      go_region_with
        ((go_at_call 96; go_loud ((with_reducible refine Calls.mono (ownAnswer_any n.ans da dc na nc _ ?_ HDN.out ?_ HNN.out) ?_); (first | exact HD3.out | exact HD3.out.below (Below.refl _ _).drew); (first | exact HN3.out | exact HN3.out.below (Below.refl _ _).drew); rintro e wd ⟨v, rfl, hv, hb⟩; have hS : Below w3.heap.size w3 wd := (by first | exact hb | exact Below.step (Below.refl _ _).drew hb); have hC := HC3.out.below hS; have b1 := (HB3.out.below hS).cell (i := 1) rfl; have c79 := (hC.crewC HW.out).2.1; obtain ⟨wp, hp, hpM, hpg, hpk⟩ := (hC.mapA HW.out).1.put (by have := HN1.out; unfold maxLen; omega) HWF.out hv; obtain ⟨wq, hq, hqM, hqg, hqk⟩ := (hC.drw.mapA HW.out).1.put (by have := HN1.out; unfold maxLen; omega) HWF.out (hv.below (Below.refl _ _).drew))))
      all_goals
        have q1 := heard_w hC HW.out hpM hpg hpk hS
        have q2 := heard_w hC.drw HW.out hqM hqg hqk hS.drew
        have Q1 := Lib.hid q1
        have Q2 := Lib.hid q2
        clear q1 q2 hp hq hpM hqM hpg hqg hpk hqk hv
        go_wp2_with fail
        go_meet
        first | exact Q1.out | exact Q2.out | exact Q1.out.drw | exact Q2.out.drw
    case rest =>
      obtain ⟨hC4, hO4, hK4⟩ := hcut
      obtain ⟨hA, hr12⟩ := HC3.out.mapA HW.out
      obtain ⟨l0, hl0, _⟩ := HO3.out
      have n1 : w.heap.size + 2 ≠ r2 := fun e => hA.ne hl0 e.symm
      have n2 : w.heap.size + 1 ≠ r2 := fun e => hA.ne HX3.out e.symm
      have n3 : w.heap.size ≠ r2 := fun e => hA.ne HB3.out e.symm
      have HO4 := Lib.hid (HO3.out.same (hO4.block _ HO3.out.lt (by simpa using n1)) hK4)
      have HX4 := Lib.hid (hO4.blk HX3.out (by simpa using n2))
      have hB4 := hO4.blk HB3.out (by simpa using n3)
      have HD4 := Lib.hid (hK4.bl HD3.out)
      have HN4 := Lib.hid (hK4.il HN3.out)
      have HW4 := Lib.hid ((Only.of_below (R := [p, r1, r2]) HW3.out).trans (hO4.mono (by simp)))
      have HC4 := Lib.hid hC4
      have b39 := hB4.cell (i := 39) rfl
      have b40 := hB4.cell (i := 40) rfl
      have b41 := hB4.cell (i := 41) rfl
      have b42 := hB4.cell (i := 42) rfl
      have HLT : Hid (r1 < w.heap.size ∧ r2 < w.heap.size) := Lib.hid ⟨HC.out.lt.2.1, HC.out.lt.2.2 HW.out⟩
      clear hC4 hO4 hK4 hA hr12 hl0 n1 n2 n3 hB4 b1 c79
      go_wp2_with fail
      refine Calls.mono (count_is p r1 r2 (N + 1) (w.heap.size + 2) (hearC c n) Ou.zero n.ans da dc na nc _ HC4.out HO4.out HW.out HS.out HK.out HBK.out HN1.out HG.out (fun k a hka => ?_) HM.out HWAY.out HD4.out HDN.out HN4.out HNN.out) ?_
      · simp only [hearC, upF] at hka
        split at hka
        · rename_i e; rw [e]; exact HMEM.out
        · exact HKEY.out k a hka
      · rintro e w5 ⟨rfl, r2', q0, q1, ⟨l, q2, q3⟩, q4⟩
        have hx5 : Blk w5 (w.heap.size + 1) out0 90 := q4.blk HX4.out (by have := HPX.out; have := HLT.out; simp; omega)
        have hO5 : Only [p, r1, r2] w w5 := HW4.out.trans' q4 (by simp)
        obtain ⟨e1, e2, e3, e4, G1, G2, r0, G4⟩ := out_facts q1 q2 q3 hx5 (by omega) hO5
        have HR : Hid (r2' = r2 ∨ w.heap.size ≤ r2') := Lib.hid (q0.imp id (Nat.le_trans HW4.out.size))
        have R0 := Lib.hid r0
        have HE : Hid (takeC c n = countC (hearC c n) n.ans ∧ takeO c n = countO (hearC c n) Ou.zero n.ans) := Lib.hid (by rw [takeC, takeO, HH.out]; exact ⟨rfl, rfl⟩)
        clear q0 q1 q2 q3 q4 hx5 hO5 r0 b39 b40 b41 b42
        go_wp2_with fail
        have r0 := R0.out
        refine bodyPost_ret (v := .tuple #[.agg l.toArray, .int .i64 0]) (by simp [results, Try.results52, asAddr, r0]) rfl ?_
        exact ⟨l, r2', rfl, HR.out, by rw [HE.out.1]; exact G1.out, by rw [HE.out.2]; exact G2.out, G4.out⟩
end Go.Proofs.Ytldcpnabgpjgiaa.Walks
