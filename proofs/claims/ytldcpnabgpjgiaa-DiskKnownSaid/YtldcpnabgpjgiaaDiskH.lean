/-
  The walks of the client's again and say.
-/
import Derived.Test.YtldcpnabgpjgiaaDiskG
namespace Go.Proofs.Ytldcpnabgpjgiaa.Walks
open Go.RowKit Plain
set_option linter.unusedVariables false
attribute [local go_sem] isPV_mk adV_mk cells_agg cells_agg' held_drew room_drew cellsAt_drew isA4_mk isSl_mk isI_mk intOf_mk
attribute [local go_sem ↓] exec_load88 exec_store88 exec_load81 exec_store81 exec_load90 exec_store90 Go.wp_at_zero Go.wp_at_succ exec_alloc81 exec_build81r exec_build81s exec_bs69

/-- What comes of something, in its place. -/
def OutAt (w : World) (g : Nat) (o : Ou) : Prop := ∃ l, Blk w g l 90 ∧ OutV w l o
theorem OutAt.below {w w' : World} {g : Nat} {o : Ou} (h : OutAt w g o) (hb : Below w.heap.size w w') : OutAt w' g o := by
  obtain ⟨l, h1, h2⟩ := h; exact ⟨l, h1.below hb, h2.below hb⟩
theorem OutAt.same {w w' : World} {g : Nat} {o : Ou} (h : OutAt w g o) (hg : w'.heap[g]? = w.heap[g]?) (hk : Keeps w w') : OutAt w' g o := by
  obtain ⟨l, h1, h2⟩ := h; exact ⟨l, hg.trans h1, h2.keeps hk⟩
theorem OutAt.lt {w : World} {g : Nat} {o : Ou} (h : OutAt w g o) : g < w.heap.size := by obtain ⟨l, h1, _⟩ := h; exact h1.lt
theorem CliAt.ne {w : World} {p r1 r2 N : Nat} {c : Cl} (h : CliAt w p r1 r2 N c) {g : Nat} {o : Ou} (ho : OutAt w g o) : p ≠ g ∧ r1 ≠ g ∧ (c.way ≠ 0 → r2 ≠ g) := by
  obtain ⟨da, dc, la, lc, cf, cs, said, am, hP, hM⟩ := h
  obtain ⟨l, h1, _⟩ := ho
  exact ⟨hP.ne h1 (by decide), hM.ne h1⟩
/-- Where only blocks of G have turned, none of the client's. -/
theorem CliAt.onlyG {w w' : World} {p r1 r2 N : Nat} {c : Cl} (h : CliAt w p r1 r2 N c) {g : Nat} {o : Ou} (ho : OutAt w g o) (hO : Only [g] w w') : CliAt w' p r1 r2 N c := by
  obtain ⟨n1, n2, n3⟩ := h.ne ho
  obtain ⟨l, h1, _⟩ := ho
  exact h.same (hO.block _ h.lt.1 (by simpa using n1)) (hO.block _ h.lt.2.1 (by simpa using n2)) (fun hw => hO.block _ (h.lt.2.2 hw) (by simpa using n3 hw)) (hO.keeps h1 (by decide))
theorem cliL_len {c : Cl} {da : Option Addr} {dc r1 : Nat} {la : Option Addr} {lc : Nat} {cf cs : Value} {said : List Value} {am : Value} (h : said.length = 58) : (cliL c da dc r1 la lc cf cs said am).length = 80 := by simp [cliL, cliP, h]
theorem cliL_said {c : Cl} {da : Option Addr} {dc r1 : Nat} {la : Option Addr} {lc : Nat} {cf cs : Value} {said : List Value} {am : Value} (h : said.length = 58) : ((cliL c da dc r1 la lc cf cs said am).drop 21).take 58 = said := by
  have e : (cliL c da dc r1 la lc cf cs said am).drop 21 = said ++ [am] := rfl
  rw [e, ← h, List.take_left']
  rfl
theorem cliL_am {c : Cl} {da : Option Addr} {dc r1 : Nat} {la : Option Addr} {lc : Nat} {cf cs : Value} {said : List Value} {am : Value} (h : said.length = 58) : (cliL c da dc r1 la lc cf cs said am)[79]? = some am := by
  have e : (cliL c da dc r1 la lc cf cs said am)[79]? = (said ++ [am])[58]? := rfl
  rw [e, List.getElem?_append_right (by omega), h]
  rfl
theorem spl_mid {a b c : List Value} {vs : List Value} (h : vs.length = b.length) : spl (a ++ (b ++ c)) a.length vs = a ++ (vs ++ c) := by
  unfold spl
  rw [List.take_left', h]
  · rw [show a.length + b.length = (a ++ b).length by simp, ← List.append_assoc a b c, List.drop_left' rfl]
  · rfl
theorem outL_spl {tv : Value} {nl : List Value} {began done : Bool} {call ans : List Value} {vs : List Value} (h : vs.length = nl.length) : spl (outL tv nl began done call ans) 1 vs = outL tv vs began done call ans := by
  have := spl_mid (a := [tv]) (b := nl) (c := (.bool began :: .bool done :: (call ++ ans))) h
  exact this
set_option maxRecDepth 100000 in
set_option maxHeartbeats 4000000 in
theorem again_is (p r1 r2 N g : Nat) (c : Cl) (o : Ou) (w : World) (h : CliAt w p r1 r2 N c) (ho : OutAt w g o) (hw : c.way ≠ 0) (hg : goodC 1 c.crew = true) :
    Calls Try.prog 102 #[.pointer (some ⟨p, 0, none⟩), .pointer (some ⟨g, 0, none⟩)] w fun e w' => e = .returned (.tuple #[]) ∧ CliAt w' p r1 r2 N c ∧ OutAt w' g (againO c o) ∧ Only [g] w w' := by
  have HH := Lib.hid h
  have HOO := Lib.hid ho
  obtain ⟨npg, nrg, nsg⟩ := h.ne ho
  obtain ⟨da, dc, la, lc, cf, cs, said, am, hP, hM⟩ := h
  have hl := hM.1
  obtain ⟨⟨ca, cc, rfl, rfl, hC, hCn⟩, hN, rfl, hA, hne⟩ := hM.2.2.2.2 hw
  obtain ⟨bb, wa, wc, rfl, hBB, hWD, hWn⟩ := hN
  obtain ⟨l, hO, ta, tc, nl, qa, qc, xa, xc, ya, yc, rfl, hT, hNl, hQ, hX, hY, hYn⟩ := ho
  have hnl := hNl.len
  have hgl := hO.lt
  have hpl := hP.lt
  have hbl := hBB.lt
  have nbg : bb ≠ g := hBB.ne hO (by decide)
  have c20 := hP.cell (i := 20) rfl
  have hcl := goodC_len hg
  have HP := Lib.hid hP
  have HO := Lib.hid hO
  have HBB := Lib.hid hBB
  have HC := Lib.hid hC
  have HCN := Lib.hid hCn
  have HWD := Lib.hid hWD
  have HWN := Lib.hid hWn
  have HT := Lib.hid hT
  have HQ := Lib.hid hQ
  have HX := Lib.hid hX
  have HY := Lib.hid hY
  have HYN := Lib.hid hYn
  have HCL := Lib.hid hcl
  have HNPG := Lib.hid npg
  have HNL := Lib.hid hnl
  clear hP hM hl hC hCn hA hne hBB hWD hWn hO hT hNl hQ hX hY hYn hw hg hcl hnl nrg nsg npg
  go_enter Try.func102, Try.ntmps102
  go_wp2_with fail
  refine Calls.mono (clone_any ca cc c.crew _ HC.out.ints HCN.out (by have := HCL.out; omega)) ?_
  rintro e w1 ⟨a', cap', rfl, hOwn, hb1, _⟩
  have hO1 := HO.out.below hb1
  have hP1 := HP.out.below hb1
  have I1 := Lib.hid (Own.il hOwn HC.out.1)
  have N1 := Lib.hid (Own.nocap hOwn)
  have g0 := hO1.cell (i := 0) rfl
  have f0 := hO1.free 0
  have hO2 := hO1.set 0 (.slice a' c.crew.length cap')
  have hP2 := hP1.other HNPG.out 0 (.slice a' c.crew.length cap')
  have e1 : cellsAt (w1.setCell ⟨g, 0, none⟩ (.slice a' c.crew.length cap')) ⟨p, 21, none⟩ 58 = noteL c.kind c.name c.wish.group c.wish.epoch (.slice (some ⟨bb, 0, none⟩) 1 1) zeroA 0 0 := by
    rw [hP2.cells (by rw [cliL_len (by rfl)]; omega)]; exact cliL_said rfl
  have e2 := hP2.held (o := 21) (n := 58) (by rw [cliL_len (by rfl)]; omega)
  have e3 := hO2.room (o := 1) (n := 58) (by rw [List.length_set, outL_len HNL.out rfl rfl]; omega)
  have e4 : isAgg 58 (.agg (noteL c.kind c.name c.wish.group c.wish.epoch (.slice (some ⟨bb, 0, none⟩) 1 1) zeroA 0 0).toArray) := note_agg rfl zeroA_one
  have HB1 := Lib.hid hb1
  have HO2 := Lib.hid hO2
  have HP2 := Lib.hid hP2
  clear hO1 hP1 hOwn hb1 hO2 hP2 c20
  go_upto_region 2 with (fail)
  obtain ⟨w3, hw3⟩ : ∃ x, x = (w1.setCell ⟨g, 0, none⟩ (.slice a' c.crew.length cap')).setCells g 1 (noteL c.kind c.name c.wish.group c.wish.epoch (.slice (some ⟨bb, 0, none⟩) 1 1) zeroA 0 0) := ⟨_, rfl⟩
  have hO3 : Blk w3 g (outL (.slice a' c.crew.length cap') (noteL c.kind c.name c.wish.group c.wish.epoch (.slice (some ⟨bb, 0, none⟩) 1 1) zeroA 0 0) o.began o.done (wishL o.call qa qc) (ansL o.ans xa xc ya yc)) 90 := by
    have := HO2.out.sets (noteL c.kind c.name c.wish.group c.wish.epoch (.slice (some ⟨bb, 0, none⟩) 1 1) zeroA 0 0) 1 (by rw [List.length_set, outL_len HNL.out rfl rfl]; show 1 + 58 ≤ 75; omega)
    rw [show (outL (.slice ta o.to.length tc) nl o.began o.done (wishL o.call qa qc) (ansL o.ans xa xc ya yc)).set 0 (.slice a' c.crew.length cap') = outL (.slice a' c.crew.length cap') nl o.began o.done (wishL o.call qa qc) (ansL o.ans xa xc ya yc) from rfl, outL_spl (by rw [HNL.out]; rfl)] at this
    rw [hw3]; exact this
  have hP3 : Blk w3 p (cliL c da dc r1 la lc (.int .i64 1) (.slice ca c.crew.length cc) (noteL c.kind c.name c.wish.group c.wish.epoch (.slice (some ⟨bb, 0, none⟩) 1 1) zeroA 0 0) (.map (some r2))) 113 := by
    rw [hw3]; exact HP2.out.others HNPG.out 1 _
  have hB3 : Blk w3 bb (wishL c.wish wa wc) 88 := by
    rw [hw3]; exact ((HBB.out.below HB1.out).other nbg 0 _).others nbg 1 _
  have hOn : Only [g] w w3 := by
    rw [hw3]; exact Only.setCells (.inl (by simp)) _ 1 ((Only.of_below HB1.out).setCell (.inl (by simp)) 0 _)
  have hI3 : IL w3 a' c.crew := by
    rw [hw3]; exact (I1.out.set (HO.out.below HB1.out) (by decide) 0 _).sets HO2.out (by decide) 1 _
  rw [← hw3]
  have hg3 : g < w3.heap.size := hO3.lt
  clear hw3 e1 e2 e3 e4 g0 f0
  have c59 := hP3.cell (i := 59) rfl
  have e1 : cellsAt w3 ⟨bb, 0, none⟩ 10 = wishL c.wish wa wc := hB3.cells (Nat.le_refl _)
  have e2 := hB3.held (o := 0) (n := 10) (Nat.le_refl _)
  have HO3 := Lib.hid hO3
  have HON := Lib.hid hOn
  have HI3 := Lib.hid hI3
  have HW3 := Lib.hid ((hOn.keeps HO.out (by decide)).bl HWD.out)
  have HG3 := Lib.hid hg3
  clear hO3 hP3 hB3 hOn hI3 hg3
  go_wp2_with fail
  refine Calls.mono (ownWish_any c.wish wa wc _ HW3.out HWN.out) ?_
  rintro e w4 ⟨a2, c2, rfl, hD, hn, hb⟩
  have hO4 := HO3.out.below hb
  have k39 := hO4.cell (i := 39) rfl
  have f39 := hO4.free 39
  have hg4 : g < w4.heap.size := hO4.lt
  have e4 := wish_agg c.wish a2 c2
  have hO5' := hO4.set 39 (.slice (some ⟨w4.heap.size, 0, none⟩) 1 1)
  have hO5 := hO5'.below (Below.new (w4.setCell ⟨g, 39, none⟩ (.slice (some ⟨w4.heap.size, 0, none⟩) 1 1)) (.cells (wishL c.wish a2 c2).toArray 88))
  have hk5 := (Keeps.set hO4 (by decide) 39 (.slice (some ⟨w4.heap.size, 0, none⟩) 1 1)).trans (Keeps.of_below (Below.new (w4.setCell ⟨g, 39, none⟩ (.slice (some ⟨w4.heap.size, 0, none⟩) 1 1)) (.cells (wishL c.wish a2 c2).toArray 88)))
  have hW5 : Blk ((w4.setCell ⟨g, 39, none⟩ (.slice (some ⟨w4.heap.size, 0, none⟩) 1 1)).alloc (.cells (wishL c.wish a2 c2).toArray 88)) w4.heap.size (wishL c.wish a2 c2) 88 := by
    have := Blk.new (w4.setCell ⟨g, 39, none⟩ (.slice (some ⟨w4.heap.size, 0, none⟩) 1 1)) (wishL c.wish a2 c2) 88
    simpa using this
  have HON5 := Lib.hid (((HON.out.trans (Only.of_below hb)).setCell (g := g) (.inl (by simp)) 39 (.slice (some ⟨w4.heap.size, 0, none⟩) 1 1)).alloc (.cells (wishL c.wish a2 c2).toArray 88))
  have HK5 := Lib.hid hk5
  have HI5 := Lib.hid (hk5.il (HI3.out.below hb))
  have HD5 := Lib.hid (hk5.bl hD)
  have HO5 := Lib.hid hO5
  have HW5 := Lib.hid hW5
  clear hO4 hO5 hO5' hk5 hW5 hD hb e1 e2
  go_wp2
  go_end0
  have hkk := HON5.out.keeps HO.out (by decide)
  exact ⟨rfl, HH.out.onlyG HOO.out HON5.out, ⟨_, HO5.out, a', cap', _, qa, qc, xa, xc, ya, yc, rfl, ⟨HI5.out, N1.out⟩, ⟨w4.heap.size, a2, c2, rfl, HW5.out, HD5.out, hn⟩, ⟨hkk.bl HQ.out.1, HQ.out.2⟩, ⟨hkk.bl HX.out.1, HX.out.2⟩, hkk.il HY.out, HYN.out⟩, HON5.out⟩

theorem Only.drw {R : List Nat} {a b : World} (h : Only R a b) : Only R a b.drew := ⟨h.os, h.tape, h.output, h.size, h.block⟩
theorem inP (p : Nat) : p ∈ [p] := List.mem_singleton.2 rfl
theorem in1 (p g : Nat) : p ∈ [p, g] := List.mem_cons_self
theorem in2 (p g : Nat) : g ∈ [p, g] := List.mem_cons_of_mem _ (List.mem_singleton.2 rfl)
def SayP (p r1 N g : Nat) (c : Cl) (o : Ou) (w : World) (e : Ending) (w' : World) : Prop := e = .returned (.tuple #[]) ∧ ∃ r2', w.heap.size ≤ r2' ∧ CliAt w' p r1 r2' N c ∧ OutAt w' g (againO c o) ∧ Only [p, g] w w'
set_option maxRecDepth 100000 in
set_option maxHeartbeats 1000000 in
theorem say_is (p r1 r2 N g : Nat) (c : Cl) (o : Ou) (how kind : Int) (T : List Int) (ta : Option Addr) (tc : Nat) (W : Wi) (wa : Option Addr) (wc : Nat) (w : World) (h : CliAt w p r1 r2 N c) (ho : OutAt w g o) (hT : IL w ta T) (hTn : ta = none → tc = 0) (hW : BL w wa W.data) (hWn : wa = none → wc = 0) (hh : how ≠ 0) (hg : goodC 1 T = true) :
    Calls Try.prog 120 #[.pointer (some ⟨p, 0, none⟩), .pointer (some ⟨g, 0, none⟩), .int .i64 how, .int .i64 kind, .agg #[.int .i64 1, .slice ta T.length tc], .agg (wishL W wa wc).toArray] w (SayP p r1 N g (sayC c how kind T W) o w) := by
  have HOO := Lib.hid ho
  obtain ⟨npg, nrg, nsg⟩ := h.ne ho
  obtain ⟨da, dc, la, lc, cf, cs, said, am, hP, hM⟩ := h
  have hmm := @run_makeMap Try.prog
  have HP := Lib.hid hP
  have HM := Lib.hid hM
  have HL := Lib.hid hM.1
  have HNPG := Lib.hid npg
  have HNRG := Lib.hid nrg
  have HT := Lib.hid hT
  have HTN := Lib.hid hTn
  have HW := Lib.hid hW
  have HWN := Lib.hid hWn
  have HH := Lib.hid hh
  have HG := Lib.hid hg
  clear hP hM npg nrg nsg hT hTn hW hWn hh hg ho
  go_enter Try.func120, Try.ntmps120
  go_upto_region 1 with (fail)
  obtain ⟨w1, hw1, hb1, hz1, hA, hB⟩ := two_blk w 24 88 [.int .i64 1, .slice ta T.length tc] (wishL W wa wc)
  rw [← hw1]
  clear hw1
  have a0 := hA.cell (i := 0) rfl
  have a1 := hA.cell (i := 1) rfl
  have hP1 := HP.out.below hb1
  have c7 := hP1.cell (i := 7) rfl
  have c19 := hP1.cell (i := 19) rfl
  have c20 := hP1.cell (i := 20) rfl
  have f7 := hP1.free 7
  have f19 := hP1.free 19
  have f20 := hP1.free 20
  have HA := Lib.hid hA
  have HB := Lib.hid hB
  have HB1 := Lib.hid hb1
  have HP1 := Lib.hid hP1
  have HZ1 := Lib.hid hz1
  clear hA hB hb1 hP1 hz1
  go_region
  go_upto_region 2 with (fail)
  obtain ⟨w2, hw2⟩ : ∃ x, x = (((w1.setCell ⟨p, 7, none⟩ (.int .i64 how)).setCell ⟨p, 19, none⟩ (.int .i64 1)).setCell ⟨p, 20, none⟩ (.slice ta T.length tc)).drew := ⟨_, rfl⟩
  have hP2 : Blk w2 p (cliL { c with way := how } da dc r1 la lc (.int .i64 1) (.slice ta T.length tc) said am) 113 := by
    rw [hw2]; exact ((HP1.out.set 7 _).set 19 _).set 20 _
  have hB2 : Blk w2 (w.heap.size + 1) (wishL W wa wc) 88 := by
    have hpl := HP.out.lt
    rw [hw2]; exact ((HB.out.other (by omega) _ _).other (by omega) _ _).other (by omega) _ _
  have hO2 : Only [p] w w2 := by
    rw [hw2]; exact ((((Only.of_below (R := [p]) HB1.out).setCell (.inl (inP p)) _ _).setCell (.inl (inP p)) _ _).setCell (.inl (inP p)) _ _).drw
  rw [← hw2]
  clear hw2 a0 a1 c7 c19 c20 f7 f19 f20
  have c0 := hP2.cell (i := 0) rfl
  have b2 := hB2.cell (i := 2) rfl
  have b3 := hB2.cell (i := 3) rfl
  have e1 : cellsAt w2 ⟨w.heap.size + 1, 0, none⟩ 10 = wishL W wa wc := hB2.cells (Nat.le_refl _)
  have e2 := hB2.held (o := 0) (n := 10) (Nat.le_refl _)
  have e3 := (hP2.below (Below.new w2 (.cells (wishL W wa wc).toArray 88))).room (o := 21) (n := 58) (by rw [cliL_len HL.out]; omega)
  have e4 := wish_agg W wa wc
  have e5 : isAgg 58 (.agg (noteL kind c.name W.group W.epoch (.slice (some ⟨w2.heap.size, 0, none⟩) 1 1) zeroA 0 0).toArray) := note_agg rfl zeroA_one
  have hpl := hP2.lt
  have hbl := hB2.lt
  have HP2 := Lib.hid hP2
  have HB2 := Lib.hid hB2
  have HO2 := Lib.hid hO2
  clear hP2 hB2 hO2
  go_region
  go_upto_region 3 with (fail)
  obtain ⟨w3, hw3⟩ : ∃ x, x = (w2.alloc (.cells (wishL W wa wc).toArray 88)).drew.setCells p 21 (noteL kind c.name W.group W.epoch (.slice (some ⟨w2.heap.size, 0, none⟩) 1 1) zeroA 0 0) := ⟨_, rfl⟩
  have hp0 : Blk (w2.alloc (.cells (wishL W wa wc).toArray 88)).drew p (cliL { c with way := how } da dc r1 la lc (.int .i64 1) (.slice ta T.length tc) said am) 113 := HP2.out.below (Below.new _ _).drew
  have hP3 : Blk w3 p (cliL { c with way := how } da dc r1 la lc (.int .i64 1) (.slice ta T.length tc) (noteL kind c.name W.group W.epoch (.slice (some ⟨w2.heap.size, 0, none⟩) 1 1) zeroA 0 0) am) 113 := by
    have := hp0.sets (noteL kind c.name W.group W.epoch (.slice (some ⟨w2.heap.size, 0, none⟩) 1 1) zeroA 0 0) 21 (by rw [cliL_len HL.out]; show 21 + 58 ≤ 80; omega)
    have e := spl_mid (a := cliP { c with way := how } da dc r1 la lc (.int .i64 1) (.slice ta T.length tc)) (b := said) (c := [am]) (vs := noteL kind c.name W.group W.epoch (.slice (some ⟨w2.heap.size, 0, none⟩) 1 1) zeroA 0 0) (by rw [HL.out]; rfl)
    rw [hw3]
    rw [show (cliL { c with way := how } da dc r1 la lc (.int .i64 1) (.slice ta T.length tc) said am) = cliP { c with way := how } da dc r1 la lc (.int .i64 1) (.slice ta T.length tc) ++ (said ++ [am]) from rfl] at this
    rw [show spl (cliP { c with way := how } da dc r1 la lc (.int .i64 1) (.slice ta T.length tc) ++ (said ++ [am])) 21 (noteL kind c.name W.group W.epoch (.slice (some ⟨w2.heap.size, 0, none⟩) 1 1) zeroA 0 0) = _ from e] at this
    exact this
  have hN3 : Blk w3 w2.heap.size (wishL W wa wc) 88 := by
    rw [hw3]; exact (show Blk (w2.alloc (.cells (wishL W wa wc).toArray 88)).drew w2.heap.size (wishL W wa wc) 88 from Blk.new _ _ _).others (by omega) 21 _
  have hO3 : Only [p] w w3 := by
    rw [hw3]; exact Only.setCells (.inl (inP p)) _ 21 ((HO2.out.alloc _).drw)
  have hz3 : w.heap.size ≤ w3.heap.size := hO3.size
  have hpl3 := hP3.lt
  rw [← hw3]
  clear hw3 hp0 e1 e2 e3 e4 e5 c0 b2 b3 hpl hbl
  have c79 := hP3.cell (cliL_am (by rfl))
  have f79 := hP3.free 79
  have HP3 := Lib.hid hP3
  have HN3 := Lib.hid hN3
  have HO3 := Lib.hid hO3
  have HZ3 := Lib.hid hz3
  clear hP3 hN3 hO3 hz3
  go_wp2_with fail
  obtain ⟨w5, hw5⟩ : ∃ x, x = (w3.setCell ⟨p, 79, none⟩ (.map (some w3.heap.size))).alloc (.map #[] 0) := ⟨_, rfl⟩
  have hsz : (w3.setCell ⟨p, 79, none⟩ (.map (some w3.heap.size))).heap.size = w3.heap.size := by simp
  have hP5 : Blk w5 p (cliL { c with way := how } da dc r1 la lc (.int .i64 1) (.slice ta T.length tc) (noteL kind c.name W.group W.epoch (.slice (some ⟨w2.heap.size, 0, none⟩) 1 1) zeroA 0 0) (.map (some w3.heap.size))) 113 := by
    rw [hw5]
    refine Blk.below (?_ : Blk (w3.setCell ⟨p, 79, none⟩ (.map (some w3.heap.size))) p _ 113) (Below.new _ _)
    exact HP3.out.set 79 (.map (some w3.heap.size))
  have hN5 : Blk w5 w2.heap.size (wishL W wa wc) 88 := by
    rw [hw5]; exact (HN3.out.other (fun e => by have := HP2.out.lt; omega) 79 _).below (Below.new _ _)
  have hO5 : Only [p] w w5 := by
    rw [hw5]; exact (HO3.out.setCell (.inl (inP p)) 79 _).alloc _
  have hV5 : VM w5 3 w3.heap.size 0 (fun _ => none) := by
    have := VM.new (w3.setCell ⟨p, 79, none⟩ (.map (some w3.heap.size))) 3
    rw [hsz] at this
    rw [hw5]; exact this
  rw [← hw5]
  clear hw5 hsz c79 f79 hpl3
  have hk := hO5.keeps HP.out (by decide)
  have hM5 := HM.out.only HP.out hO5
  have hC5 : CliAt w5 p r1 w3.heap.size N (sayC c how kind T W) :=
    ⟨da, dc, la, lc, _, _, _, _, hP5, rfl, hM5.2.1, hM5.2.2.1, hM5.2.2.2.1, fun _ => ⟨⟨ta, tc, rfl, rfl, hk.il HT.out, HTN.out⟩, ⟨w2.heap.size, wa, wc, rfl, hN5, hk.bl HW.out, HWN.out⟩, rfl, ⟨_, hV5.mono (Nat.zero_le _), fun k _ => rfl⟩, by have := HM.out.lt.1; have := HZ3.out; omega⟩⟩
  have hG5 : OutAt w5 g o := HOO.out.same (hO5.block _ HOO.out.lt (by simpa using HNPG.out.symm)) hk
  refine Calls.mono (again_is p r1 w3.heap.size N g (sayC c how kind T W) o _ hC5 hG5 HH.out HG.out) ?_
  rintro e w6 ⟨rfl, h1, h2, h3⟩
  have H1 := Lib.hid h1
  have H2 := Lib.hid h2
  have H3 := Lib.hid ((hO5.mono (R' := [p, g]) (by simp)).trans (h3.mono (R' := [p, g]) (by simp)))
  clear h1 h2 h3 hC5 hG5 hM5 hk hV5 hO5 hN5 hP5
  go_wp2
  go_end0
  exact ⟨rfl, w3.heap.size, HZ3.out, H1.out, H2.out, H3.out⟩
end Go.Proofs.Ytldcpnabgpjgiaa.Walks
