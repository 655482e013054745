/-
  What comes of something as an answer; the walk of the client's fire.
  The walk of the client's begin.
-/
import Derived.Test.YtldcpnabgpjgiaaDiskN
namespace Go.Proofs.Ytldcpnabgpjgiaa.Walks
open Go.RowKit Plain
set_option linter.unusedVariables false
attribute [local go_sem] isPV_mk adV_mk cells_agg cells_agg' held_drew room_drew cellsAt_drew isA4_mk isSl_mk isI_mk intOf_mk
attribute [local go_sem ↓] exec_load88 exec_store88 exec_load81 exec_store81 exec_load90 exec_store90 Go.wp_at_zero Go.wp_at_succ exec_alloc81 exec_build81r exec_build81s exec_bs69

def out0 : List Value := outL (.slice none 0 0) note0 false false (wishL Wi.zero none 0) (ansL An.zero none 0 none 0)
theorem zero90 (w : World) : (zeroValue 90).run Try.prog w = .ok (.agg out0.toArray) w := by kernel_rfl
theorem out0_v (w : World) : OutV w out0 Ou.zero :=
  ⟨none, 0, note0, none, 0, none, 0, none, 0, rfl, ⟨TL.nil w none, fun _ => rfl⟩, rfl, ⟨BL.nil w none, fun _ => rfl⟩, ⟨BL.nil w none, fun _ => rfl⟩, TL.nil w none, fun _ => rfl⟩
theorem out0_len : out0.length = 75 := rfl
section
variable {ρ : Operand → Value} {d : Option Tmp} {x y : Operand} {t : TypeId} {p : String} {af : Array Edge} {gd : Option (Nat × Bool)} {w : World}
theorem exec_alloc90 : (execOp ρ ⟨d, .alloc 90, t, p, af, gd⟩).run Try.prog w = .ok (.value (.pointer (some ⟨w.heap.size, 0, none⟩))) (w.alloc (.cells out0.toArray 90)) := by
  simp only [execOp, Instr.alloc]
  simp only [Sem.run_bind, zero90, Result.andThen_ok]
  rfl
theorem build90n (w : World) : (Instr.build 90 #[]).run Try.prog w = .ok (.agg out0.toArray) w := by kernel_rfl
theorem exec_build90n : (execOp ρ ⟨d, .build 90 #[], t, p, af, gd⟩).run Try.prog w = .ok (.value (.agg out0.toArray)) w := by
  simp only [execOp]
  have : (Array.map (fun z : Nat × Operand => (z.1, ρ z.2)) #[]) = #[] := by simp
  simp only [this, build90n, Sem.run_bind, Result.andThen_ok, Sem.run_pure]
end
attribute [local go_sem ↓] exec_alloc90 exec_build90n
/-- A call's end: the client behind, what comes out, the error. -/
def GiveP (R : List Nat) (p r1 r2 N : Nat) (c : Cl) (o : Ou) (err : Int) (w : World) (e : Ending) (w' : World) : Prop :=
  ∃ l r2', e = .returned (.tuple #[.agg l.toArray, .int .i64 err]) ∧ (r2' = r2 ∨ w.heap.size ≤ r2') ∧ CliAt w' p r1 r2' N c ∧ OutV w' l o ∧ Only R w w'
theorem give_end {w wd : World} {R : List Nat} {p r1 r2' N x : Nat} {c : Cl} {o : Ou} {l : List Value} (hC : CliAt wd p r1 r2' N c) (hV : OutV wd l o) (hX : Blk wd x out0 90) (hx : w.heap.size ≤ x) (hO : Only R w wd) :
    CliAt (wd.setCells x 0 l) p r1 r2' N c ∧ OutV (wd.setCells x 0 l) l o ∧ Blk (wd.setCells x 0 l) x l 90 ∧ Only R w (wd.setCells x 0 l) := by
  have hk : Only [x] wd (wd.setCells x 0 l) := Only.setCells (.inl (by simp)) l 0 (Only.refl _ _)
  have hs := hX.sets l 0 (by rw [hV.len]; exact Nat.le_refl _)
  rw [spl_all (by rw [hV.len]; rfl)] at hs
  exact ⟨hC.onlyG ⟨_, hX, out0_v wd⟩ hk, hV.keeps (hk.keeps hX (by decide)), hs, hO.trans' hk (by simp; exact .inr hx)⟩
theorem out_facts {w wd : World} {R : List Nat} {p r1 r2' N x g : Nat} {c : Cl} {o : Ou} {l : List Value} (hC : CliAt wd p r1 r2' N c) (hG : Blk wd g l 90) (hV : OutV wd l o) (hX : Blk wd x out0 90) (hx : w.heap.size ≤ x) (hO : Only R w wd) :
    cellsAt wd ⟨g, 0, none⟩ 75 = l ∧ Held wd ⟨g, 0, none⟩ 75 ∧ Room wd ⟨x, 0, none⟩ 75 ∧ isAgg 75 (.agg l.toArray) ∧ Hid (CliAt (wd.setCells x 0 l) p r1 r2' N c) ∧ Hid (OutV (wd.setCells x 0 l) l o) ∧ (loadVar 90 ⟨x, 0, none⟩).run Try.prog (wd.setCells x 0 l) = .ok (.agg l.toArray) (wd.setCells x 0 l) ∧ Hid (Only R w (wd.setCells x 0 l)) := by
  obtain ⟨g1, g2, g3, g4⟩ := give_end hC hV hX hx hO
  refine ⟨?_, hG.held (by rw [hV.len]; exact Nat.le_refl _), hX.room (Nat.le_refl _), hV.agg, Lib.hid g1, Lib.hid g2, load_blk Try.underlying90 rfl z90 g3 hV.len, Lib.hid g4⟩
  have := hG.cells (o := 0) (n := 75) (by rw [hV.len]; exact Nat.le_refl _)
  rwa [List.drop_zero, List.take_of_length_le (by rw [hV.len]; exact Nat.le_refl _)] at this
theorem Only.blk {R : List Nat} {w w' : World} (h : Only R w w') {g : Nat} {l : List Value} {t : TypeId} (hb : Blk w g l t) (hn : g ∉ R) : Blk w' g l t := (h.block g hb.lt hn).trans hb
set_option maxRecDepth 100000 in
set_option maxHeartbeats 1000000 in
theorem fire_is (p r1 r2 N : Nat) (c : Cl) (w : World) (h : CliAt w p r1 r2 N c) (hs : 0 ≤ c.stamp ∧ c.stamp ≤ 1000000) (hk : Wf (chunkC c)) (hw : c.way ≠ 0 → goodC 1 c.crew = true) (hm : c.way = 2 → c.call.kind ≠ 4 → (c.maps (chunkC c)).isSome = true) (hg : ∀ m, c.maps (chunkC c) = some m → goodC 1 m.1 = true) :
    Calls Try.prog 61 #[.pointer (some ⟨p, 0, none⟩)] w (GiveP [p] p r1 r2 N (fireC c) (fireO c) 0 w) := by
  have HC := Lib.hid h
  have HS := Lib.hid hs
  have HK := Lib.hid hk
  have HW := Lib.hid hw
  have HM := Lib.hid hm
  have HG := Lib.hid hg
  clear h hs hk hw hm hg
  go_enter Try.func61, Try.ntmps61
  go_upto_region 2 with (fail)
  obtain ⟨w1, hw1, hb1, hz1, hX, hGO⟩ := two_blk w 90 90 out0 out0
  rw [← hw1]
  clear hw1
  have HC1 := Lib.hid (HC.out.below hb1)
  have hpx : p < w.heap.size := HC.out.lt.1
  have HB1 := Lib.hid hb1
  have HX := Lib.hid hX
  have HO := Lib.hid (show OutAt w1 (w.heap.size + 1) Ou.zero from ⟨_, hGO, out0_v w1⟩)
  have HPX := Lib.hid hpx
  have c4 := HC1.out.c4
  clear hb1 hz1 hX hGO hpx
  go_wp2_with fail
  refine Calls.mono (cnone_is p r1 w1 c4) ?_
  rintro e w2 ⟨rfl, rfl⟩
  have c7 := HC1.out.c7
  go_upto_region 4 with (fail)
  by_cases h2 : c.way = 2
  · have HE : Hid (fireC c = orderC c (placeC c) ∧ fireO c = againO (orderC c (placeC c)) Ou.zero) := Lib.hid (by simp [fireC, fireO, h2])
    have H2 := Lib.hid h2
    rw [h2] at c7
    clear h2
    go_wp2_with fail
    refine Calls.mono (order_is p r1 r2 N (w.heap.size + 1) c Ou.zero _ HC1.out HO.out HS.out HK.out (HM.out H2.out) HG.out) ?_
    rintro e w3 ⟨rfl, r2', q1, q2, ⟨l, q3, q4⟩, q5⟩
    have hx3 : Blk w3 w.heap.size out0 90 := q5.blk HX.out (by have := HPX.out; simp; omega)
    have hO3 : Only [p] w w3 := (Only.of_below HB1.out).trans' q5 (by simp)
    obtain ⟨e1, e2, e3, e4, G1, G2, r0, G4⟩ := out_facts q2 q3 q4 hx3 (Nat.le_refl _) hO3
    have HR : Hid (r2' = r2 ∨ w.heap.size ≤ r2') := Lib.hid (.inr (Nat.le_trans HB1.out.size q1))
    have R0 := Lib.hid r0
    clear q1 q2 q3 q4 q5 hx3 hO3 r0
    go_wp2_with fail
    have r0 := R0.out
    refine bodyPost_ret (v := .tuple #[.agg l.toArray, .int .i64 0]) (by simp [results, Try.results61, asAddr, r0]) rfl ?_
    exact ⟨l, r2', rfl, HR.out, by rw [HE.out.1]; exact G1.out, by rw [HE.out.2]; exact G2.out, G4.out⟩
  · have hq2 : (c.way == 2) = false := by simpa using h2
    by_cases h0 : c.way = 0
    · have HE : Hid (fireC c = c ∧ fireO c = Ou.zero) := Lib.hid (by simp [fireC, fireO, h0])
      have hO3 : Only [p] w w1 := Only.of_below HB1.out
      obtain ⟨l, q3, q4⟩ := HO.out
      obtain ⟨e1, e2, e3, e4, G1, G2, r0, G4⟩ := out_facts HC1.out q3 q4 HX.out (Nat.le_refl _) hO3
      have R0 := Lib.hid r0
      rw [h0] at c7
      clear q3 q4 hO3 r0 h2 h0 hq2
      go_wp2_with fail
      have r0 := R0.out
      refine bodyPost_ret (v := .tuple #[.agg l.toArray, .int .i64 0]) (by simp [results, Try.results61, asAddr, r0]) rfl ?_
      exact ⟨l, r2, rfl, .inl rfl, by rw [HE.out.1]; exact G1.out, by rw [HE.out.2]; exact G2.out, G4.out⟩
    · have HE : Hid (fireC c = c ∧ fireO c = againO c Ou.zero) := Lib.hid (by simp [fireC, fireO, h0, h2])
      have hq0 : (c.way == 0) = false := by simpa using h0
      have H0 := Lib.hid h0
      clear h2 h0
      go_wp2_with fail
      refine Calls.mono (again_is p r1 r2 N (w.heap.size + 1) c Ou.zero _ HC1.out HO.out H0.out (HW.out H0.out)) ?_
      rintro e w3 ⟨rfl, q2, ⟨l, q3, q4⟩, q5⟩
      have hx3 : Blk w3 w.heap.size out0 90 := q5.blk HX.out (by simp)
      have hO3 : Only [p] w w3 := (Only.of_below HB1.out).trans' q5 (by simp)
      obtain ⟨e1, e2, e3, e4, G1, G2, r0, G4⟩ := out_facts q2 q3 q4 hx3 (Nat.le_refl _) hO3
      have R0 := Lib.hid r0
      clear q2 q3 q4 q5 hx3 hO3 r0
      go_wp2_with fail
      have r0 := R0.out
      refine bodyPost_ret (v := .tuple #[.agg l.toArray, .int .i64 0]) (by simp [results, Try.results61, asAddr, r0]) rfl ?_
      exact ⟨l, r2, rfl, .inl rfl, by rw [HE.out.1]; exact G1.out, by rw [HE.out.2]; exact G2.out, G4.out⟩
end Go.Proofs.Ytldcpnabgpjgiaa.Walks
namespace Go.Proofs.Ytldcpnabgpjgiaa.Walks
open Go.RowKit Plain
set_option linter.unusedVariables false
attribute [local go_sem] isPV_mk adV_mk cells_agg cells_agg' held_drew room_drew cellsAt_drew isA4_mk isSl_mk isI_mk intOf_mk
attribute [local go_sem ↓] exec_load88 exec_store88 exec_load81 exec_store81 exec_load90 exec_store90 Go.wp_at_zero Go.wp_at_succ exec_alloc81 exec_build81r exec_build81s exec_bs69 exec_alloc90 exec_build90n

theorem CliAt.setCall {w : World} {p r1 r2 N : Nat} {c : Cl} (h : CliAt w p r1 r2 N c) (W : Wi) {wa : Option Addr} {wc : Nat} (hW : BL w wa W.data) (hn : wa = none → wc = 0) : CliAt (w.setCells p 8 (wishL W wa wc)) p r1 r2 N { c with call := W } := by
  obtain ⟨da, dc, la, lc, cf, cs, said, am, hb, hm⟩ := h
  have hk := Keeps.sets hb (by decide) 8 (wishL W wa wc)
  have hb' := hb.sets (wishL W wa wc) 8 (by show 8 + 10 ≤ (cliL c da dc r1 la lc cf cs said am).length; simp [cliL, cliP])
  refine ⟨da, dc, wa, wc, cf, cs, said, am, hb', ?_⟩
  have hm' := hm.same (sets_other _ _ (hm.ne hb).1 _ _ _) (fun hw => sets_other _ _ ((hm.ne hb).2 hw) _ _ _) hk
  exact ⟨hm'.1, hm'.2.1, ⟨hk.bl hW, hn⟩, hm'.2.2.2⟩
def chunkW (W : Wi) : Int := if W.kind = 4 then W.block else W.group
/-- What a call begins with. -/
def beganO (W : Wi) : Ou := { Ou.zero with began := true, call := W }
def beganL (l : List Value) : List Value := outL (.slice none 0 0) note0 true false l (ansL An.zero none 0 none 0)
theorem began_v {w : World} {W : Wi} {a : Option Addr} {n : Nat} (hW : BL w a W.data) (hn : a = none → n = 0) : OutV w (beganL (wishL W a n)) (beganO W) :=
  ⟨none, 0, note0, a, n, none, 0, none, 0, rfl, ⟨TL.nil w none, fun _ => rfl⟩, rfl, ⟨hW, hn⟩, ⟨BL.nil w none, fun _ => rfl⟩, TL.nil w none, fun _ => rfl⟩
theorem build90w (c0 c1 c2 c3 c4 c5 c6 c7 c8 c9 : Value) (w : World) : (Instr.build 90 #[(2, .bool true), (4, .agg #[c0, c1, c2, c3, c4, c5, c6, c7, c8, c9])]).run Try.prog w = .ok (.agg (beganL [c0, c1, c2, c3, c4, c5, c6, c7, c8, c9]).toArray) w := by kernel_rfl
section
variable {a : Act} {d : Option Tmp} {x y : Operand} {t : TypeId} {p : String} {af : Array Edge} {gd : Option (Nat × Bool)} {w : World}
theorem exec_build90k {ρ : Operand → Value} {k : Operand} (h0 : ρ k = .bool true) (h : isAgg 10 (ρ x)) : (execOp ρ ⟨d, .build 90 #[(2, k), (4, x)], t, p, af, gd⟩).run Try.prog w = .ok (.value (.agg (beganL (ρ x).cells.toList).toArray)) w := by
  obtain ⟨h1, h2, _⟩ := h
  obtain ⟨c0, c1, c2, c3, c4, c5, c6, c7, c8, c9, e⟩ := ten (l := (ρ x).cells.toList) (by simpa using h2)
  have e' : (ρ x).cells = #[c0, c1, c2, c3, c4, c5, c6, c7, c8, c9] := by rw [← Array.toArray_toList (xs := (ρ x).cells), e]
  rw [e'] at h1 ⊢
  simp only [execOp]
  have : (Array.map (fun z : Nat × Operand => (z.1, ρ z.2)) #[(2, k), (4, x)]) = #[(2, ρ k), (4, ρ x)] := by simp
  simp only [this]
  rw [h0, h1]
  simp only [build90w, Sem.run_bind, Result.andThen_ok, Sem.run_pure]
theorem exec_build90w (h : isAgg 10 (a.eval x)) : (execOp a.eval ⟨d, .build 90 #[(2, .const (.bool true)), (4, x)], t, p, af, gd⟩).run Try.prog w = .ok (.value (.agg (beganL (a.eval x).cells.toList).toArray)) w := exec_build90k rfl h
end
attribute [local go_sem ↓] exec_build90w
attribute [local irreducible] out0
set_option maxRecDepth 100000 in
set_option maxHeartbeats 1000000 in
theorem begin_busy (p r1 r2 N : Nat) (c : Cl) (W : Wi) (wa : Option Addr) (wc : Nat) (w : World) (h : CliAt w p r1 r2 N c) (hw : c.way ≠ 0) :
    Calls Try.prog 100 #[.pointer (some ⟨p, 0, none⟩), .agg (wishL W wa wc).toArray] w (GiveP [p] p r1 r2 N c Ou.zero 151 w) := by
  have HC := Lib.hid h
  have hq : (c.way == 0) = false := by simpa using hw
  clear h hw
  go_enter Try.func100, Try.ntmps100
  go_upto_region 1 with (fail)
  obtain ⟨w1, hw1, hb1, hz1, hX, hGO⟩ := two_blk w 88 90 (wishL W wa wc) out0
  rw [← hw1]
  clear hw1
  have HC1 := Lib.hid (HC.out.below hb1)
  have c7 := HC1.out.c7
  have e3 := hGO.room (o := 0) (n := 75) (by rw [out0_len]; exact Nat.le_refl _)
  have e4 := (out0_v w1).agg
  obtain ⟨g1, g2, g3, g4⟩ := give_end (w := w) (R := [p]) HC1.out (out0_v w1) hGO (by omega) (Only.of_below hb1)
  have G1 := Lib.hid g1
  have G2 := Lib.hid g2
  have R0 := Lib.hid (load_blk Try.underlying90 rfl z90 g3 out0_len)
  have G4 := Lib.hid g4
  clear hb1 hz1 hX hGO g1 g2 g3 g4
  go_wp2_with fail
  have r0 := R0.out
  refine bodyPost_ret (v := .tuple #[.agg out0.toArray, .int .i64 151]) (by simp [results, Try.results100, asAddr, r0]) rfl ?_
  exact ⟨out0, r2, rfl, .inl rfl, G1.out, G2.out, G4.out⟩
set_option maxRecDepth 100000 in
set_option maxHeartbeats 1000000 in
theorem begin_is (p r1 r2 N : Nat) (c : Cl) (W : Wi) (wa : Option Addr) (wc : Nat) (w : World) (h : CliAt w p r1 r2 N c) (hw : c.way = 0) (hs : 0 ≤ c.stamp ∧ c.stamp ≤ 1000000) (hn : 0 ≤ c.calls ∧ c.calls ≤ 1000000) (hk : Wf (chunkW W)) (hg : ∀ m, c.maps (chunkW W) = some m → goodC 1 m.1 = true)
    (hW : BL w wa W.data) (hWn : wa = none → wc = 0) :
    Calls Try.prog 100 #[.pointer (some ⟨p, 0, none⟩), .agg (wishL W wa wc).toArray] w (GiveP [p] p r1 r2 N (beginC c W) (beginO c W) 0 w) := by
  have HC := Lib.hid h
  have H0 := Lib.hid hw
  have HS := Lib.hid hs
  have HK := Lib.hid hk
  have HG := Lib.hid hg
  have HW := Lib.hid hW
  have HWN := Lib.hid hWn
  obtain ⟨hn0, hn1⟩ := hn
  clear h hs hk hg hW hWn
  go_enter Try.func100, Try.ntmps100
  go_upto_region 1 with (fail)
  obtain ⟨w1, hw1, hb1, hz1, hB, hX⟩ := two_blk w 88 90 (wishL W wa wc) out0
  rw [← hw1]
  clear hw1
  have HC1 := Lib.hid (HC.out.below hb1)
  have HB1 := Lib.hid hb1
  have c7 := HC1.out.c7
  rw [hw] at c7
  have c6 := HC1.out.c6
  have hpx := HC.out.lt.1
  have hne : p ≠ w.heap.size := by omega
  have HPX := Lib.hid hpx
  have HX := Lib.hid hX
  have HB := Lib.hid hB
  have hs1 : IntKind.i64.wrap (c.calls + 1) = c.calls + 1 := IntWalk.i64_in _ (by omega)
  clear hb1 hz1 hB hX hpx hw
  go_upto_region 4 with (fail)
  obtain ⟨w2, hw2⟩ : ∃ x, x = w1.setCell ⟨p, 6, none⟩ (.int .i64 (c.calls + 1)) := ⟨_, rfl⟩
  have hC2 : CliAt w2 p r1 r2 N { c with calls := c.calls + 1 } := by rw [hw2]; exact HC1.out.setCalls _
  have hB2 : Blk w2 w.heap.size (wishL W wa wc) 88 := by rw [hw2]; exact HB.out.other (by omega) _ _
  have hX2 : Blk w2 (w.heap.size + 1) out0 90 := by rw [hw2]; exact HX.out.other (by have := HPX.out; omega) _ _
  have hO2 : Only [p] w w2 := by rw [hw2]; exact (Only.of_below HB1.out).setCell (.inl (inP p)) _ _
  have hW2 : BL w2 wa W.data := by rw [hw2]; exact (HC1.out.keepsSet 6 _).bl (HW.out.below HB1.out)
  rw [← hw2]
  have HW2E := Lib.hid hw2
  clear hw2 c7 c6 hs1
  have c0 := hC2.c0
  have c6 := hC2.c6.1
  have b0 := hB2.cell (i := 0) rfl
  have b1 := hB2.cell (i := 1) rfl
  have f0 := hB2.free 0
  have f1 := hB2.free 1
  have HC2 := Lib.hid hC2
  have HB2 := Lib.hid hB2
  have HX2 := Lib.hid hX2
  have HO2 := Lib.hid hO2
  have HW2 := Lib.hid hW2
  clear hC2 hB2 hX2 hO2 hW2
  go_region
  go_upto_region 5 with (fail)
  obtain ⟨w3, hw3⟩ : ∃ x, x = ((w2.setCell ⟨w.heap.size, 0, none⟩ (.int .i64 c.name)).setCell ⟨w.heap.size, 1, none⟩ (.int .i64 (c.calls + 1))).drew := ⟨_, rfl⟩
  obtain ⟨W', hW'⟩ : ∃ x : Wi, x = { W with client := c.name, stamp := c.calls + 1 } := ⟨_, rfl⟩
  have hB3 : Blk w3 w.heap.size (wishL W' wa wc) 88 := by rw [hw3, hW']; exact (HB2.out.set 0 _).set 1 _
  have hX3 : Blk w3 (w.heap.size + 1) out0 90 := by rw [hw3]; exact (HX2.out.other (by omega) _ _).other (by omega) _ _
  have hbx : Below w.heap.size w2 w3 := by rw [hw3]; exact (((Below.refl w.heap.size w2).setCell (Nat.le_refl _) _).setCell (Nat.le_refl _) _).drew
  have hO3 : Only [p] w w3 := by rw [hw3]; exact ((HO2.out.setCell (.inr (Nat.le_refl _)) _ _).setCell (.inr (Nat.le_refl _)) _ _).drw
  have hC3 : CliAt w3 p r1 r2 N { c with calls := c.calls + 1 } := by
    obtain ⟨da, dc, la, lc, cf, cs, said, am, hP, hM⟩ := HC.out
    refine ⟨da, dc, la, lc, cf, cs, said, am, ?_, hM.only hP hO3⟩
    rw [hw3, HW2E.out]
    exact (((hP.below HB1.out).set 6 (.int .i64 (c.calls + 1))).other hne 0 _).other hne 1 _
  have hW3 : BL w3 wa W'.data := by
    obtain ⟨da, dc, la, lc, cf, cs, said, am, hP, hM⟩ := HC.out
    rw [hW']; exact (hO3.keeps hP (by decide)).bl HW.out
  rw [← hw3]
  clear hw3 c0 c6 b0 b1 f0 f1 hbx
  have HWE := Lib.hid hW'
  clear hW'
  have hC4 := hC3.setCall W' hW3 HWN.out
  have hlp : Room w3 ⟨p, 8, none⟩ 10 := by
    obtain ⟨da, dc, la, lc, cf, cs, said, am, hP, hM⟩ := hC3
    exact hP.room (by simp [cliL, cliP])
  have e1 : cellsAt w3 ⟨w.heap.size, 0, none⟩ 10 = wishL W' wa wc := hB3.cells (Nat.le_refl _)
  have e2 := hB3.held (o := 0) (n := 10) (Nat.le_refl _)
  have e4 := wish_agg W' wa wc
  have c18 := hC4.c18.1
  have f18 := hC4.c18.2
  have hC5 := hC4.setOwn 0
  have hk5 : Only [p] w ((w3.setCells p 8 (wishL W' wa wc)).setCell ⟨p, 18, none⟩ (.int .i64 0)) := (Only.setCells (.inl (inP p)) _ 8 hO3).setCell (.inl (inP p)) _ _
  have hB5 : Blk ((w3.setCells p 8 (wishL W' wa wc)).setCell ⟨p, 18, none⟩ (.int .i64 0)) w.heap.size (wishL W' wa wc) 88 := (hB3.others (fun h => hne h.symm) _ _).other (fun h => hne h.symm) _ _
  have hX5 : Blk ((w3.setCells p 8 (wishL W' wa wc)).setCell ⟨p, 18, none⟩ (.int .i64 0)) (w.heap.size + 1) out0 90 := (hX3.others (by have := HPX.out; omega) _ _).other (by have := HPX.out; omega) _ _
  have hW5 : BL ((w3.setCells p 8 (wishL W' wa wc)).setCell ⟨p, 18, none⟩ (.int .i64 0)) wa W'.data := by
    obtain ⟨da, dc, la, lc, cf, cs, said, am, hP, hM⟩ := HC.out
    have hd : W'.data = W.data := by rw [HWE.out]
    rw [hd]; exact (hk5.keeps hP (by decide)).bl HW.out
  obtain ⟨c5, hc5⟩ : ∃ x : Cl, x = { c with calls := c.calls + 1, call := W', own := 0 } := ⟨_, rfl⟩
  have hC5' : CliAt ((w3.setCells p 8 (wishL W' wa wc)).setCell ⟨p, 18, none⟩ (.int .i64 0)) p r1 r2 N c5 := by rw [hc5]; exact hC5
  have HC5 := Lib.hid hC5'
  have HCE := Lib.hid hc5
  have HK5 := Lib.hid hk5
  have HB5 := Lib.hid hB5
  have HX5 := Lib.hid hX5
  have HW5 := Lib.hid hW5
  clear hB3 hX3 hO3 hC3 hW3 hC4 hC5 hk5 hB5 hX5 hW5 hC5' hc5 HW2 HO2 HX2 HB2 HC2
  go_upto_region 6 with (fail)
  obtain ⟨w5, hw5⟩ : ∃ x, x = (w3.setCells p 8 (wishL W' wa wc)).setCell ⟨p, 18, none⟩ (.int .i64 0) := ⟨_, rfl⟩
  rw [← hw5] at HC5 HK5 HB5 HX5 HW5 ⊢
  clear hw5 e1 e2 hlp c18 f18
  have e1 : cellsAt w5 ⟨w.heap.size, 0, none⟩ 10 = wishL W' wa wc := HB5.out.cells (Nat.le_refl _)
  have e2 := HB5.out.held (o := 0) (n := 10) (Nat.le_refl _)
  go_wp2_with fail
  refine Calls.mono (ownWish_any W' wa wc _ HW5.out HWN.out) ?_
  rintro e w6 ⟨a2, c2, rfl, hD, hn, hb⟩
  have e5 := wish_agg W' a2 c2
  have hN6 := Blk.new w6 out0 90
  have hN7 := hN6.sets (beganL (wishL W' a2 c2)) 0 (by rw [out0_len]; exact Nat.le_refl _)
  rw [spl_all (by rw [out0_len]; rfl)] at hN7
  have e6 := hN6.room (o := 0) (n := 75) (by rw [out0_len]; exact Nat.le_refl _)
  have e7 := (began_v hD hn).agg
  have hk7 : Only [w6.heap.size] (w6.alloc (.cells out0.toArray 90)) ((w6.alloc (.cells out0.toArray 90)).setCells w6.heap.size 0 (beganL (wishL W' a2 c2))) := Only.setCells (.inl (by simp)) _ 0 (Only.refl _ _)
  have hz6 : w.heap.size ≤ w6.heap.size := Nat.le_trans HK5.out.size hb.size
  have hne6 : w.heap.size + 1 ≠ w6.heap.size := by have := (HX5.out.below hb).lt; omega
  have HC7 := Lib.hid (((HC5.out.below hb).below (Below.new w6 (.cells out0.toArray 90))).onlyG ⟨_, hN6, out0_v _⟩ hk7)
  have HX7 := Lib.hid ((((HX5.out.below hb).below (Below.new w6 (.cells out0.toArray 90))).others hne6 0 (beganL (wishL W' a2 c2))))
  have HK7 : Hid (Only [p] w ((w6.alloc (.cells out0.toArray 90)).setCells w6.heap.size 0 (beganL (wishL W' a2 c2)))) := Lib.hid ((((HK5.out.mono (by simp)).trans (Only.of_below hb)).alloc _).trans' hk7 (by simp; exact .inr hz6))
  have HO7 : Hid (OutAt ((w6.alloc (.cells out0.toArray 90)).setCells w6.heap.size 0 (beganL (wishL W' a2 c2))) w6.heap.size (beganO W')) := Lib.hid ⟨_, hN7, began_v ((hk7.keeps hN6 (by decide)).bl (hD.below (Below.new _ _))) hn⟩
  have HZ6 := Lib.hid hz6
  have HNE6 := Lib.hid hne6
  have hch : chunkC c5 = chunkW W := by rw [HCE.out, HWE.out]; rfl
  have HCH := Lib.hid hch
  clear hz6 hne6 hk7 hN6 hN7 hD hn hb hch e1 e2 e4
  go_wp2_with fail
  refine Calls.mono (on_is p r1 r2 N w6.heap.size c5 (beganO W') _ HC7.out HO7.out (by rw [HCE.out]; exact HS.out) (by rw [HCH.out]; exact HK.out) (by rw [HCH.out, HCE.out]; exact HG.out)) ?_
  rintro e w8 ⟨rfl, r2', q1, q2, ⟨l, q3, q4⟩, q5⟩
  have hx8 : Blk w8 (w.heap.size + 1) out0 90 := q5.blk HX7.out (by have := HPX.out; have := HNE6.out; simp; omega)
  have hO8 : Only [p] w w8 := HK7.out.trans' q5 (by simp; exact .inr HZ6.out)
  obtain ⟨e1, e2, e3, e4, G1, G2, r0, G4⟩ := out_facts q2 q3 q4 hx8 (by omega) hO8
  have HR : Hid (w.heap.size ≤ r2') := Lib.hid (Nat.le_trans HK7.out.size q1)
  have R0 := Lib.hid r0
  clear q1 q2 q3 q4 q5 hx8 hO8 r0 e5 e6 e7
  have HE : Hid (beginC c W = onC c5 ∧ beginO c W = againO (onC c5) (beganO W')) := Lib.hid (by rw [HCE.out, HWE.out]; exact ⟨rfl, rfl⟩)
  go_wp2_with fail
  have r0 := R0.out
  refine bodyPost_ret (v := .tuple #[.agg l.toArray, .int .i64 0]) (by simp [results, Try.results100, asAddr, r0]) rfl ?_
  exact ⟨l, r2', rfl, .inr HR.out, by rw [HE.out.1]; exact G1.out, by rw [HE.out.2]; exact G2.out, G4.out⟩
end Go.Proofs.Ytldcpnabgpjgiaa.Walks
