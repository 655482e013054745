/-
  The walk of the client's told.
-/
import Derived.Test.YtldcpnabgpjgiaaDiskK
namespace Go.Proofs.Ytldcpnabgpjgiaa.Walks
open Go.RowKit Plain
set_option linter.unusedVariables false
attribute [local go_sem] isPV_mk adV_mk cells_agg cells_agg' held_drew room_drew cellsAt_drew isA4_mk isSl_mk isI_mk intOf_mk
attribute [local go_sem ↓] exec_load88 exec_store88 exec_load81 exec_store81 exec_load90 exec_store90 Go.wp_at_zero Go.wp_at_succ exec_alloc81 exec_build81r exec_build81s exec_bs69

theorem MapM.put {w : World} {r N : Nat} {m : Int → Option (List Int × Int)} (h : MapM w r N m) (hN : N < maxLen) {k : Int} (hk : Wf k) {a : Option Addr} {l : List Int} {cap : Nat} (e : Int) (hI : IL w a l) (hn : a = none → cap = 0) :
    ∃ w', (Instr.mapUpdate 109 (.map (some r)) (.int .i64 k) (.agg #[.int .i64 1, .slice a l.length cap, .int .i64 e])).run Try.prog w = .ok () w' ∧ MapM w' r (N + 1) (upF m k (some (l, e))) ∧ w.grownBy w' (some r) ∧ Keeps w w' := by
  obtain ⟨F, h1, h2⟩ := h
  obtain ⟨kl, hkl⟩ := keyOf_i hk
  obtain ⟨w', hr, hv, hg⟩ := h1.store (val := .agg #[.int .i64 1, .slice a l.length cap, .int .i64 e]) int_key Try.underlying109 hN hkl
  have hks := Keeps.map hg h1
  refine ⟨w', hr, ⟨_, hv, fun k' hk' => ?_⟩, hg, hks⟩
  unfold upF upd
  by_cases e : k' = k
  · subst e
    rw [if_pos rfl, if_pos rfl]
    exact ⟨a, cap, rfl, hks.il hI, hn⟩
  · rw [if_neg e]
    have : ¬ (Value.int .i64 k' = Value.int .i64 k) := fun hh => e (by simpa using hh)
    rw [if_neg this]
    exact (h2 k' hk').keeps hks
def EndP (p r1 r2 N g : Nat) (c : Cl) (o : Ou) (w : World) (e : Ending) (w' : World) : Prop := e = .returned (.tuple #[]) ∧ ∃ r2', (r2' = r2 ∨ w.heap.size ≤ r2') ∧ CliAt w' p r1 r2' N c ∧ OutAt w' g o ∧ Only [p, r1, g] w w'
def NextB (w0 w : World) (l : List Int) (v : Value) : Prop := ∃ b a cap, v = .pointer (some ⟨b, 0, none⟩) ∧ w0.heap.size ≤ b ∧ Blk w b [.int .i64 1, .slice a l.length cap] 24 ∧ IL w a l ∧ (a = none → cap = 0) ∧ Below w0.heap.size w0 w
theorem nextB_after {w0 w wd : World} {l : List Int} {a : Option Addr} {cap : Nat} (hS : Below w0.heap.size w0 wd) (hI : IL wd a l) (hn : a = none → cap = 0) : NextB w0 (wd.alloc (.cells #[.int .i64 1, .slice a l.length cap] 24)) l (.pointer (some ⟨wd.heap.size, 0, none⟩)) :=
  ⟨wd.heap.size, a, cap, rfl, hS.size, Blk.new _ _ _, hI.below (Below.new _ _), hn, Below.step hS (Below.new _ _)⟩
theorem nextB_ahead {w0 wd : World} {l : List Int} {a : Option Addr} {cap : Nat} (hb : Below (w0.heap.size + 1) (w0.alloc (.cells #[.int .i64 0, .slice none 0 0] 24)) wd) (hI : IL wd a l) (hn : a = none → cap = 0) :
    NextB w0 ((wd.setCell ⟨w0.heap.size, 0, none⟩ (.int .i64 1)).setCell ⟨w0.heap.size, 1, none⟩ (.slice a l.length cap)) l (.pointer (some ⟨w0.heap.size, 0, none⟩)) := by
  have h0 : Blk (w0.alloc (.cells #[.int .i64 0, .slice none 0 0] 24)) w0.heap.size [.int .i64 0, .slice none 0 0] 24 := Blk.new _ _ _
  have hb' : Below (w0.alloc (.cells #[.int .i64 0, .slice none 0 0] 24)).heap.size (w0.alloc (.cells #[.int .i64 0, .slice none 0 0] 24)) wd := by simpa using hb
  have h1 := h0.below hb'
  have h2 := h1.set 0 (.int .i64 1)
  have h3 := h2.set 1 (.slice a l.length cap)
  exact ⟨_, a, cap, rfl, Nat.le_refl _, h3, (hI.set h1 (by decide) _ _).set h2 (by decide) _ _, hn, ((Below.step (Below.new _ _) hb').setCell (by simp) _).setCell (by simp) _⟩
set_option maxRecDepth 100000 in
set_option maxHeartbeats 2000000 in
theorem told_is (p r1 r2 N g : Nat) (c : Cl) (o : Ou) (A : An) (da : Option Addr) (dc : Nat) (na : Option Addr) (nc : Nat) (w : World) (h : CliAt w p r1 r2 N c) (ho : OutAt w g o) (hs : 0 ≤ c.stamp ∧ c.stamp ≤ 1000000) (hk : Wf (chunkC c)) (hb : Wf c.call.block) (hN1 : N < 1000000)
    (hD : BL w da A.data) (hDn : da = none → dc = 0) (hN : IL w na A.nodes) (hNn : na = none → nc = 0) :
    Calls Try.prog 115 #[.pointer (some ⟨p, 0, none⟩), .pointer (some ⟨g, 0, none⟩), .agg #[.int .i64 A.err, .slice da A.data.length dc, .int .i64 A.ep, .slice na A.nodes.length nc]] w (EndP p r1 r2 (N + 1) g (toldC c A) (toldO c o A) w) := by
  have HC := Lib.hid h
  have HO := Lib.hid ho
  have HS := Lib.hid hs
  have HK := Lib.hid hk
  have HBK := Lib.hid hb
  have HD := Lib.hid hD
  have HDN := Lib.hid hDn
  have HN := Lib.hid hN
  have HNN := Lib.hid hNn
  have HN1 := Lib.hid hN1
  have hm := hN.1
  clear h ho hs hk hb hD hDn hN hNn hN1
  go_enter Try.func115, Try.ntmps115
  go_upto_region 1 with (fail)
  obtain ⟨w1, hw1⟩ : ∃ x, x = w.alloc (.cells #[.int .i64 A.err, .slice da A.data.length dc, .int .i64 A.ep, .slice na A.nodes.length nc] 72) := ⟨_, rfl⟩
  have hb1 : Below w.heap.size w w1 := by rw [hw1]; exact Below.new _ _
  have hA : Blk w1 w.heap.size [.int .i64 A.err, .slice da A.data.length dc, .int .i64 A.ep, .slice na A.nodes.length nc] 72 := by rw [hw1]; exact Blk.new _ _ _
  rw [← hw1]
  clear hw1
  have c1 := (HC.out.below hb1).dir.1
  have a3 := hA.cell (i := 3) rfl
  have HC1 := Lib.hid (HC.out.below hb1)
  have HO1 := Lib.hid (HO.out.below hb1)
  have HN := Lib.hid (HN.out.below hb1)
  have HD := Lib.hid (HD.out.below hb1)
  have HB1 := Lib.hid hb1
  have HA := Lib.hid hA
  have hpl := HC1.out.lt.1
  have hal := HA.out.lt
  clear hb1 hA
  go_cut [6] from 6 to 15 (fun v wx => NextB w1 wx A.nodes v)
  case first =>
    have z0 : (w1.alloc (.cells #[.int .i64 0, .slice none 0 0] 24)).cell? ⟨w1.heap.size, 0, none⟩ = some (.int .i64 0) := (Blk.new w1 [.int .i64 0, .slice none 0 0] 24).cell (i := 0) rfl
    have z1 : (w1.alloc (.cells #[.int .i64 0, .slice none 0 0] 24)).cell? ⟨w1.heap.size, 1, none⟩ = some (.slice none 0 0) := (Blk.new w1 [.int .i64 0, .slice none 0 0] 24).cell (i := 1) rfl
    have Z0 := Lib.hid z0
    have Z1 := Lib.hid z1
    clear z0 z1
    go_region_with
      ((go_at_call 91; go_loud ((with_reducible refine Calls.mono (clone_any na nc A.nodes _ ?_ HNN.out ?_) ?_); (first | exact HN.out.ints | exact (HN.out.below (Below.refl _ _).drew).ints | exact (HN.out.below (Below.new _ _)).ints | exact (HN.out.below (Below.new _ _).drew).ints); omega; rintro e wd ⟨a', cap', rfl, hOwn, hb, _⟩; have hI := Own.il hOwn hm; have hn := Own.nocap hOwn; have hwz := hb.size; first
        | (have hS : Below (w1.heap.size + 1) (w1.alloc (.cells #[.int .i64 0, .slice none 0 0] 24)) wd := (by first | simpa using hb | exact Below.trans (show Below (w1.heap.size + 1) (w1.alloc (.cells #[.int .i64 0, .slice none 0 0] 24)) (w1.alloc (.cells #[.int .i64 0, .slice none 0 0] 24)).drew from (Below.refl _ _).drew) (by simpa using hb)); have y0 := keepb hS (by simp) Z0.out; have y1 := keepb hS (by simp) Z1.out; have x0 : wd.frozen? ⟨w1.heap.size, 0, none⟩ = false := (((Blk.new w1 [.int .i64 0, .slice none 0 0] 24).below (by simpa using hS)).free 0); have x1 : wd.frozen? ⟨w1.heap.size, 1, none⟩ = false := (((Blk.new w1 [.int .i64 0, .slice none 0 0] 24).below (by simpa using hS)).free 1); have c1 : wd.cell? ⟨p, 1, none⟩ = some (.int .i64 1) := (keepb hS (by simp; omega) (keepc (Below.new _ _) c1)); have hpw := block_lt_of_cell c1)
        | (have hS : Below w1.heap.size w1 wd := (by first | exact hb | exact Below.step (Below.refl _ _).drew hb); have c1 := keepc hS c1; have hpw := block_lt_of_cell c1))))
    all_goals
      go_wp2_with fail
      go_meet
      first
        | exact nextB_after (w := w1) hS hI hn
        | exact nextB_ahead hS hI hn
  case rest =>
    obtain ⟨b, a', cap', rfl, hbz, hB, hI, hn, hS⟩ := hcut
    have hA := HA.out.below hS
    have a0 := hA.cell (i := 0) rfl
    have a1 := hA.cell (i := 1) rfl
    have a2 := hA.cell (i := 2) rfl
    have a3 := hA.cell (i := 3) rfl
    have b0 := hB.cell (i := 0) rfl
    have b1 := hB.cell (i := 1) rfl
    have HC2 := Lib.hid (HC1.out.below hS)
    have HO2 := Lib.hid (HO1.out.below hS)
    have HD2 := Lib.hid (HD.out.below hS)
    have HN2 := Lib.hid (HN.out.below hS)
    have HI2 := Lib.hid hI
    have HIN := Lib.hid hn
    have HW2 := Lib.hid (Below.step HB1.out hS)
    have HBB := Lib.hid hB
    have HA2 := Lib.hid hA
    have HBZ := Lib.hid hbz
    clear hA hB hI hn hS c1 hbz
    by_cases he : A.err = 0
    · have hq : (A.err != 0) = false := by simp [he]
      have HE0 := Lib.hid he
      clear he
      go_wp2_with fail
      refine Calls.mono (check_any 1 a' cap' A.nodes _ HI2.out.ints) ?_
      rintro e w3 ⟨rfl, hb3⟩
      have hA := HA2.out.below hb3
      have hB := HBB.out.below hb3
      have a0 := hA.cell (i := 0) rfl
      have a1 := hA.cell (i := 1) rfl
      have a2 := hA.cell (i := 2) rfl
      have a3 := hA.cell (i := 3) rfl
      have b0 := hB.cell (i := 0) rfl
      have b1 := hB.cell (i := 1) rfl
      have HC2 := Lib.hid (HC2.out.below hb3)
      have HO2 := Lib.hid (HO2.out.below hb3)
      have HD2 := Lib.hid (HD2.out.below hb3)
      have HN2 := Lib.hid (HN2.out.below hb3)
      have HI2 := Lib.hid (HI2.out.below hb3)
      have HW2 := Lib.hid (Below.step HW2.out hb3)
      clear hA hB hb3 hq
      cases hgd : goodC 1 A.nodes with
      | false =>
        have HE : Hid (toldC c A = doneC c ∧ toldO c o A = doneO c o A) := Lib.hid (by simp [toldC, toldO, toldB, hgd])
        rw [errC_bad hgd]
        clear hgd
        go_wp2_with fail
        refine Calls.mono (done_is p r1 r2 N g c o A da dc na nc _ HC2.out HO2.out HBK.out HD2.out HDN.out HN2.out HNN.out) ?_
        rintro e wd ⟨rfl, q2, q3, q4⟩
        have Q2 : Hid (CliAt wd p r1 r2 (N + 1) (toldC c A)) := Lib.hid (by rw [HE.out.1]; exact q2.mono (by omega))
        have Q3 : Hid (OutAt wd g (toldO c o A)) := Lib.hid (by rw [HE.out.2]; exact q3)
        have Q4 := Lib.hid ((Only.of_below (R := [p, r1, g]) HW2.out).trans q4)
        clear q2 q3 q4
        go_wp2
        go_end0
        exact ⟨rfl, r2, .inl rfl, Q2.out, Q3.out, Q4.out⟩
      | true =>
        have HE : Hid (toldC c A = onC (knowC c A) ∧ toldO c o A = againO (onC (knowC c A)) o) := Lib.hid (by simp [toldC, toldO, toldB, hgd, HE0.out])
        have HGD := Lib.hid hgd
        rw [errC_good hgd]
        clear hgd
        go_upto_region 4 with (fail)
        have c4 := HC2.out.c4
        obtain ⟨w4, hs4, hM4, hg4, hk4⟩ := (HC2.out.drw.mapM).put (by have := HN1.out; unfold maxLen; omega) HK.out A.ep (HI2.out.below (Below.refl _ _).drew) HIN.out
        go_region_with
          ((go_at_call 116; go_loud ((with_reducible refine Calls.mono (chunk_is p r1 r2 N c _ ?_) ?_); (first | exact HC2.out | exact HC2.out.drw); rintro e1 wd ⟨rfl, rfl⟩)))
        all_goals
          have hC4 : CliAt w4 p r1 r2 (N + 1) (knowC c A) := HC2.out.drw.setMaps hM4 (by omega) hg4 hk4
          have hO4 : OutAt w4 g o := HO2.out.drw.same (hg4.block _ HO2.out.lt (by simpa using ((HC2.out.ne HO2.out).2.1).symm)) hk4
          have HC4 := Lib.hid hC4
          have HO4 := Lib.hid hO4
          have HW4 : Hid (Only [p, r1, g] w w4) := Lib.hid (((Only.of_below HW2.out).drw).trans (Only.of_grown hg4 (in32 p r1 g)))
          clear hs4 hM4 hg4 hk4 hC4 hO4 a0 a1 a2 a3 b0 b1 c4
          go_wp2_with fail
          refine Calls.mono (on_is p r1 r2 (N + 1) g (knowC c A) o _ HC4.out HO4.out HS.out HK.out (fun m hm => by
            have : (knowC c A).maps (chunkC (knowC c A)) = some (A.nodes, A.ep) := by unfold knowC upF; exact if_pos rfl
            rw [this] at hm
            cases hm
            exact HGD.out)) ?_
          rintro e wd ⟨rfl, r2', q1, q2, q3, q4⟩
          have Q1 : Hid (w.heap.size ≤ r2') := Lib.hid (Nat.le_trans HW4.out.size q1)
          have Q2 : Hid (CliAt wd p r1 r2' (N + 1) (toldC c A)) := Lib.hid (by rw [HE.out.1]; exact q2)
          have Q3 : Hid (OutAt wd g (toldO c o A)) := Lib.hid (by rw [HE.out.2]; exact q3)
          have Q4 := Lib.hid (HW4.out.trans (q4.mono (R' := [p, r1, g]) (by simp)))
          clear q1 q2 q3 q4
          go_wp2
          go_end0
          exact ⟨rfl, r2', .inr Q1.out, Q2.out, Q3.out, Q4.out⟩
    · have hq : (A.err != 0) = true := by simp [he]
      have HE : Hid (toldC c A = doneC c ∧ toldO c o A = doneO c o A) := Lib.hid (by simp [toldC, toldO, toldB, he])
      clear he
      go_wp2_with fail
      refine Calls.mono (done_is p r1 r2 N g c o A da dc na nc _ HC2.out HO2.out HBK.out HD2.out HDN.out HN2.out HNN.out) ?_
      rintro e wd ⟨rfl, q2, q3, q4⟩
      have Q2 : Hid (CliAt wd p r1 r2 (N + 1) (toldC c A)) := Lib.hid (by rw [HE.out.1]; exact q2.mono (by omega))
      have Q3 : Hid (OutAt wd g (toldO c o A)) := Lib.hid (by rw [HE.out.2]; exact q3)
      have Q4 := Lib.hid ((Only.of_below (R := [p, r1, g]) HW2.out).trans q4)
      clear q2 q3 q4
      go_wp2
      go_end0
      exact ⟨rfl, r2, .inl rfl, Q2.out, Q3.out, Q4.out⟩
end Go.Proofs.Ytldcpnabgpjgiaa.Walks
