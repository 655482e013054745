/-
  The walk of the client's count.
-/
import Derived.Test.YtldcpnabgpjgiaaDiskM
import Derived.Deep.RegionHeld3
namespace Go.Proofs.Ytldcpnabgpjgiaa.Walks
open Go.RowKit Plain
open Go.Maps (Keyed IsMap int_keyed)
set_option linter.unusedVariables false
attribute [local go_sem] isPV_mk adV_mk cells_agg cells_agg' held_drew room_drew cellsAt_drew isA4_mk isSl_mk isI_mk intOf_mk

theorem some_two {a : Option Addr} {cap : Nat} {l : List Int} {w : World} (hI : Ints w a l) (hg : goodC 1 l = true) : Calls Try.prog 75 #[.agg #[.int .i64 1, .slice a l.length cap]] w fun e w' => e = .returned (.int .i64 2) ∧ Below w.heap.size w w' := by
  have := some_any 1 a cap l w hI
  rw [show someC 1 l = 2 by simp [someC, hg]] at this
  exact this
theorem most_three {a : Option Addr} {cap : Nat} {l : List Int} {w : World} (hI : Ints w a l) (hg : goodC 1 l = true) : Calls Try.prog 73 #[.agg #[.int .i64 1, .slice a l.length cap]] w fun e w' => e = .returned (.int .i64 3) ∧ Below w.heap.size w w' := by
  have := most_any 1 a cap l w hI
  rw [show mostC 1 l = 3 by simp [mostC, hg]] at this
  exact this
theorem CliAt.crewC {w : World} {p r1 r2 N : Nat} {c : Cl} (h : CliAt w p r1 r2 N c) (hw : c.way ≠ 0) : w.cell? ⟨p, 19, none⟩ = some (.int .i64 1) ∧ w.cell? ⟨p, 79, none⟩ = some (.map (some r2)) ∧ MapA w r2 N c.ans ∧ ∃ ca cc, w.cell? ⟨p, 20, none⟩ = some (.slice ca c.crew.length cc) ∧ IL w ca c.crew ∧ (ca = none → cc = 0) := by
  obtain ⟨da, dc, la, lc, cf, cs, said, am, hP, hM⟩ := h
  have hsaid := hM.2.2.2.2 hw
  obtain ⟨⟨ca, cc, rfl, rfl, hI, hn⟩, _, rfl, hA, _⟩ := hsaid
  exact ⟨hP.cell (i := 19) rfl, hP.cell (cliL_am hM.1), hA, ca, cc, hP.cell (i := 20) rfl, hI, hn⟩
def CntB (w0 wx : World) (n : Nat) (k : Bool) (v7 v8 : Value) : Prop := v7 = .int .i64 n ∧ v8 = .bool k ∧ Below w0.heap.size w0 wx
def TwoB (w0 wx : World) (n : Nat) (v9 v10 : Value) : Prop := v9 = .bool (decide ((2 : Int) ≤ (n : Int))) ∧ v10 = .bool (decide ((3 : Int) ≤ (n : Int))) ∧ Below w0.heap.size w0 wx
set_option maxRecDepth 100000 in
set_option maxHeartbeats 4000000 in
theorem count_is (p r1 r2 N g : Nat) (c : Cl) (o : Ou) (A : An) (da : Option Addr) (dc : Nat) (na : Option Addr) (nc : Nat) (w : World) (h : CliAt w p r1 r2 N c) (ho : OutAt w g o) (hw : c.way ≠ 0) (hs : 0 ≤ c.stamp ∧ c.stamp ≤ 1000000) (hk : Wf (chunkC c)) (hb : Wf c.call.block) (hN1 : N < 1000000)
    (hg : goodC 1 c.crew = true) (hkeys : ∀ k a, c.ans k = some a → k ∈ c.crew) (hm : ∀ m, c.maps (chunkC c) = some m → goodC 1 m.1 = true) (hway : c.way = 2 → c.call.kind ≠ 4 → (c.maps (chunkC c)).isSome = true)
    (hD : BL w da A.data) (hDn : da = none → dc = 0) (hN : IL w na A.nodes) (hNn : na = none → nc = 0) :
    Calls Try.prog 97 #[.pointer (some ⟨p, 0, none⟩), .pointer (some ⟨g, 0, none⟩), .agg #[.int .i64 A.err, .slice da A.data.length dc, .int .i64 A.ep, .slice na A.nodes.length nc]] w (EndP p r1 r2 (N + 1) g (countC c A) (countO c o A) w) := by
  have HC := Lib.hid h
  have HO := Lib.hid ho
  have HS := Lib.hid hs
  have HK := Lib.hid hk
  have HBK := Lib.hid hb
  have HD := Lib.hid hD
  have HDN := Lib.hid hDn
  have HN := Lib.hid hN
  have HNN := Lib.hid hNn
  have HN1 := Lib.hid hN1
  have HG := Lib.hid hg
  have HKEY := Lib.hid hkeys
  have HM := Lib.hid hm
  have HWAY := Lib.hid hway
  have HW := Lib.hid hw
  clear h ho hw hs hk hb hN1 hg hkeys hm hway hD hDn hN hNn
  go_enter Try.func97, Try.ntmps97
  go_upto_region 2 with (fail)
  obtain ⟨w1, hw1, hb1, hz1, hB, hA⟩ := two_blk w 68 72 [.pointer (some ⟨p, 0, none⟩)] [.int .i64 A.err, .slice da A.data.length dc, .int .i64 A.ep, .slice na A.nodes.length nc]
  rw [← hw1]
  clear hw1
  have HC1 := Lib.hid (HC.out.below hb1)
  have HO1 := Lib.hid (HO.out.below hb1)
  have HD1 := Lib.hid (HD.out.below hb1)
  have HN1' := Lib.hid (HN.out.below hb1)
  have HB := Lib.hid hB
  have HA := Lib.hid hA
  have HB1 := Lib.hid hb1
  have b0 := hB.cell (i := 0) rfl
  have a0 := hA.cell (i := 0) rfl
  have a1 := hA.cell (i := 1) rfl
  have a2 := hA.cell (i := 2) rfl
  have a3 := hA.cell (i := 3) rfl
  have c12 := HC1.out.c12
  obtain ⟨n, hn⟩ : ∃ n, n = cntA c.crew c.ans A := ⟨_, rfl⟩
  have HNQ := Lib.hid hn
  have B0 := Lib.hid b0
  have C12 := Lib.hid c12
  have hS : Below w1.heap.size w1 w1 := Below.refl _ _
  clear hB hA hb1 hz1 hn
  go_cut [7, 8] from 15 to 23 (fun v7 v8 wx => CntB w1 wx n (c.call.kind == 4) v7 v8)
  case first =>
    go_region_with
      ((go_at_call 113; go_loud ((with_reducible refine Calls.mono (alike_cnt p r1 r2 N w.heap.size c A da dc na nc _ ?_ HW.out ?_ HKEY.out HG.out ?_ ?_) ?_); (first | exact HC1.out | exact HC1.out.drw); (first | exact B0.out | simpa using B0.out); (first | exact HD1.out | exact HD1.out.below (Below.refl _ _).drew); (first | exact HN1'.out | exact HN1'.out.below (Below.refl _ _).drew); rintro e wd ⟨rfl, hb⟩; rw [← HNQ.out]; have hS : Below w1.heap.size w1 wd := (by first | exact hb | exact Below.step (Below.refl _ _).drew hb); have b0 := keepc hS B0.out; have c12 := keepc hS C12.out)))
    all_goals
      go_wp2_with fail
      go_meet
      exact ⟨rfl, rfl, hS⟩
  case rest =>
    obtain ⟨rfl, rfl, hS2⟩ := hcut
    have HC2 := Lib.hid (HC1.out.below hS2)
    have HO2 := Lib.hid (HO1.out.below hS2)
    have HD2 := Lib.hid (HD1.out.below hS2)
    have HN2 := Lib.hid (HN1'.out.below hS2)
    have HBb := Lib.hid (HB.out.below hS2)
    have HAa := Lib.hid (HA.out.below hS2)
    have HS2 := Lib.hid hS2
    obtain ⟨c19, c79, hMA, ca, cc, c20, hI, hIn⟩ := HC2.out.crewC HW.out
    have b0 := HBb.out.cell (i := 0) rfl
    have HI := Lib.hid hI
    have B0 := Lib.hid b0
    have C19 := Lib.hid c19
    have C20 := Lib.hid c20
    clear hS2 hS c12 a0 a1 a2 a3 hMA hI hIn c79
    go_upto_region 3 with (fail)
    go_cut [9, 10] from 24 to 37 (fun v9 v10 wx => TwoB wc wx n v9 v10)
    case first =>
      have hS : Below wc.heap.size wc wc := Below.refl _ _
      go_region_held3 (fun w' => w'.cell? ⟨w.heap.size, 0, none⟩ = some (.pointer (some ⟨p, 0, none⟩)) ∧ w'.cell? ⟨p, 19, none⟩ = some (.int .i64 1) ∧ w'.cell? ⟨p, 20, none⟩ = some (.slice ca c.crew.length cc))
        (first | go_keep | exact ⟨keepc hS B0.out, keepc hS C19.out, keepc hS C20.out⟩)
        ((first
          | (go_at_call 75; go_loud ((with_reducible refine Calls.mono (some_two (a := ca) (cap := cc) (l := c.crew) ?_ HG.out) ?_); (first | exact (HI.out.below hS).ints | exact (HI.out.below hS.drew).ints); rintro e wd ⟨rfl, hb⟩; have hS : Below wc.heap.size wc wd := (by first | exact Below.step hS hb | exact Below.step hS.drew hb)))
          | (go_at_call 73; go_loud ((with_reducible refine Calls.mono (most_three (a := ca) (cap := cc) (l := c.crew) ?_ HG.out) ?_); (first | exact (HI.out.below hS).ints | exact (HI.out.below hS.drew).ints); rintro e wd ⟨rfl, hb⟩; have hS : Below wc.heap.size wc wd := (by first | exact Below.step hS hb | exact Below.step hS.drew hb)))))
      all_goals
        go_wp2_with fail
        go_meet
        exact ⟨rfl, rfl, hS⟩
    case rest =>
      obtain ⟨rfl, rfl, hS3⟩ := hcut
      have HC3 := Lib.hid (HC2.out.below hS3)
      have HO3 := Lib.hid (HO2.out.below hS3)
      have HD3 := Lib.hid (HD2.out.below hS3)
      have HN3 := Lib.hid (HN2.out.below hS3)
      have HBb := Lib.hid (HBb.out.below hS3)
      have HAa := Lib.hid (HAa.out.below hS3)
      have HW3 := Lib.hid (Below.step (Below.step HB1.out HS2.out) hS3)
      have HI3 := Lib.hid (HI.out.below hS3)
      have b0 := HBb.out.cell (i := 0) rfl
      have a0 := HAa.out.cell (i := 0) rfl
      have a1 := HAa.out.cell (i := 1) rfl
      have a2 := HAa.out.cell (i := 2) rfl
      have a3 := HAa.out.cell (i := 3) rfl
      have c7 := HC3.out.c7
      clear hS3 c19 c20
      by_cases hw1 : c.way = 1
      · have hq : (c.way == 1) = true := by simpa using hw1
        by_cases h2 : 2 ≤ n
        · have HE : Hid (countC c A = toldC c A ∧ countO c o A = toldO c o A) := Lib.hid (by simp [countC, countO, countB, hw1, ← HNQ.out, h2])
          rw [show decide ((2 : Int) ≤ (n : Int)) = true by simpa using (by omega : (2 : Int) ≤ (n : Int))]
          clear h2 hw1
          go_wp2_with fail
          refine Calls.mono (told_is p r1 r2 N g c o A da dc na nc _ HC3.out HO3.out HS.out HK.out HBK.out HN1.out HD3.out HDN.out HN3.out HNN.out) ?_
          rintro e wd ⟨rfl, r2', q1, q2, q3, q4⟩
          have Q1 : Hid (r2' = r2 ∨ w.heap.size ≤ r2') := Lib.hid (q1.imp id (fun h => Nat.le_trans HW3.out.size h))
          have Q2 : Hid (CliAt wd p r1 r2' (N + 1) (countC c A)) := Lib.hid (by rw [HE.out.1]; exact q2)
          have Q3 : Hid (OutAt wd g (countO c o A)) := Lib.hid (by rw [HE.out.2]; exact q3)
          have Q4 := Lib.hid ((Only.of_below (R := [p, r1, g]) HW3.out).trans q4)
          clear q1 q2 q3 q4
          go_wp2
          go_end0
          exact ⟨rfl, r2', Q1.out, Q2.out, Q3.out, Q4.out⟩
        · have HE : Hid (countC c A = c ∧ countO c o A = o) := Lib.hid (by simp [countC, countO, countB, hw1, ← HNQ.out, h2])
          rw [show decide ((2 : Int) ≤ (n : Int)) = false by simpa using (by omega : ¬ (2 : Int) ≤ (n : Int))]
          clear h2 hw1
          go_wp2
          go_end0
          exact ⟨rfl, r2, .inl rfl, by rw [HE.out.1]; exact HC3.out.mono (by omega), by rw [HE.out.2]; exact HO3.out, Only.of_below HW3.out⟩
      · have hq : (c.way == 1) = false := by simpa using hw1
        by_cases hx : 2 ≤ n ∧ c.call.kind ≠ 4 ∧ A.err = 171
        · have HE : Hid (countC c A = onC (forgetC c) ∧ countO c o A = againO (onC (forgetC c)) o) := Lib.hid (by simp [countC, countO, countB, hw1, ← HNQ.out, hx.1, hx.2.1, hx.2.2])
          have hq4 : (c.call.kind == 4) = false := by simpa using hx.2.1
          have hqe : (A.err == 171) = true := by simpa using hx.2.2
          rw [show decide ((2 : Int) ≤ (n : Int)) = true by simpa using (by have := hx.1; omega : (2 : Int) ≤ (n : Int)), hq4]
          clear hx hw1
          go_upto_region 8 with (fail)
          have c4 := HC3.out.c4
          obtain ⟨w4, hr4, hM4, hg4, hk4⟩ := (HC3.out.drw.mapM).del HK.out 0
          go_region_with
            ((go_at_call 116; go_loud ((with_reducible refine Calls.mono (chunk_is p r1 r2 N c _ ?_) ?_); (first | exact HC3.out | exact HC3.out.drw); rintro e1 wd ⟨rfl, rfl⟩)))
          all_goals
            have hC4 : CliAt w4 p r1 r2 (N + 1) (forgetC c) := (HC3.out.drw.setMaps hM4 (Nat.le_refl _) hg4 hk4).mono (by omega)
            have hO4 : OutAt w4 g o := HO3.out.drw.same (hg4.block _ HO3.out.lt (by simpa using ((HC3.out.ne HO3.out).2.1).symm)) hk4
            have b0 : w4.cell? ⟨w.heap.size, 0, none⟩ = some (.pointer (some ⟨p, 0, none⟩)) := (World.cell?_of_block (hg4.block w.heap.size HBb.out.lt (by have := HC.out.lt.2.1; simp; omega))).trans b0
            have HC4 := Lib.hid hC4
            have HO4 := Lib.hid hO4
            have HW4 : Hid (Only [p, r1, g] w w4) := Lib.hid (((Only.of_below HW3.out).drw).trans (Only.of_grown hg4 (in32 p r1 g)))
            clear hr4 hM4 hg4 hk4 hC4 hO4 a0 a1 a2 a3 c4 c7
            go_wp2_with fail
            refine Calls.mono (on_is p r1 r2 (N + 1) g (forgetC c) o _ HC4.out HO4.out HS.out HK.out (fun m hm => by
              have : (forgetC c).maps (chunkC (forgetC c)) = none := by unfold forgetC upF; exact if_pos rfl
              rw [this] at hm
              cases hm)) ?_
            rintro e wd ⟨rfl, r2', q1, q2, q3, q4⟩
            have Q1 : Hid (w.heap.size ≤ r2') := Lib.hid (Nat.le_trans HW4.out.size q1)
            have Q2 : Hid (CliAt wd p r1 r2' (N + 1) (countC c A)) := Lib.hid (by rw [HE.out.1]; exact q2)
            have Q3 : Hid (OutAt wd g (countO c o A)) := Lib.hid (by rw [HE.out.2]; exact q3)
            have Q4 := Lib.hid (HW4.out.trans (q4.mono (R' := [p, r1, g]) (by simp)))
            clear q1 q2 q3 q4
            go_wp2
            go_end0
            exact ⟨rfl, r2', .inr Q1.out, Q2.out, Q3.out, Q4.out⟩
        · by_cases hy : 3 ≤ n ∨ 2 ≤ n ∧ c.call.kind = 4
          · have HE : Hid (countC c A = doneC c ∧ countO c o A = doneO c o A) := Lib.hid (by simp [countC, countO, countB, hw1, ← HNQ.out, hx, hy])
            have h2 : 2 ≤ n := by omega
            have hcase : (c.call.kind = 4) ∨ (c.call.kind ≠ 4 ∧ 3 ≤ n ∧ A.err ≠ 171) := by
              by_cases h4 : c.call.kind = 4
              · exact .inl h4
              · exact .inr ⟨h4, by omega, fun h => hx ⟨h2, h4, h⟩⟩
            rw [show decide ((2 : Int) ≤ (n : Int)) = true by simpa using (by omega : (2 : Int) ≤ (n : Int))]
            have HW1 := Lib.hid hw1
            clear hx hy hw1 h2
            rcases hcase with h4 | ⟨h4, h3, he⟩
            · rw [show (c.call.kind == 4) = true by simpa using h4]
              generalize decide ((3 : Int) ≤ (n : Int)) = q3
              clear h4
              cases q3
              all_goals
                go_wp2_with fail
                refine Calls.mono (done_is p r1 r2 N g c o A da dc na nc _ HC3.out HO3.out HBK.out HD3.out HDN.out HN3.out HNN.out) ?_
                rintro e wd ⟨rfl, q2, q3, q4⟩
                have Q2 : Hid (CliAt wd p r1 r2 (N + 1) (countC c A)) := Lib.hid (by rw [HE.out.1]; exact q2.mono (by omega))
                have Q3 : Hid (OutAt wd g (countO c o A)) := Lib.hid (by rw [HE.out.2]; exact q3)
                have Q4 := Lib.hid ((Only.of_below (R := [p, r1, g]) HW3.out).trans q4)
                clear q2 q3 q4
                go_wp2
                go_end0
                exact ⟨rfl, r2, .inl rfl, Q2.out, Q3.out, Q4.out⟩
            · rw [show (c.call.kind == 4) = false by simpa using h4, show decide ((3 : Int) ≤ (n : Int)) = true by simpa using (by omega : (3 : Int) ≤ (n : Int))]
              have hqe : (A.err == 171) = false := by simpa using he
              clear h4 h3 he
              go_wp2_with fail
              refine Calls.mono (done_is p r1 r2 N g c o A da dc na nc _ HC3.out HO3.out HBK.out HD3.out HDN.out HN3.out HNN.out) ?_
              rintro e wd ⟨rfl, q2, q3, q4⟩
              have Q2 : Hid (CliAt wd p r1 r2 (N + 1) (countC c A)) := Lib.hid (by rw [HE.out.1]; exact q2.mono (by omega))
              have Q3 : Hid (OutAt wd g (countO c o A)) := Lib.hid (by rw [HE.out.2]; exact q3)
              have Q4 := Lib.hid ((Only.of_below (R := [p, r1, g]) HW3.out).trans q4)
              clear q2 q3 q4
              go_wp2
              go_end0
              exact ⟨rfl, r2, .inl rfl, Q2.out, Q3.out, Q4.out⟩
          · have hcase : n < 2 ∨ (2 ≤ n ∧ c.call.kind ≠ 4 ∧ A.err ≠ 171) := by
              by_cases h2 : 2 ≤ n
              · have h4 : c.call.kind ≠ 4 := fun h => hy (.inr ⟨h2, h⟩)
                exact .inr ⟨h2, h4, fun h => hx ⟨h2, h4, h⟩⟩
              · exact .inl (by omega)
            have h3 : ¬ 3 ≤ n := fun h => hy (.inl h)
            have HE : Hid (countB c A = if c.way = 2 ∧ bestA c.crew c.ans + c.crew.length < 3 + lenA c.crew c.ans then 4 else 0) := Lib.hid (by
              unfold countB
              rw [← HNQ.out, if_neg hw1, if_neg hx, if_neg hy])
            rw [show decide ((3 : Int) ≤ (n : Int)) = false by simpa using (by omega : ¬ (3 : Int) ≤ (n : Int))]
            clear hx hy h3
            rcases hcase with h2 | ⟨h2, h4, he⟩
            case' inl =>
              rw [show decide ((2 : Int) ≤ (n : Int)) = false by simpa using (by omega : ¬ (2 : Int) ≤ (n : Int))]
              clear h2
            case' inr =>
              rw [show decide ((2 : Int) ≤ (n : Int)) = true by simpa using (by omega : (2 : Int) ≤ (n : Int)), show (c.call.kind == 4) = false by simpa using h4]
              have hqe : (A.err == 171) = false := by simpa using he
              clear h2 h4 he
            all_goals
              go_upto_region 13 with (fail)
              obtain ⟨_, c79, ⟨F, hV, hF⟩, _⟩ := HC3.out.crewC HW.out
              obtain ⟨D, hown, hmap, hat0⟩ := hV
              have hrl : r2 < wc.heap.size := hown.lt
              have HM0 := Lib.hid hmap
              have HAT := Lib.hid hat0
              have HF := Lib.hid hF
              have HOWN := Lib.hid hown
              clear hmap hat0 hF a0 a1 a2 a3
              go_wp2_with (first | (at_range; refine wpList_range_own _ rfl _ 111 rfl 3 72 int_key Try.underlying111 RV r2 N D rfl hown ?_; intro w4 hrg0 hg0 hs0))
              try go_frame
              have hbl4 : Below wc.heap.size wc w4 := ⟨hg0.os, hg0.tape, hg0.output, by omega, fun i hi => hg0.block i hi (by simp)⟩
              have HS4 : Hid (BestR wc w4 r2 wc.heap.size N D 0 c.crew c.ans) := Lib.hid ⟨_, _, hrg0, by
                refine (Nat.le_zero.1 ?_).symm
                unfold bestS
                rw [best_same (f := fun _ => 0) (fun k hkc => by
                  split
                  · rename_i hsn
                    have hwf : Wf k := by have := good_mem HG.out k hkc; exact Wf.of (by omega) (by omega)
                    unfold oneA
                    cases hck : c.ans k with
                    | none => rfl
                    | some A0 =>
                      exfalso
                      have := HF.out k hwf
                      rw [hck] at this
                      obtain ⟨x, hx, _⟩ := this
                      have e := HAT.out _ _ (Go.Maps.keyOf_int_mk Try.underlying3 hwf)
                      rw [hx] at e
                      simp only [seenB, Bool.not_eq_true'] at hsn
                      have := Maps.atKey_of_not_has hsn (DataW.held none)
                      rw [this] at e
                      cases e
                  · rfl)]
                exact best_le (fun _ => Nat.le_refl _) _, hbl4⟩
              have HND : Hid c.crew.Nodup := Lib.hid ((good_sorted HG.out).imp (fun h e => by omega))
              have hl7 : c.crew.length ≤ 7 := by have := goodC_len HG.out; omega
              clear hrg0 hg0 hs0 hbl4 hown
              go_loopw [11] (fun i wr => ∃ b : Nat, i = .int .i64 b ∧ b ≤ 7 ∧ Hid (BestR wc wr r2 wc.heap.size N D b c.crew c.ans)) (fun _ wr => wr.rangeLeft r2 wc.heap.size)
              case atStart => exact ⟨0, rfl, by omega, HS4⟩
              case round =>
                obtain ⟨b, rfl, hb7, HR⟩ := hrel
                obtain ⟨left, cnt, hrg, hbq, hbr⟩ := HR.out
                have HBQ := Lib.hid hbq
                have HBR := Lib.hid hbr
                have HRG := Lib.hid hrg
                clear hbq hbr hrg
                go_wp2_with (first | (at_next; refine wpList_next_ranges _ rfl _ rfl 3 int_key RV (Value.int .i64) (fun v : Value => v) (fun key kl h => by obtain ⟨x, hx, _⟩ := Maps.keyOf_int_inv Try.underlying3 h; exact ⟨x, hx⟩) (fun v y h => ⟨v, rfl⟩) r2 wc.heap.size N D left cnt rfl HRG.out ?_ ?_))
                · intro hc0 hl0
                  have hfin : b = bestA c.crew c.ans := by rw [HBQ.out, bestS_all hl0]
                  have HFIN := Lib.hid hfin
                  clear hc0 hl0 hfin
                  have HCr := Lib.hid (HC3.out.below HBR.out)
                  have HOr := Lib.hid (HO3.out.below HBR.out)
                  have HWr := Lib.hid (Below.step HW3.out HBR.out)
                  have b0 := keepc HBR.out (HBb.out.cell (i := 0) rfl)
                  have c7 := HCr.out.c7
                  by_cases hl : c.way = 2
                  · have hq2 : (c.way == 2) = true := by simpa using hl
                    have HL2 := Lib.hid hl
                    obtain ⟨c19, c79, _, ca', cc', c20, hI', hIn'⟩ := HCr.out.crewC HW.out
                    have HI' := Lib.hid hI'
                    have hsz := size_len HOWN.out HAT.out HF.out HKEY.out HG.out
                    have hlenr := fun (w' : World) (hw' : Below wr.heap.size wr w') => (show w'.ownsMap Try.prog 3 RV r2 N D from ⟨_, _, (hw'.block r2 (Nat.lt_of_lt_of_le hrl HBR.out.size)).trans ((HBR.out.block r2 hrl).trans HOWN.out.choose_spec.choose_spec.1), HOWN.out.choose_spec.choose_spec.2⟩).len Try.underlying111 3
                    rw [hsz] at hlenr
                    have hlA := lenA_le c.crew c.ans
                    obtain ⟨lA, hlAe⟩ : ∃ x, x = lenA c.crew c.ans := ⟨_, rfl⟩
                    rw [← hlAe] at hlenr hlA
                    have HLAE := Lib.hid hlAe
                    have hL0 := hlenr wr (Below.refl _ _)
                    have HLEN := Lib.hid hlenr
                    have B0 := Lib.hid b0
                    have C7 := Lib.hid c7
                    have C19 := Lib.hid c19
                    have C20 := Lib.hid c20
                    have C79 := Lib.hid c79
                    have hs1 : IntKind.i64.wrap ((b : Int) + (c.crew.length : Int)) = (b : Int) + (c.crew.length : Int) := IntWalk.i64_in _ (by omega)
                    have hs2 : IntKind.i64.wrap ((b : Int) + (c.crew.length : Int) - (lA : Int)) = (b : Int) + (c.crew.length : Int) - (lA : Int) := IntWalk.i64_in _ (by omega)
                    have hS : Below wr.heap.size wr wr := Below.refl _ _
                    clear hl hsz hlenr hlAe hI' hIn'
                    go_upto_region 17 with (fail)
                    go_region_held3 (fun w' => w'.cell? ⟨w.heap.size, 0, none⟩ = some (.pointer (some ⟨p, 0, none⟩)) ∧ w'.cell? ⟨p, 7, none⟩ = some (.int .i64 c.way) ∧ w'.cell? ⟨p, 19, none⟩ = some (.int .i64 1) ∧ w'.cell? ⟨p, 20, none⟩ = some (.slice ca' c.crew.length cc') ∧ w'.cell? ⟨p, 79, none⟩ = some (.map (some r2)) ∧ (Builtin.len_ #[111] 3 #[.map (some r2)]).run Try.prog w' = .ok (.int .i64 lA) w')
                      (first | exact ⟨keepc hS B0.out, keepc hS C7.out, keepc hS C19.out, keepc hS C20.out, keepc hS C79.out, HLEN.out _ hS⟩ | exact ⟨keepc hS.drew B0.out, keepc hS.drew C7.out, keepc hS.drew C19.out, keepc hS.drew C20.out, keepc hS.drew C79.out, HLEN.out _ hS.drew⟩ | go_loud (exact ⟨keepc hS.drew B0.out, keepc hS.drew C7.out, keepc hS.drew C19.out, keepc hS.drew C20.out, keepc hS.drew C79.out, HLEN.out _ hS.drew⟩) | go_keep)
                      ((go_at_call 73; go_loud ((with_reducible refine Calls.mono (most_three (a := ca') (cap := cc') (l := c.crew) ?_ HG.out) ?_); (first | exact (HI'.out.below hS).ints | exact (HI'.out.below hS.drew).ints); rintro e wd ⟨rfl, hb⟩; have hS : Below wr.heap.size wr wd := (by first | exact Below.step hS hb | exact Below.step hS.drew hb))))
                    all_goals
                      have HSd := Lib.hid (Below.step HWr.out hS)
                      have HSS := Lib.hid hS
                      clear hS
                      by_cases hlt : (b : Int) + (c.crew.length : Int) - (lA : Int) < 3
                      · have HE4 : Hid (countC c A = orderC c (placeC c) ∧ countO c o A = againO (orderC c (placeC c)) o) := Lib.hid (by
                          have e := HE.out
                          rw [if_pos ⟨HL2.out, by rw [← HFIN.out, ← HLAE.out]; omega⟩] at e
                          simp [countC, countO, e])
                        rw [show decide ((b : Int) + (c.crew.length : Int) - (lA : Int) < 3) = true by simpa using hlt]
                        clear hlt
                        go_wp2_with fail
                        refine Calls.mono (order_is p r1 r2 N g c o _ (HCr.out.below HSS.out) (HOr.out.below HSS.out) HS.out HK.out (HWAY.out HL2.out) HM.out) ?_
                        rintro e we ⟨rfl, r2', q1, q2, q3, q4⟩
                        have hge : w.heap.size ≤ r2' := Nat.le_trans HSd.out.size q1
                        have Q1 := Lib.hid hge
                        have Q2 : Hid (CliAt we p r1 r2' (N + 1) (countC c A)) := Lib.hid (by rw [HE4.out.1]; exact q2.mono (by omega))
                        have Q3 : Hid (OutAt we g (countO c o A)) := Lib.hid (by rw [HE4.out.2]; exact q3)
                        have Q4 : Hid (Only [p, r1, g] w we) := Lib.hid ((Only.of_below HSd.out).trans (q4.mono (by simp)))
                        clear q1 q2 q3 q4 hge
                        go_wp2
                        go_end0
                        exact ⟨rfl, r2', .inr Q1.out, Q2.out, Q3.out, Q4.out⟩
                      · have HE4 : Hid (countC c A = c ∧ countO c o A = o) := Lib.hid (by
                          have e := HE.out
                          rw [if_neg (fun h => hlt (by have := h.2; rw [← HFIN.out, ← HLAE.out] at this; omega))] at e
                          simp [countC, countO, e])
                        rw [show decide ((b : Int) + (c.crew.length : Int) - (lA : Int) < 3) = false by simpa using hlt]
                        clear hlt
                        go_wp2
                        go_end0
                        exact ⟨rfl, r2, .inl rfl, by rw [HE4.out.1]; exact (HCr.out.below HSS.out).mono (by omega), by rw [HE4.out.2]; exact HOr.out.below HSS.out, Only.of_below HSd.out⟩
                  · have hq2 : (c.way == 2) = false := by simpa using hl
                    have HE2 : Hid (countC c A = c ∧ countO c o A = o) := Lib.hid (by
                      have e := HE.out
                      rw [if_neg (fun h => hl h.1)] at e
                      simp [countC, countO, e])
                    clear hl
                    go_upto_region 17 with (fail)
                    go_quiet (fail)
                    go_wp2
                    go_end0
                    exact ⟨rfl, r2, .inl rfl, by rw [HE2.out.1]; exact (HCr.out.below (below_drewN (Below.refl _ _) _)).mono (by omega), by rw [HE2.out.2]; exact HOr.out.below (below_drewN (Below.refl _ _) _), Only.of_below (below_drewN HWr.out _)⟩
                · intro x v kl y1 y2 w5 cnt5 hkey hlk hv hat hrg3 hlt hg3 hs3 hen
                  obtain ⟨x', ex, rfl, hwx⟩ := Maps.keyOf_int_inv Try.underlying3 hkey
                  cases ex
                  simp only [RV, Option.some.injEq, Prod.mk.injEq] at hv
                  obtain ⟨rfl, rfl⟩ := hv
                  have hFx : F (.int .i64 x) = some v := by
                    have e1 := HAT.out _ _ hkey
                    rw [hat] at e1
                    injection e1 with e1
                    exact e1.symm
                  have hAx := HF.out x hwx
                  rw [hFx] at hAx
                  obtain ⟨A', hA', hIn⟩ : ∃ A', c.ans x = some A' ∧ AnIn wc v A' := by
                    cases hc : c.ans x with
                    | none => rw [hc] at hAx; cases hAx
                    | some A' => rw [hc] at hAx; obtain ⟨z, hz, hzi⟩ := hAx; cases hz; exact ⟨A', rfl, hzi⟩
                  obtain ⟨da', dc', na', nc', rfl, ⟨hX, _⟩, hY, _⟩ := hIn
                  have hbw : Below wc.heap.size wc w5 := HBR.out.grown hg3 HBR.out.size (by intro k hk; cases hk; exact Nat.le_refl _)
                  have b5 : w5.cell? ⟨w.heap.size, 0, none⟩ = some (.pointer (some ⟨p, 0, none⟩)) := keepc hbw (HBb.out.cell (i := 0) rfl)
                  have B5 := Lib.hid b5
                  have HC5 := Lib.hid (HC3.out.below hbw)
                  have HX5 := Lib.hid (hX.below hbw)
                  have HY5 := Lib.hid (hY.below hbw)
                  have HXC := Lib.hid (HKEY.out x A' hA')
                  have hone : oneA c.crew c.ans x = cntA c.crew c.ans A' := by unfold oneA; rw [hA']
                  have HST := Lib.hid (bestS_step hlk c.ans HND.out HXC.out)
                  have HONE := Lib.hid hone
                  have HRG5 := Lib.hid hrg3
                  have HLT := Lib.hid hlt
                  have HB5 := Lib.hid hbw
                  have hc7' : cntA c.crew c.ans A' ≤ 7 := Nat.le_trans (List.length_filter_le _ _) hl7
                  clear hkey hlk hat hrg3 hlt hg3 hs3 hFx hAx hA' hX hY hbw b5 hone
                  go_wp2_with fail
                  refine Calls.mono (alike_cnt p r1 r2 N w.heap.size c A' da' dc' na' nc' _ (HC5.out.below (Below.new _ _)) HW.out (keepc (Below.new _ _) B5.out) HKEY.out HG.out (HX5.out.below (Below.new _ _)) (HY5.out.below (Below.new _ _))) ?_
                  rintro e w6 ⟨rfl, hb6⟩
                  have hb56 := Below.step (Below.new _ _) hb6
                  have hkk : w6.ranges Try.prog 3 RV r2 wc.heap.size N D (fun z => left z && !z.sameKey (.int .i64 x)) cnt5 := HRG5.out.kept (grown_of_below hb56 none) (by simp) (by simp)
                  have HKK := Lib.hid hkk
                  obtain ⟨m, hm⟩ : ∃ m, m = cntA c.crew c.ans A' := ⟨_, rfl⟩
                  rw [← hm]
                  rw [← hm] at hc7'
                  have HR6 : Hid (BestR wc w6 r2 wc.heap.size N D (max b m) c.crew c.ans) := Lib.hid ⟨_, _, hkk, by rw [HST.out, HONE.out, ← HBQ.out, hm], Below.step HB5.out hb56⟩
                  clear hb6 hb56 hkk hm hen
                  go_wp2
                  go_roundw
                  case rel => exact ⟨max b m, by first | go_num | exact val_int (by omega), by omega, HR6⟩
                  case measure => rw [HKK.out.left_eq, HRG.out.left_eq]; exact HLT.out
end Go.Proofs.Ytldcpnabgpjgiaa.Walks
