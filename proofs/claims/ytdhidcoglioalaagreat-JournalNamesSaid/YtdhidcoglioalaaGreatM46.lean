/-
  What happens to both plates: the walk, its second half.
  Calls of both: Clear.
-/
import Derived.Test.YtdhidcoglioalaaGreatM45
namespace Go.Proofs.YtdhidcoglioalaaGreat.Walks
open Go.RowKit Plain Jn
set_option linter.unusedVariables false
section
variable {sp : Sp} {w0 w w' : World} {x m g n : Nat} {a : Array Value} {q : PLoc} {r : RLoc} {j : JLoc} {o : Option (JLoc × Nat)} {J J' J2 : Jn} {P P' P2 : Pl}
set_option maxRecDepth 20000 in
set_option maxHeartbeats 8000000 in
theorem outside_b (h : BT sp w0 w x q r o J J P P) (hdw : DW P) (s : Nat) (S : Prop) (hS : S → Sure P) (hJ : o ≠ none → JBd J s) {kd A bit : Int} {la ka ba : Option Addr} {ln lc kc bc : Nat} {K : List Bool} {B : List Byte} (hO : Old w0 ka kc K ba bc B) (hA : -9223372036854775808 ≤ A ∧ A ≤ 9223372036854775807)
    (h4 : S → kd % 9 ≠ 4) (h8 : kd % 9 = 8 → S) (h6 : 6 ≤ kd % 9) {kl bl : Nat} (hkl : K.length = kl) (hbl : B.length = bl) :
    Calls Tryz.prog 59 #[xv x, .agg #[.int .i64 kd, .int .i64 A, .int .i64 bit, .slice la ln lc, .slice ka kl kc, .slice ba bl bc]] w fun e w' => e = .returned (.bool true) ∧ All sp w0 w' x s S P.n := by
  subst hkl
  obtain ⟨n, hn⟩ : ∃ n, n = P.n := ⟨_, rfl⟩
  rw [← hn]
  obtain ⟨kl, hkl⟩ : ∃ kl, kl = K.length := ⟨_, rfl⟩
  have HN := Lib.hid hn
  have HO := Lib.hid hO
  have HS := Lib.hid hS
  have HJ := Lib.hid hJ
  have H := Lib.hid h
  have HDw := Lib.hid hdw
  have HBr := Lib.hid (bring_any kd 9)
  obtain ⟨kk, hkk⟩ : ∃ kk : Nat, kd % 9 = kk := ⟨(kd % 9).toNat, by omega⟩
  have hk9 : kk < 9 := by omega
  have hk6 : 6 ≤ kk := by omega
  have HK := Lib.hid hkk
  have H4 := Lib.hid h4
  have H8 := Lib.hid h8
  have HA := Lib.hid hA
  have HKl := Lib.hid hkl
  have HBl := Lib.hid hbl
  have hbl4 : bl ≤ 64 := by rw [← hbl]; exact hO.bl
  have hkl4 : kl ≤ 140737488355328 := by rw [hkl]; exact hO.k.1
  rw [← hkl]
  clear hn hO hS hJ h hdw hkk h4 h8 hA hkl hbl h6
  go_enter Tryz.func59, Tryz.ntmps59
  go_upto_region 1 with (fail)
  obtain ⟨a, ha⟩ : ∃ a, a = #[Value.int .i64 kd, .int .i64 A, .int .i64 bit, .slice la ln lc, .slice ka kl kc, .slice ba bl bc] := ⟨_, rfl⟩
  obtain ⟨wa, hwa⟩ : ∃ x, x = w.alloc (.cells #[.int .i64 kd, .int .i64 A, .int .i64 bit, .slice la ln lc, .slice ka kl kc, .slice ba bl bc] 43) := ⟨_, rfl⟩
  have hba : Below w.heap.size w wa := by rw [hwa]; exact Below.new _ _
  obtain ⟨g, hg⟩ : ∃ g, g = w.heap.size := ⟨_, rfl⟩
  have hB0 : BD sp w0 wa x q r o J P P g a := ⟨H.out.below hba, fun i v k => by rw [hg, hwa, cell_new, ← ha]; exact k, fun hm => by have := H.out.bn.mix.pl.lt _ hm; omega, fun hm => by have := H.out.bn.mix.rf.x.lt _ hm; omega⟩
  have t0 : wa.cell? ⟨g, 0, none⟩ = some (.int .i64 kd) := hB0.d 0 _ (by rw [ha]; rfl)
  have HCs : Hid (∀ {P P' : Pl} {w' : World}, BD sp w0 w' x q r o J P P' g a → w'.cell? ⟨g, 1, none⟩ = some (.int .i64 A) ∧ w'.cell? ⟨g, 2, none⟩ = some (.int .i64 bit) ∧ w'.cell? ⟨g, 4, none⟩ = some (.slice ka kl kc) ∧ w'.cell? ⟨g, 5, none⟩ = some (.slice ba bl bc)) := Lib.hid fun h => ⟨h.d 1 _ (by rw [ha]; rfl), h.d 2 _ (by rw [ha]; rfl), h.d 4 _ (by rw [ha]; rfl), h.d 5 _ (by rw [ha]; rfl)⟩
  have HB := Lib.hid hB0
  rw [← hg, ← hwa]
  clear hwa hba hg ha hB0
  go_wp2_with fail
  refine Calls.mono (HBr.out wa (by decide) (by decide)) ?_
  rintro e wx ⟨rfl, rfl⟩
  rw [HK.out]
  obtain ⟨t1, t2, t4, t5⟩ := HCs.out HB.out
  have s0 := HB.out.c0
  have s2 := HB.out.c2
  rcases (by omega : kk = 6 ∨ kk = 7 ∨ kk = 8) with rfl | rfl | rfl
  · skip
    have HOp : Hid (∀ w', BD sp w0 w' x q r o J (P.turn A bit) (P.turn A bit) g a → Calls Tryz.prog 83 #[xv x] w' fun e w'' => e = .returned (.bool true) ∧ All sp w0 w'' x s S n) := Lib.hid fun w' h => by
      have := open_is h.t.bn (dw_turn HDw.out A bit) s S (fun k => turn_sure (HS.out k).1 A bit)
      rw [turn_n, ← HN.out] at this
      exact this
    go_upto_region 10 with (fail)
    have HC : Hid (∀ w', Below wa.heap.size wa w' → Calls Tryz.prog 76 #[pv q, .int .i64 A, .int .i64 bit] w' fun e w'' => (∃ u, e = .returned u) ∧ BD sp w0 w'' x q r o J (P.turn A bit) P g a) := Lib.hid fun w' hb => by exact d_turn (HB.out.below hb) A bit
    have hS : Below wa.heap.size wa wa := Below.refl _ _
    go_cut [] from 53 to 61 (fun wx => Hid (BD sp w0 wx x q r o J (P.turn A bit) P g a))
    case first =>
      go_region_with ((go_at_call 76; ((with_reducible refine Calls.mono (HC.out _ ?_) ?_); (first | with_reducible exact hS | with_reducible exact Below.drew hS | with_reducible exact Below.step hS (Below.new _ _) | with_reducible exact Below.step (Below.drew hS) (Below.new _ _) | with_reducible exact Below.drew (Below.step hS (Below.new _ _))); rintro e w' ⟨⟨u, rfl⟩, hb⟩; have HB1 := Lib.hid hb; clear hb)))
      all_goals
        go_wp2
        go_meet
        exact HB1
    case rest =>
      have HB1 := hcut
      clear hcut HC hS HB t1 t2 t4 t5 s0 s2
      obtain ⟨t1, t2, t4, t5⟩ := HCs.out HB1.out
      have s0 := HB1.out.c0
      have s2 := HB1.out.c2
      have HC : Hid (∀ w', Below wc.heap.size wc w' → Calls Tryz.prog 77 #[rv r, .int .i64 A, .int .i64 bit] w' fun e w'' => (∃ u, e = .returned u) ∧ BD sp w0 w'' x q r o J (P.turn A bit) (P.turn A bit) g a) := Lib.hid fun w' hb => by exact e_turn (HB1.out.below hb) A bit
      have hS : Below wc.heap.size wc wc := Below.refl _ _
      go_wp2_with fail
      go_region_with ((go_at_call 77; ((with_reducible refine Calls.mono (HC.out _ ?_) ?_); (first | with_reducible exact hS | with_reducible exact Below.drew hS | with_reducible exact Below.step hS (Below.new _ _) | with_reducible exact Below.step (Below.drew hS) (Below.new _ _) | with_reducible exact Below.drew (Below.step hS (Below.new _ _))); rintro e w' ⟨⟨u, rfl⟩, hb⟩; have HB2 := Lib.hid hb; clear hb)))
      all_goals
        go_wp2_with fail
        refine Calls.mono (HOp.out _ HB2.out) ?_
        rintro e w3 ⟨rfl, hall⟩
        have HAl := Lib.hid hall
        clear hall
        go_wp2
        go_ret
        exact ⟨rfl, HAl.out⟩
  · skip
    have hmk := make64
    obtain ⟨w1, hw1⟩ : ∃ w1, w1 = wa.alloc (.cells (secC zeroS) 5) := ⟨_, rfl⟩
    have hb1 : Below wa.heap.size wa w1 := by rw [hw1]; exact Below.new _ _
    obtain ⟨gb, hgb⟩ : ∃ gb, gb = wa.heap.size := ⟨_, rfl⟩
    have hg1 : w1.heap[gb]? = some (.cells (secC zeroS) 5 (0, 0)) := by rw [hw1, hgb]; exact heap_alloc_new _ _
    have HB1 := Lib.hid (HB.out.below hb1)
    obtain ⟨w2, l, hcp, ho, hl, hl64⟩ := copy_any hg1 ((HO.out.b.below HB.out.t.bn.mix.be).below hb1) HO.out.bn HBl.out hbl4
    have hbl2 : Below wa.heap.size wa w2 := Only.below hb1 ho (fun y hy => by simp at hy; omega) (Nat.le_refl _)
    have HB2 := Lib.hid (HB.out.below hbl2)
    have HAp : Hid (Apart w2 q r gb l) := Lib.hid ⟨hl, hl64, fun hm => by have := HB.out.t.bn.mix.pl.lt _ hm; omega, fun hm => by have := HB.out.t.bn.mix.rf.x.lt _ hm; omega⟩
    have t5 := (HCs.out HB1.out).2.2.2
    clear ho hl hl64 hbl2 hg1 hb1 t1 t2 t4 s0 s2
    go_upto_region 14 with (fail)
    rw [← hw1, ← hgb]
    clear hw1 hmk hgb
    go_upto_region 15 with (fail)
    clear t5 hcp HB1
    obtain ⟨t1, t2, t4, t5⟩ := HCs.out HB2.out
    have s0 := HB2.out.c0
    have s2 := HB2.out.c2
    have HOp : Hid (∀ w', BD sp w0 w' x q r o J (P.write A l) (P.write A l) g a → Calls Tryz.prog 83 #[xv x] w' fun e w'' => e = .returned (.bool true) ∧ All sp w0 w'' x s S n) := Lib.hid fun w' h => by
      have := open_is h.t.bn (dw_write HDw.out A l) s S (fun k => (sure_write (HS.out k) A l).1)
      rw [write_pn, ← HN.out] at this
      exact this
    have HC : Hid (∀ w', Below w2.heap.size w2 w' → Calls Tryz.prog 29 #[pv q, .int .i64 A, .slice (some ⟨gb, 0, none⟩) 64 64] w' fun e w'' => (∃ u, e = .returned u) ∧ BD sp w0 w'' x q r o J (P.write A l) P g a ∧ Apart w'' q r gb l) := Lib.hid fun w' hb => d_write (HB2.out.below hb) A (HAp.out.below hb)
    have hS : Below w2.heap.size w2 w2 := Below.refl _ _
    go_cut [] from 78 to 85 (fun wx => Hid (BD sp w0 wx x q r o J (P.write A l) P g a ∧ Apart wx q r gb l))
    case first =>
      go_region_with ((go_at_call 29; ((with_reducible refine Calls.mono (HC.out _ ?_) ?_); (first | with_reducible exact hS | with_reducible exact Below.drew hS | with_reducible exact Below.step hS (Below.new _ _) | with_reducible exact Below.step (Below.drew hS) (Below.new _ _) | with_reducible exact Below.drew (Below.step hS (Below.new _ _))); rintro e w' ⟨⟨u, rfl⟩, hb⟩; have HB1 := Lib.hid hb; clear hb)))
      all_goals
        go_wp2
        go_meet
        exact HB1
    case rest =>
      have HB1 := hcut
      clear hcut HC hS HB HB2 HAp t1 t2 t4 t5 s0 s2
      obtain ⟨t1, t2, t4, t5⟩ := HCs.out HB1.out.1
      have s0 := HB1.out.1.c0
      have s2 := HB1.out.1.c2
      have HC : Hid (∀ w', Below wc.heap.size wc w' → Calls Tryz.prog 78 #[rv r, .int .i64 A, .slice (some ⟨gb, 0, none⟩) 64 64] w' fun e w'' => (∃ u, e = .returned u) ∧ BD sp w0 w'' x q r o J (P.write A l) (P.write A l) g a) := Lib.hid fun w' hb => e_write (HB1.out.1.below hb) A (HB1.out.2.below hb)
      have hS : Below wc.heap.size wc wc := Below.refl _ _
      go_wp2_with fail
      go_region_with ((go_at_call 78; ((with_reducible refine Calls.mono (HC.out _ ?_) ?_); (first | with_reducible exact hS | with_reducible exact Below.drew hS | with_reducible exact Below.step hS (Below.new _ _) | with_reducible exact Below.step (Below.drew hS) (Below.new _ _) | with_reducible exact Below.drew (Below.step hS (Below.new _ _))); rintro e w' ⟨⟨u, rfl⟩, hb⟩; have HB2 := Lib.hid hb; clear hb)))
      all_goals
        go_wp2_with fail
        refine Calls.mono (HOp.out _ HB2.out) ?_
        rintro e w3 ⟨rfl, hall⟩
        have HAl := Lib.hid hall
        clear hall
        go_wp2
        go_ret
        exact ⟨rfl, HAl.out⟩
  · skip
    have hs := HS.out (H8.out HK.out)
    have HSu := Lib.hid hs
    have HD := Lib.hid (rf_dead wa r P HB.out.t.bn.mix.rf)
    rw [hs.2] at HD
    obtain ⟨hs1, hs2, hs3⟩ := sure_format hs A
    have HF : Hid (Sure (formatP P A) ∧ (formatP P A).n = P.n) := Lib.hid ⟨hs1, hs3⟩
    clear hs hs1 hs2 hs3
    go_wp2_with fail
    refine Calls.mono HD.out ?_
    rintro e w' ⟨rfl, rfl⟩
    clear HD
    go_upto_region 21 with (fail)
    by_cases hz : formatE P A = 0
    · have HC : Hid (∀ w', Below wa.heap.size wa w' → Calls Tryz.prog 9 #[pv q, .int .i64 A] w' fun e w'' => ∃ j, e = .returned (.tuple #[jv j, .int .i64 0]) ∧ BP sp w0 w'' x (q.banX [j.p, j.m]) (r.banX [j.p, j.m]) j (formatJ A.toNat) (formatP P A) P ∧ w''.cell? ⟨g, 1, none⟩ = some (.int .i64 A)) := Lib.hid fun w' hb => by
        have hB := HB.out.below hb
        refine Calls.mono (format_is hB.t.bn.mix.pl HSu.out A HA.out) ?_
        intro e w'' hF
        obtain ⟨j, rfl, hj, g1, g2⟩ := hF.ok hz
        exact ⟨j, rfl, hB.t.bn.made hj g1 g2 hF.only, hF.only.cell hB.nq (HCs.out hB).1⟩
      have HZ := Lib.hid hz
      have hS : Below wa.heap.size wa wa := Below.refl _ _
      clear hz t2 t4 t5
      go_cut [6, 7] from 112 to 120 (fun v6 v7 wx => ∃ j, v6 = jv j ∧ v7 = .int .i64 0 ∧ Hid (BP sp w0 wx x (q.banX [j.p, j.m]) (r.banX [j.p, j.m]) j (formatJ A.toNat) (formatP P A) P ∧ wx.cell? ⟨g, 1, none⟩ = some (.int .i64 A)))
      case first =>
        go_region_with ((go_at_call 9; ((with_reducible refine Calls.mono (HC.out _ ?_) ?_); (first | with_reducible exact hS | with_reducible exact Below.drew hS | with_reducible exact Below.step hS (Below.new _ _) | with_reducible exact Below.step (Below.drew hS) (Below.new _ _) | with_reducible exact Below.drew (Below.step hS (Below.new _ _))); rintro e w' ⟨j, rfl, hb⟩; have HB1 := Lib.hid hb; clear hb)))
        all_goals
          go_wp2
          go_meet
          exact ⟨j, rfl, rfl, HB1⟩
      case rest =>
        obtain ⟨j, rfl, rfl, HB1⟩ := hcut
        clear HC hS HB t1 s0 s2
        have t1 := HB1.out.2
        have s0 := HB1.out.1.bn.c0
        have s2 := HB1.out.1.bn.c2
        obtain ⟨Q, hQ⟩ : ∃ Q : PLoc, Q = q.banX [j.p, j.m] := ⟨_, rfl⟩
        obtain ⟨R, hR⟩ : ∃ R : RLoc, R = r.banX [j.p, j.m] := ⟨_, rfl⟩
        rw [← hQ, ← hR] at HB1
        rw [← hQ] at s0
        rw [← hR] at s2
        clear hQ hR
        have HC : Hid (∀ w', Below wc.heap.size wc w' → Calls Tryz.prog 81 #[rv R, .int .i64 A] w' fun e w'' => ∃ m, e = .returned (.tuple #[mv m, .int .i64 0]) ∧ BN sp w0 w'' x (Q.banX [m]) (R.banX [m]) (formatP P A) (formatP P A) ∧ JB sp w0 w'' x (Q.banX [m]) (R.banX [m]) j m (formatJ A.toNat) (formatJ A.toNat) (formatP P A) (formatP P A)) := Lib.hid fun w' hb => by
          have hB : BP sp w0 w' x Q R j (formatJ A.toNat) (formatP P A) P := HB1.out.1.below hb
          refine Calls.mono (rj_format hB.bn.mix.rf A HA.out) ?_
          intro e w'' hF
          obtain ⟨m, rfl, hm, g1⟩ := hF.ok HZ.out
          exact ⟨m, rfl, hB.made hm g1 hF.only⟩
        have hS : Below wc.heap.size wc wc := Below.refl _ _
        obtain ⟨wd, hwd⟩ : ∃ wd, wd = wc := ⟨_, rfl⟩
        subst hwd
        go_upto_region 22 with (fail)
        go_cut [8, 9] from 121 to 130 (fun v8 v9 wx => ∃ m, v8 = mv m ∧ v9 = .int .i64 0 ∧ Hid (BN sp w0 wx x (Q.banX [m]) (R.banX [m]) (formatP P A) (formatP P A) ∧ JB sp w0 wx x (Q.banX [m]) (R.banX [m]) j m (formatJ A.toNat) (formatJ A.toNat) (formatP P A) (formatP P A)))
        case first =>
          go_region_with ((go_at_call 81; ((with_reducible refine Calls.mono (HC.out _ ?_) ?_); (first | with_reducible exact hS | with_reducible exact Below.drew hS | with_reducible exact Below.step hS (Below.new _ _) | with_reducible exact Below.step (Below.drew hS) (Below.new _ _) | with_reducible exact Below.drew (Below.step hS (Below.new _ _))); rintro e w' ⟨m, rfl, hb⟩; have HB2 := Lib.hid hb; clear hb)))
          all_goals
            go_wp2
            go_meet
            exact ⟨m, rfl, rfl, HB2⟩
        case rest =>
          obtain ⟨m, rfl, rfl, HB2⟩ := hcut
          clear HC hS HB1 t1 s0 s2
          obtain ⟨u1, c1⟩ := HB2.out.1.c1
          obtain ⟨u3, c3⟩ := HB2.out.1.c3
          have HT := Lib.hid (took_is wc x (some (j, m)) 0 rfl c1 c3 HB2.out.1.fz)
          clear c1 c3
          go_wp2_with fail
          refine Calls.mono HT.out ?_
          rintro e w5 ⟨rfl, rfl⟩
          go_wp2
          go_ret
          exact ⟨rfl, _, _, some (j, m), formatJ A.toNat, formatP P A, HB2.out.1.took (some (j, m)) rfl rfl (fun j' m' e => by cases e; exact HB2.out.2), dw_live HF.out.1.2, fun _ => HF.out.1, by rw [HF.out.2]; exact HN.out.symm, fun _ => ⟨by show 2 ≤ _; omega, by show 1 ≤ _; omega⟩⟩
    · have HC : Hid (∀ w', Below wa.heap.size wa w' → Calls Tryz.prog 9 #[pv q, .int .i64 A] w' fun e w'' => e = .returned (.tuple #[.pointer none, .int .i64 (formatE P A)]) ∧ BN sp w0 w'' x q r (formatP P A) P ∧ w''.cell? ⟨g, 1, none⟩ = some (.int .i64 A)) := Lib.hid fun w' hb => by
        have hB := HB.out.below hb
        refine Calls.mono (format_is hB.t.bn.mix.pl HSu.out A HA.out) ?_
        intro e w'' hF
        obtain ⟨rfl, hp⟩ := hF.no hz
        exact ⟨rfl, hB.t.bn.first hp hF.only, hF.only.cell hB.nq (HCs.out hB).1⟩
      obtain ⟨z, hze⟩ : ∃ z, z = formatE P A := ⟨_, rfl⟩
      have HZe := Lib.hid hze
      have HZ := Lib.hid hz
      rw [← hze] at HC
      have hS : Below wa.heap.size wa wa := Below.refl _ _
      clear hz hze t2 t4 t5
      go_cut [6, 7] from 112 to 120 (fun v6 v7 wx => v6 = .pointer none ∧ v7 = .int .i64 z ∧ Hid (BN sp w0 wx x q r (formatP P A) P ∧ wx.cell? ⟨g, 1, none⟩ = some (.int .i64 A)))
      case first =>
        go_region_with ((go_at_call 9; ((with_reducible refine Calls.mono (HC.out _ ?_) ?_); (first | with_reducible exact hS | with_reducible exact Below.drew hS | with_reducible exact Below.step hS (Below.new _ _) | with_reducible exact Below.step (Below.drew hS) (Below.new _ _) | with_reducible exact Below.drew (Below.step hS (Below.new _ _))); rintro e w' ⟨rfl, hb⟩; have HB1 := Lib.hid hb; clear hb)))
        all_goals
          go_wp2
          go_meet
          exact ⟨rfl, rfl, HB1⟩
      case rest =>
        obtain ⟨rfl, rfl, HB1⟩ := hcut
        clear HC hS HB t1 s0 s2
        have t1 := HB1.out.2
        have s0 := HB1.out.1.c0
        have s2 := HB1.out.1.c2
        have HC : Hid (∀ w', Below wc.heap.size wc w' → Calls Tryz.prog 81 #[rv r, .int .i64 A] w' fun e w'' => e = .returned (.tuple #[.pointer none, .int .i64 z]) ∧ BN sp w0 w'' x q r (formatP P A) (formatP P A)) := Lib.hid fun w' hb => by
          have hB : BN sp w0 w' x q r (formatP P A) P := HB1.out.1.below hb
          refine Calls.mono (rj_format hB.mix.rf A HA.out) ?_
          intro e w'' hF
          obtain ⟨rfl, hm⟩ := hF.no HZ.out
          exact ⟨by rw [HZe.out], hB.second hm hF.only⟩
        have hS : Below wc.heap.size wc wc := Below.refl _ _
        obtain ⟨wd, hwd⟩ : ∃ wd, wd = wc := ⟨_, rfl⟩
        subst hwd
        go_upto_region 22 with (fail)
        go_cut [8, 9] from 121 to 130 (fun v8 v9 wx => v8 = .pointer none ∧ v9 = .int .i64 z ∧ Hid (BN sp w0 wx x q r (formatP P A) (formatP P A)))
        case first =>
          go_region_with ((go_at_call 81; ((with_reducible refine Calls.mono (HC.out _ ?_) ?_); (first | with_reducible exact hS | with_reducible exact Below.drew hS | with_reducible exact Below.step hS (Below.new _ _) | with_reducible exact Below.step (Below.drew hS) (Below.new _ _) | with_reducible exact Below.drew (Below.step hS (Below.new _ _))); rintro e w' ⟨rfl, hb⟩; have HB2 := Lib.hid hb; clear hb)))
          all_goals
            go_wp2
            go_meet
            exact ⟨rfl, rfl, HB2⟩
        case rest =>
          obtain ⟨rfl, rfl, HB2⟩ := hcut
          clear HC hS HB1 t1 s0 s2
          obtain ⟨u1, c1⟩ := HB2.out.c1
          obtain ⟨u3, c3⟩ := HB2.out.c3
          have HT := Lib.hid (took_is wc x none z (by have := HZ.out; rw [← HZe.out] at this; simp [this]) c1 c3 HB2.out.fz)
          clear c1 c3
          go_wp2_with fail
          refine Calls.mono HT.out ?_
          rintro e w5 ⟨rfl, rfl⟩
          go_wp2
          go_ret
          exact ⟨rfl, _, _, none, formatJ 2, formatP P A, HB2.out.took none rfl rfl (fun j' m' e => by cases e), dw_live HF.out.1.2, fun _ => HF.out.1, by rw [HF.out.2]; exact HN.out.symm, fun e => absurd rfl e⟩
theorem outside_is (h : BT sp w0 w x q r o J J P P) (hdw : DW P) (s : Nat) (S : Prop) (hS : S → Sure P) (hJ : o ≠ none → JBd J s) {kd A bit : Int} {la ka ba : Option Addr} {ln lc kc bc : Nat} {K : List Bool} {B : List Byte} (hO : Old w0 ka kc K ba bc B) (hA : -9223372036854775808 ≤ A ∧ A ≤ 9223372036854775807)
    (h4 : S → kd % 9 ≠ 4) (h8 : kd % 9 = 8 → S) (h3 : 3 ≤ kd % 9) {kl bl : Nat} (hkl : K.length = kl) (hbl : B.length = bl) :
    Calls Tryz.prog 59 #[xv x, .agg #[.int .i64 kd, .int .i64 A, .int .i64 bit, .slice la ln lc, .slice ka kl kc, .slice ba bl bc]] w fun e w' => e = .returned (.bool true) ∧ All sp w0 w' x s S P.n := by
  by_cases h5 : kd % 9 ≤ 5
  · exact outside_a h hdw s S hS hJ hO hA h4 h8 h3 h5 hkl hbl
  · exact outside_b h hdw s S hS hJ hO hA h4 h8 (by omega) hkl hbl
end
end Go.Proofs.YtdhidcoglioalaaGreat.Walks
namespace Go.Proofs.YtdhidcoglioalaaGreat.Walks
open Go.RowKit Plain Jn
set_option linter.unusedVariables false
theorem dw_act {P : Pl} (h : DW P) (x : Wk) : DW (x.act P) := by
  cases x with
  | wr i s => exact dw_write h _ _
  | fl => exact dw_flush h
theorem dw_run (l : List Wk) : ∀ {P : Pl}, DW P → DW (runP l P) := by
  induction l with
  | nil => intro P h; exact h
  | cons x l ih =>
    intro P h
    unfold runP
    split
    · exact dw_act h x
    · exact ih (dw_act h x)
/-- What is so of a plate, and of the plate that a call makes of it. -/
structure Goes (S : Prop) (P Q : Pl) : Prop where
  n : Q.n = P.n
  dw : DW P → DW Q
  sure : (S → Sure P) → (S → Sure Q)
theorem Goes.refl (S : Prop) (P : Pl) : Goes S P P := ⟨rfl, id, id⟩
theorem Goes.run (S : Prop) (l : List Wk) (P : Pl) : Goes S P (runP l P) := ⟨runP_n l P, dw_run l, fun h k => sure_run l (h k)⟩
theorem Goes.trans {S : Prop} {P Q R : Pl} (h : Goes S P Q) (k : Goes S Q R) : Goes S P R := ⟨k.n.trans h.n, fun d => k.dw (h.dw d), fun d => k.sure (h.sure d)⟩
theorem clear_goes (S : Prop) (P : Pl) (J : Jn) : Goes S P (clearP P J) := by
  unfold clearP
  split
  · exact Goes.refl _ _
  · exact Goes.run _ _ _
theorem commit_goes (S : Prop) (P : Pl) (J : Jn) (l : List (Int × List Byte)) : Goes S P (commitP P J l) := by
  unfold commitP
  split
  · exact Goes.refl _ _
  · unfold putP
    split
    · split
      · exact clear_goes _ _ _
      · exact (clear_goes _ _ _).trans (Goes.run _ _ _)
    · exact Goes.run _ _ _
section
variable {sp : Sp} {w0 w w' : World} {x m g n : Nat} {a : Array Value} {q : PLoc} {r : RLoc} {j : JLoc} {o : Option (JLoc × Nat)} {J J' J2 : Jn} {P P' P2 : Pl}
theorem BT.jx (h : BT sp w0 w x q r (some (j, m)) J J' P P') : w.cell? ⟨x, 1, none⟩ = some (jv j) := h.c1
theorem BT.mx (h : BT sp w0 w x q r (some (j, m)) J J' P P') : w.cell? ⟨x, 3, none⟩ = some (mv m) := h.c3
theorem c_clear (h : BT sp w0 w x q r (some (j, m)) J J' P P') (hh : J.head < 4611686018427387904) : Calls Tryz.prog 8 #[jv j] w fun e w' => e = .returned (.int .i64 (clearE P J)) ∧ BT sp w0 w' x q r (some (j, m)) (clearJ P J) J' (clearP P J) P' := by
  refine Calls.mono (clear_any (h.jn j m rfl).jp hh) ?_
  rintro e w' ⟨rfl, hj, ho⟩
  exact ⟨rfl, h.prog hj ho⟩
theorem m_clear (h : BT sp w0 w x q r (some (j, m)) J J' P P') (hh : J'.head < 4611686018427387904) : Calls Tryz.prog 87 #[mv m] w fun e w' => e = .returned (.int .i64 (clearE P' J')) ∧ BT sp w0 w' x q r (some (j, m)) J (clearJ P' J') P (clearP P' J') := by
  refine Calls.mono (rj_clear (h.jn j m rfl).rj hh) ?_
  rintro e w' ⟨rfl, hj, ho⟩
  exact ⟨rfl, h.docu hj ho⟩
theorem BT.all {s : Nat} {S : Prop} (h : BT sp w0 w x q r (some (j, m)) J J P2 P2) (hg : Goes S P P2) (hdw : DW P) (hS : S → Sure P) (hn : n = P.n) (hJ : JBd J s) : All sp w0 w x s S n :=
  ⟨q, r, _, J, P2, h, hg.dw hdw, hg.sure hS, by rw [hg.n, hn], fun _ => hJ⟩
set_option maxRecDepth 20000 in
set_option maxHeartbeats 8000000 in
theorem calls_clear (h : BT sp w0 w x q r (some (j, m)) J J P P) (hdw : DW P) (s : Nat) (S : Prop) (hS : S → Sure P) (hJ : JBd J s) (hs : s ≤ 1000000) {kd A bit : Int} {la ka ba : Option Addr} {ln lc kc bc kl bl : Nat} (h2 : kd % 9 = 2) :
    Calls Tryz.prog 60 #[xv x, .agg #[.int .i64 kd, .int .i64 A, .int .i64 bit, .slice la ln lc, .slice ka kl kc, .slice ba bl bc]] w fun e w' => e = .returned (.bool true) ∧ All sp w0 w' x (s + 1) S P.n := by
  obtain ⟨n, hn⟩ : ∃ n, n = P.n := ⟨_, rfl⟩
  rw [← hn]
  obtain ⟨z, hz⟩ : ∃ z, z = clearE P J := ⟨_, rfl⟩
  have hh : J.head < 4611686018427387904 := by have := hJ.1; omega
  have HC1 : Hid (∀ w', BT sp w0 w' x q r (some (j, m)) J J P P → Calls Tryz.prog 8 #[jv j] w' fun e w'' => e = .returned (.int .i64 z) ∧ BT sp w0 w'' x q r (some (j, m)) (clearJ P J) J (clearP P J) P) := Lib.hid fun w' h => by rw [hz]; exact c_clear h hh
  have HC2 : Hid (∀ w', BT sp w0 w' x q r (some (j, m)) (clearJ P J) J (clearP P J) P → Calls Tryz.prog 87 #[mv m] w' fun e w'' => e = .returned (.int .i64 z) ∧ All sp w0 w'' x (s + 1) S n) := Lib.hid fun w' h => by
    refine Calls.mono (m_clear h hh) ?_
    rintro e w'' ⟨rfl, hb⟩
    exact ⟨by rw [hz], hb.all (clear_goes S P J) hdw hS hn (clearJ_bound hJ)⟩
  have HBr := Lib.hid (bring_any kd 9)
  rw [h2] at HBr
  have H := Lib.hid h
  clear h hdw hS hJ hs h2 hn hz hh
  go_enter Tryz.func60, Tryz.ntmps60
  go_upto_region 1 with (fail)
  obtain ⟨wa, hwa⟩ : ∃ x, x = w.alloc (.cells #[.int .i64 kd, .int .i64 A, .int .i64 bit, .slice la ln lc, .slice ka kl kc, .slice ba bl bc] 43) := ⟨_, rfl⟩
  have hba : Below w.heap.size w wa := by rw [hwa]; exact Below.new _ _
  have t0 : wa.cell? ⟨w.heap.size, 0, none⟩ = some (.int .i64 kd) := by rw [hwa, cell_new]; rfl
  have HB := Lib.hid (H.out.below hba)
  obtain ⟨g, hg⟩ : ∃ g, g = w.heap.size := ⟨_, rfl⟩
  rw [← hg] at t0
  rw [← hg, ← hwa]
  clear hwa hba hg
  go_wp2_with fail
  refine Calls.mono (HBr.out wa (by decide) (by decide)) ?_
  rintro e wx ⟨rfl, rfl⟩
  have s1 := HB.out.jx
  have s3 := HB.out.mx
  clear t0 HBr
  go_wp2_with fail
  have hS : Below wa.heap.size wa wa := Below.refl _ _
  go_region_with ((first
    | (go_at_call 8; ((with_reducible refine Calls.mono (HC1.out _ (by first | exact HB.out | exact HB.out.below (Below.refl _ _).drew)) ?_); rintro e w1 ⟨rfl, hb⟩; have s1 := hb.jx; have s3 := hb.mx; have HB1 := Lib.hid hb; clear hb))
    | (go_at_call 87; go_loud ((with_reducible refine Calls.mono (HC2.out _ (by first | exact HB1.out | exact HB1.out.below (Below.refl _ _).drew)) ?_); rintro e w2 ⟨rfl, hb⟩; have HB2 := Lib.hid hb; clear hb))))
  all_goals
    go_wp2
    go_ret
    exact ⟨rfl, HB2.out⟩
end
end Go.Proofs.YtdhidcoglioalaaGreat.Walks
