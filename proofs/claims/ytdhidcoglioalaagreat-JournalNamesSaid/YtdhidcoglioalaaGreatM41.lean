/-
  Both plates, the program's and the document's, side by side.
  The document's journal is opened.
-/
import Derived.Test.YtdhidcoglioalaaGreatM17
import Derived.Test.YtdhidcoglioalaaGreatM40
namespace Go.Proofs.YtdhidcoglioalaaGreat.Walks
open Go.RowKit Plain
set_option linter.unusedVariables false

/-- A plate that is dead has nothing that waits. -/
def DW (P : Pl) : Prop := P.dead = true → ∀ i, P.waits i = none
theorem dw_gone (P : Pl) (keep : List Bool) : DW (P.gone keep) := fun _ _ => rfl
theorem dw_live {P : Pl} (h : P.dead = false) : DW P := fun h' => by rw [h] at h'; cases h'
theorem dw_did {P : Pl} (h : DW P) : DW P.did := by
  unfold Pl.did
  split
  · split
    · exact h
    · exact dw_gone _ _
  · exact h
theorem goes_did {P : Pl} (h : P.goes = false) : P.did.dead = P.dead := by
  unfold Pl.goes at h
  unfold Pl.did
  cases hf : P.fails
  · rfl
  · by_cases hl : 0 < P.left
    · simp [hl]
    · simp [hf, hl] at h
theorem dw_write {P : Pl} (h : DW P) (i : Int) (b : List Byte) : DW (P.write i b) := by
  unfold Pl.write
  split
  · exact h
  · rename_i h0
    split
    · exact h
    · split
      · exact dw_did h
      · rename_i hg
        refine dw_live ?_
        show P.did.dead = false
        rw [goes_did (by simpa using hg)]
        exact (Pl.has_zero (Classical.not_not.1 h0)).1
theorem dw_flush {P : Pl} (h : DW P) : DW P.flush := by
  unfold Pl.flush
  split
  · exact h
  · split
    · exact dw_did h
    · exact fun _ _ => rfl
theorem dw_crash {P : Pl} (h : DW P) (keep : List Bool) : DW (P.crash keep) := by
  unfold Pl.crash
  split
  · exact h
  · exact dw_gone _ _
theorem dw_boot (P : Pl) : DW P.boot := dw_live rfl
theorem dw_fail {P : Pl} (h : DW P) (n : Int) (keep : List Bool) : DW (P.fail n keep) := by
  unfold Pl.fail
  split
  · exact h
  · exact h
theorem dw_turn {P : Pl} (h : DW P) (i bit : Int) : DW (P.turn i bit) := by
  unfold Pl.turn
  split
  · exact h
  · rename_i h0
    refine dw_live ?_
    show P.dead = false
    have h1 := Classical.not_not.1 h0
    unfold Pl.turnE at h1
    split at h1
    · rename_i h2; exact absurd h1 h2
    · rename_i h2; exact (Pl.has_zero (Classical.not_not.1 h2)).1
theorem wsD_eq {P : Pl} (h : DW P) : wsD P = P.ws := by
  unfold wsD
  split
  · rename_i hd
    unfold Pl.ws
    rw [eq_comm, List.filter_eq_nil_iff]
    intro j _
    rw [h hd j]
    simp
  · rfl
structure Mix (w w' : World) (q : PLoc) (r : RLoc) (P P' : Pl) : Prop where
  pl : PlateAt w' q P
  rf : RefAt w' r P'
  be : Below w.heap.size w w'
  ge : ∀ b ∈ q.R, w.heap.size ≤ b
  ge' : ∀ b ∈ r.R, w.heap.size ≤ b
  bq : ∀ b ∈ r.R, b ∈ q.ban
  br : ∀ b ∈ q.R, b ∈ r.ban
  dis : ∀ b ∈ q.R, b ∉ r.R
abbrev Two (w w' : World) (q : PLoc) (r : RLoc) (P : Pl) : Prop := Mix w w' q r P P
section
variable {w w1 w2 : World} {q : PLoc} {r : RLoc} {P P' Q : Pl}
theorem Mix.first (h : Mix w w1 q r P P') (hp : PlateAt w2 q Q) (ho : Only q.R w1 w2) : Mix w w2 q r Q P' :=
  ⟨hp, ⟨h.rf.x.other ho (fun b hb => ⟨h.br b hb, h.dis b hb⟩), h.rf.ok⟩, Only.below h.be ho h.ge (Nat.le_refl _), h.ge, h.ge', h.bq, h.br, h.dis⟩
theorem Mix.second (h : Mix w w1 q r P P') (hr : RefAt w2 r Q) (ho : Only r.R w1 w2) : Mix w w2 q r P Q :=
  ⟨h.pl.only ho (fun b hb hm => h.dis b hb hm) (fun a hn hB => Only.bools ho (fun h0 ad e hm => (hn h0 ad e).2 (h.bq _ hm)) hB), hr, Only.below h.be ho h.ge' (Nat.le_refl _), h.ge, h.ge', h.bq, h.br, h.dis⟩
theorem Mix.below (h : Mix w w1 q r P P') (hb : Below w1.heap.size w1 w2) : Mix w w2 q r P P' :=
  ⟨h.pl.below hb, ⟨h.rf.x.below hb, h.rf.ok⟩, Below.step h.be hb, h.ge, h.ge', h.bq, h.br, h.dis⟩
theorem Mix.reban (h : Mix w w1 q r P P') (hb : Below w1.heap.size w1 w2) {X : List Nat} (hX : ∀ x ∈ X, w1.heap.size ≤ x ∧ x < w2.heap.size) : Mix w w2 (q.banX X) (r.banX X) P P' :=
  ⟨h.pl.reban hb hX, ⟨h.rf.x.reban hb hX, h.rf.ok⟩, Below.step h.be hb, h.ge, h.ge', fun b hm => List.mem_append_right _ (h.bq b hm), fun b hm => List.mem_append_right _ (h.br b hm), h.dis⟩
theorem Mix.unban {X : List Nat} (h : Mix w w2 (q.banX X) (r.banX X) P P') (h0 : Mix w w1 q r Q Q) : Mix w w2 q r P P' :=
  ⟨h.pl.unban, ⟨h.rf.x.unban, h.rf.ok⟩, h.be, h.ge, h.ge', h0.bq, h0.br, h.dis⟩
/-- A block that is banned is written over. -/
theorem Mix.poke (h : Mix w w1 q r P P') {g : Nat} (ho : Only [g] w1 w2) (hq : g ∈ q.ban) (hr : g ∈ r.ban) (hnq : g ∉ q.R) (hnr : g ∉ r.R) (hg : w.heap.size ≤ g) : Mix w w2 q r P P' :=
  ⟨h.pl.only ho (fun b hb hm => hnq (by simp at hm; exact hm ▸ hb)) (fun a hn hB => Only.bools ho (fun h0 ad e hm => (hn h0 ad e).2 (by simp at hm; rw [hm]; exact hq)) hB),
   ⟨h.rf.x.other ho (fun b hb => by simp at hb; subst hb; exact ⟨hr, hnr⟩), h.rf.ok⟩, Only.below h.be ho (fun x hx => by simp at hx; subst hx; exact hg) (Nat.le_refl _), h.ge, h.ge', h.bq, h.br, h.dis⟩
end
end Go.Proofs.YtdhidcoglioalaaGreat.Walks
namespace Go.Proofs.YtdhidcoglioalaaGreat.Walks
open Go.RowKit Plain Jn
set_option linter.unusedVariables false
theorem flush_live' {P : Pl} (h : P.flushE = 0) : P.flush.dead = false := by
  unfold Pl.flushE at h
  unfold Pl.flush
  cases hd : P.dead
  · rw [hd] at h
    simp only [Bool.false_eq_true, if_false] at h ⊢
    cases hg : P.goes
    · simp only [Bool.false_eq_true, if_false]
      show P.did.dead = false
      rw [goes_did hg, hd]
    · rw [hg] at h
      simp at h
  · rw [hd] at h
    simp at h
structure HdB (x : Hd) (n : Nat) : Prop where
  turn : x.turn < 1099511627776
  turn0 : 0 < x.turn
  log2 : 2 ≤ x.log
  logn : x.log + 3 ≤ n
  at_ : x.at_ < x.log
  next : x.next < 1099511627776
theorem headAt_bound {P : Pl} {i : Nat} {x : Hd} (h : headAt P i = some x) : HdB x P.n := by
  unfold headAt at h
  split at h
  · rename_i hc
    cases h
    have h1 := hc.2
    unfold hdOk logMay at h1
    simp only [Bool.and_eq_true, decide_eq_true_eq] at h1
    obtain ⟨⟨⟨⟨⟨⟨_, _⟩, h2⟩, h3, h4⟩, h5⟩, h6⟩, _⟩ := h1
    refine ⟨?_, h2, h3, h4, h5, ?_⟩
    · have := getN_lt (cutS (P.seen i) 1 5); rw [cutS_length] at this; exact this
    · have := getN_lt (cutS (P.seen i) 10 5); rw [cutS_length] at this; exact this
  · cases h
/-- What an opening answers. -/
structure OpenD (w w' : World) (r : RLoc) (P : Pl) (e : Ending) : Prop where
  ok : ∀ J, openE P = 0 → openJ P.flush = some J → ∃ m, e = .returned (.tuple #[mv m, .int .i64 0]) ∧ RJ w' m (r.banX [m]) J P.flush ∧ w.heap.size ≤ m
  no : openE P ≠ 0 → e = .returned (.tuple #[.pointer none, .int .i64 (openE P)]) ∧ RefAt w' r P.flush
  only : Only r.R w w'
theorem OpenD.bad {w w' : World} {r : RLoc} {P : Pl} (h0 : P.flushE = 0) (hj : openJ P.flush = none) (hr : RefAt w' r P.flush) (ho : Only r.R w w') : OpenD w w' r P (.returned (.tuple #[.pointer none, .int .i64 70])) := by
  have hE : openE P = 70 := by unfold openE; rw [h0, hj]; rfl
  exact ⟨(fun J _ h => by rw [hj] at h; cases h), (fun _ => ⟨by rw [hE], hr⟩), ho⟩
theorem openJ_none {Q : Pl} (h : heads2 Q = none) : openJ Q = none := by unfold openJ; rw [h]
theorem heads2_0 {Q : Pl} (h : headAt Q 0 = none) : heads2 Q = none := by unfold heads2; rw [h]
theorem heads2_1 {Q : Pl} (h : headAt Q 1 = none) : heads2 Q = none := by
  unfold heads2
  rw [h]
  cases headAt Q 0 <;> rfl
theorem heads2_no {Q : Pl} {x y : Hd} (h0 : headAt Q 0 = some x) (h1 : headAt Q 1 = some y) (h : ¬ (x.log = y.log ∧ (x.turn = y.turn + 1 ∨ y.turn = x.turn + 1))) : heads2 Q = none := by
  unfold heads2
  rw [h0, h1]
  exact if_neg h
theorem heads2_yes {Q : Pl} {x y : Hd} (h0 : headAt Q 0 = some x) (h1 : headAt Q 1 = some y) (h : x.log = y.log ∧ (x.turn = y.turn + 1 ∨ y.turn = x.turn + 1)) : heads2 Q = some (if y.turn > x.turn then y else x) := by
  unfold heads2
  rw [h0, h1]
  exact if_pos h
theorem openJ_some {Q : Pl} {x : Hd} (h : heads2 Q = some x) : openJ Q = (replay Q.seen x.log (Q.n - 2 - x.log) x.log x.at_ x.next 0 [] (fun _ => none)).map (jnOf x.log x.turn) := by
  unfold openJ
  rw [h]
  simp only
  cases replay Q.seen x.log (Q.n - 2 - x.log) x.log x.at_ x.next 0 [] (fun _ => none) with
  | none => rfl
  | some y => rfl
section
variable {w w' : World} {m : Nat} {r : RLoc} {J J' : Jn} {P P' : Pl}
set_option maxRecDepth 10000 in
set_option maxHeartbeats 8000000 in
theorem rj_open (h : RefAt w r P) : Calls Tryz.prog 111 #[rv r] w fun e w' => OpenD w w' r P e := by
  have hfl := rf_flush w r P h
  have hn4 := h.ok.most
  obtain ⟨z, hz⟩ : ∃ z, z = P.flushE := ⟨_, rfl⟩
  rw [← hz] at hfl
  have HFl := Lib.hid hfl
  by_cases hz0 : z = 0
  · have HZ := Lib.hid (show P.flushE = 0 by rw [← hz]; exact hz0)
    subst hz0
    have hdl := flush_live' HZ.out
    obtain ⟨Q, hQ⟩ : ∃ Q, Q = P.flush := ⟨_, rfl⟩
    rw [← hQ] at HFl hdl
    have HQ := Lib.hid hQ
    have HDl := Lib.hid hdl
    have HFin : Hid (∀ w', openJ Q = none → RefAt w' r Q → Only r.R w w' → OpenD w w' r P (.returned (.tuple #[.pointer none, .int .i64 70]))) := Lib.hid fun w' h1 h2 h3 => OpenD.bad HZ.out (by rw [← hQ]; exact h1) (by rw [← hQ]; exact h2) h3
    clear h hfl hz hdl hQ
    go_enter Tryz.func111, Tryz.ntmps111
    go_wp2_with fail
    refine Calls.mono HFl.out ?_
    rintro e w1 ⟨rfl, hr1, ho1⟩
    have HR1 := Lib.hid hr1
    have HO1 := Lib.hid ho1
    have HH0 := Lib.hid (rj_heads w1 r Q hr1 0)
    clear hr1 ho1
    go_wp2_with fail
    refine Calls.mono HH0.out ?_
    rintro e w2 ⟨a0, b0, c0, d0, ⟨rfl, hx0⟩, hb2⟩
    have HX0 := Lib.hid hx0
    have hr2 : RefAt w2 r Q := ⟨HR1.out.x.below hb2, HR1.out.ok⟩
    have HR2 := Lib.hid hr2
    have HO2 := Lib.hid (HO1.out.trans (Only.of_below hb2))
    clear hx0 hb2 hr2
    go_upto_region 5 with (fail)
    obtain ⟨w3, hw3⟩ : ∃ x, x = w2.alloc (.cells #[.int .i64 (a0 : Int), .int .i64 (b0 : Int), .int .i64 (c0 : Int), .int .i64 (d0 : Int)] 168) := ⟨_, rfl⟩
    obtain ⟨g5, hg5⟩ : ∃ x, x = w2.heap.size := ⟨_, rfl⟩
    rw [← hw3, ← hg5]
    have hb3 : Below w2.heap.size w2 w3 := by rw [hw3]; exact Below.new _ _
    have HA0 : Hid (Cells4 w3 g5 (.int .i64 (a0 : Int)) (.int .i64 (b0 : Int)) (.int .i64 (c0 : Int)) (.int .i64 (d0 : Int))) := Lib.hid (by rw [hw3, hg5]; exact ⟨by rw [cell_new]; rfl, by rw [cell_new]; rfl, by rw [cell_new]; rfl, by rw [cell_new]; rfl⟩)
    have HF0 : Hid (∀ k, w3.frozen? ⟨g5, k, none⟩ = false) := Lib.hid fun k => by rw [hw3, hg5]; exact frozen_new _ _ _ _
    have hr3 : RefAt w3 r Q := ⟨HR2.out.x.below hb3, HR2.out.ok⟩
    have hg53 : g5 < w3.heap.size := by rw [hw3, hg5]; simp
    have HR3 := Lib.hid hr3
    have HO3 := Lib.hid (HO2.out.trans (Only.of_below hb3))
    have HG5 := Lib.hid (show w.heap.size ≤ g5 by rw [hg5]; exact HO2.out.size)
    have HH1 := Lib.hid (rj_heads w3 r Q hr3 1)
    have HG52 := Lib.hid hg5
    have HB23 := Lib.hid hb3
    clear hw3 hg5 hb3 hr3
    go_wp2_with fail
    refine Calls.mono HH1.out ?_
    rintro e w4 ⟨a1, b1, c1, d1, ⟨rfl, hx1⟩, hb4⟩
    have HX1 := Lib.hid hx1
    have HR4 := Lib.hid (show RefAt w4 r Q from ⟨HR3.out.x.below hb4, HR3.out.ok⟩)
    have HO4 := Lib.hid (HO3.out.trans (Only.of_below hb4))
    have HA04 : Hid (Cells4 w4 g5 (.int .i64 (a0 : Int)) (.int .i64 (b0 : Int)) (.int .i64 (c0 : Int)) (.int .i64 (d0 : Int))) := Lib.hid (by obtain ⟨x0, x1, x2, x3⟩ := HA0.out; exact ⟨keepb hb4 hg53 x0, keepb hb4 hg53 x1, keepb hb4 hg53 x2, keepb hb4 hg53 x3⟩)
    have HF04 : Hid (∀ k, w4.frozen? ⟨g5, k, none⟩ = false) := Lib.hid fun k => (hb4.frozen (p := ⟨g5, k, none⟩) hg53).trans (HF0.out k)
    have hg54 : g5 < w4.heap.size := Nat.lt_of_lt_of_le hg53 hb4.size
    have HB24 := Lib.hid (Below.step HB23.out hb4)
    clear hx1 hb4 hg53 HA0 HF0 HH0 HH1
    go_upto_region 6 with (fail)
    obtain ⟨w5, hw5⟩ : ∃ x, x = w4.alloc (.cells #[.int .i64 (a1 : Int), .int .i64 (b1 : Int), .int .i64 (c1 : Int), .int .i64 (d1 : Int)] 168) := ⟨_, rfl⟩
    obtain ⟨g7, hg7⟩ : ∃ x, x = w4.heap.size := ⟨_, rfl⟩
    rw [← hw5, ← hg7]
    have hb5 : Below w4.heap.size w4 w5 := by rw [hw5]; exact Below.new _ _
    obtain ⟨x0, x1, x2, x3⟩ := HA04.out
    have x0 := keepb hb5 hg54 x0
    have x1 := keepb hb5 hg54 x1
    have x2 := keepb hb5 hg54 x2
    have x3 := keepb hb5 hg54 x3
    have y0 : w5.cell? ⟨g7, 0, none⟩ = some (.int .i64 (a1 : Int)) := by rw [hw5, hg7, cell_new]; rfl
    have y1 : w5.cell? ⟨g7, 1, none⟩ = some (.int .i64 (b1 : Int)) := by rw [hw5, hg7, cell_new]; rfl
    have y2 : w5.cell? ⟨g7, 2, none⟩ = some (.int .i64 (c1 : Int)) := by rw [hw5, hg7, cell_new]; rfl
    have y3 : w5.cell? ⟨g7, 3, none⟩ = some (.int .i64 (d1 : Int)) := by rw [hw5, hg7, cell_new]; rfl
    have f0 : w5.frozen? ⟨g5, 0, none⟩ = false := (hb5.frozen (p := ⟨g5, 0, none⟩) hg54).trans (HF04.out 0)
    have f1 : w5.frozen? ⟨g5, 1, none⟩ = false := (hb5.frozen (p := ⟨g5, 1, none⟩) hg54).trans (HF04.out 1)
    have f2 : w5.frozen? ⟨g5, 2, none⟩ = false := (hb5.frozen (p := ⟨g5, 2, none⟩) hg54).trans (HF04.out 2)
    have f3 : w5.frozen? ⟨g5, 3, none⟩ = false := (hb5.frozen (p := ⟨g5, 3, none⟩) hg54).trans (HF04.out 3)
    have HR5 := Lib.hid (show RefAt w5 r Q from ⟨HR4.out.x.below hb5, HR4.out.ok⟩)
    have HO5 := Lib.hid (HO4.out.trans (Only.of_below hb5))
    have HB25 := Lib.hid (Below.step HB24.out hb5)
    clear hw5 hg7 hb5 HA04 HF04 hg54
    obtain ⟨i0, hi0⟩ : ∃ i0, i0 = (headAt Q 0).isSome := ⟨_, rfl⟩
    obtain ⟨i1, hi1⟩ : ∃ i1, i1 = (headAt Q 1).isSome := ⟨_, rfl⟩
    rw [← hi0, ← hi1]
    have HI0 := Lib.hid hi0
    have HI1 := Lib.hid hi1
    clear hi0 hi1
    cases i0
    · go_wp2
      refine bodyPost_ret (results_tmp2 rfl _ _ _) rfl ?_
      exact HFin.out _ (openJ_none (heads2_0 (by cases h : headAt Q 0 with | none => rfl | some x => have := HI0.out; rw [h] at this; cases this))) HR5.out HO5.out
    · cases i1
      · go_wp2
        refine bodyPost_ret (results_tmp2 rfl _ _ _) rfl ?_
        exact HFin.out _ (openJ_none (heads2_1 (by cases h : headAt Q 1 with | none => rfl | some x => have := HI1.out; rw [h] at this; cases this))) HR5.out HO5.out
      · obtain ⟨xx, hxx⟩ := Option.isSome_iff_exists.1 HI0.out.symm
        obtain ⟨yy, hyy⟩ := Option.isSome_iff_exists.1 HI1.out.symm
        have e0 := HX0.out _ hxx
        have e1 := HX1.out _ hyy
        subst e0 e1
        have hB0 := headAt_bound hxx
        have hB1 := headAt_bound hyy
        have HXX := Lib.hid hxx
        have HYY := Lib.hid hyy
        have HB0 := Lib.hid hB0
        have HB1 := Lib.hid hB1
        have ha0 : a0 < 1099511627776 := hB0.turn
        have ha1 : a1 < 1099511627776 := hB1.turn
        clear hxx hyy hB0 hB1 HX0 HX1 HI0 HI1
        by_cases hl : b0 = b1
        · have hlb : ((b0 : Int) != (b1 : Int)) = false := by simp [hl]
          have HL := Lib.hid hl
          clear hl
          by_cases h01 : a0 = a1 + 1
          · have q1 : ((a0 : Int) - (a1 : Int) != 1) = false := by simp; omega
            have hgt : ¬ (a0 : Int) < (a1 : Int) := by omega
            have HH2 : Hid (heads2 Q = some ⟨a0, b0, c0, d0⟩) := Lib.hid (by rw [heads2_yes HXX.out HYY.out ⟨HL.out, .inl h01⟩, if_neg (by simp only; omega)])
            have HBd := HB0
            have HR7 := HR5
            have HO7 := HO5
            clear h01
            obtain ⟨w7, hw7⟩ : ∃ w7, w7 = w5 := ⟨_, rfl⟩
            subst hw7
            have hok : (⟨b0, a0, c0, 0, d0, fun _ => none, false⟩ : Jn).Ok Q.n := ⟨HBd.out.log2, HBd.out.logn, HBd.out.at_, Nat.zero_le _, (by have := HBd.out.next; show d0 ≤ _; simp only at this; omega), (by have := HBd.out.turn; show a0 ≤ _; simp only at this; omega), HBd.out.turn0, fun _ _ => rfl, fun _ _ h => by cases h⟩
            have HOk := Lib.hid hok
            clear hok
            go_upto_region 11 with (fail)
            obtain ⟨w8, hw8⟩ : ∃ x, x = w7.alloc (.cells #[rv r, .int .i64 (b0 : Int), .int .i64 (a0 : Int), .int .i64 (c0 : Int), .int .i64 0, .int .i64 (d0 : Int), .slice none 0 0, .bool false] 129) := ⟨_, rfl⟩
            obtain ⟨g9, hg9⟩ : ∃ x, x = w7.heap.size := ⟨_, rfl⟩
            rw [← hw8, ← hg9]
            have hj8 : RJ w8 g9 (r.banX [g9]) ⟨b0, a0, c0, 0, d0, fun _ => none, false⟩ Q := by
              rw [hw8, hg9]
              exact rj_new HR7.out HOk.out rfl _ rfl rfl rfl rfl rfl rfl rfl rfl 129
            obtain ⟨R, hR⟩ : ∃ R, R = replay Q.seen b0 (Q.n - 2 - b0) b0 c0 d0 0 [] (fun _ => none) := ⟨_, rfl⟩
            have HRp := Lib.hid (rj_replay (L := b0) (hd := a0) (R := R) hj8 rfl rfl rfl HDl.out (by have := HBd.out.next; show d0 ≤ _; simp only at this; omega) rfl rfl hR.symm)
            have HRR : Hid (openJ Q = R.map (jnOf b0 a0)) := Lib.hid (by rw [openJ_some HH2.out, hR])
            have HO8 : Hid (Only r.R w w8) := Lib.hid (by rw [hw8]; exact HO7.out.trans (Only.of_below (Below.new _ _)))
            have HG9 : Hid (w.heap.size ≤ g9) := Lib.hid (by rw [hg9]; exact HO7.out.size)
            clear hw8 hg9 hj8 hR
            go_wp2_with fail
            refine Calls.mono HRp.out ?_
            intro e w9 hrr
            cases R with
            | none =>
              obtain ⟨rfl, hrf⟩ := hrr.no rfl
              have HRf := Lib.hid hrf
              have HO9 := Lib.hid (onlyF (HO8.out) (hrr.only.mono (R' := g9 :: r.R) fun b hb => by simp at hb; rw [hb]; simp) HG9.out)
              clear hrr hrf
              go_wp2
              refine bodyPost_ret (results_tmp2 rfl _ _ _) rfl ?_
              exact HFin.out _ (by rw [HRR.out]; rfl) ⟨HRf.out.x.unban, HRf.out.ok⟩ HO9.out
            | some y =>
              obtain ⟨rfl, hrj⟩ := hrr.ok y rfl
              have HRj := Lib.hid hrj
              have HO9 := Lib.hid (onlyF (HO8.out) (hrr.only.mono (R' := g9 :: r.R) fun b hb => by simp at hb; rw [hb]; simp) HG9.out)
              clear hrr hrj
              go_wp2
              refine bodyPost_ret (results_tmp2 rfl _ _ _) rfl ?_
              have hE : openE P = 0 := by unfold openE; rw [HZ.out, ← HQ.out, HRR.out]; rfl
              refine ⟨fun J _ hJ => ⟨g9, rfl, ?_, HG9.out⟩, fun h => absurd hE h, HO9.out⟩
              rw [← HQ.out] at hJ ⊢
              rw [HRR.out] at hJ
              cases hJ
              exact HRj.out
          · by_cases h10 : a1 = a0 + 1
            · have q1 : ((a0 : Int) - (a1 : Int) != 1) = true := by simp; omega
              have q2 : ((a1 : Int) - (a0 : Int) != 1) = false := by simp; omega
              have hgt : (a0 : Int) < (a1 : Int) := by omega
              have HH2 : Hid (heads2 Q = some ⟨a1, b1, c1, d1⟩) := Lib.hid (by rw [heads2_yes HXX.out HYY.out ⟨HL.out, .inr h10⟩, if_pos (by simp only; omega)])
              have HBd := HB1
              have hOs : Only [g5] w5 (set4 w5 g5 (.int .i64 (a1 : Int)) (.int .i64 (b1 : Int)) (.int .i64 (c1 : Int)) (.int .i64 (d1 : Int))) := set4_only _ _ _ _ _ _
              clear h01 h10
              go_upto_region 10 with (fail)
              obtain ⟨w7, hw7⟩ : ∃ w7, w7 = set4 w5 g5 (.int .i64 (a1 : Int)) (.int .i64 (b1 : Int)) (.int .i64 (c1 : Int)) (.int .i64 (d1 : Int)) := ⟨_, rfl⟩
              have hc7 : Cells4 w7 g5 (.int .i64 (a1 : Int)) (.int .i64 (b1 : Int)) (.int .i64 (c1 : Int)) (.int .i64 (d1 : Int)) := by
                rw [hw7]
                exact set4_cells fun i hi => by
                  match i, hi with
                  | 0, _ => rw [x0]; rfl
                  | 1, _ => rw [x1]; rfl
                  | 2, _ => rw [x2]; rfl
                  | 3, _ => rw [x3]; rfl
              have HO7 : Hid (Only r.R w w7) := Lib.hid (by rw [hw7]; exact onlyF HO5.out (hOs.mono (R' := g5 :: r.R) fun b hb => by simp at hb; rw [hb]; simp) HG5.out)
              have HR7 : Hid (RefAt w7 r Q) := Lib.hid (by
                have hb7 : Below w2.heap.size w2 w7 := by
                  rw [hw7]
                  exact hOs.below HB25.out (fun b hb => by simp at hb; rw [hb, HG52.out]; exact Nat.le_refl _) (Nat.le_refl _)
                exact ⟨HR2.out.x.below hb7, HR2.out.ok⟩)
              rw [show (((w5.setCell ⟨g5, 0, none⟩ (.int .i64 (a1 : Int))).setCell ⟨g5, 1, none⟩ (.int .i64 (b1 : Int))).setCell ⟨g5, 2, none⟩ (.int .i64 (c1 : Int))).setCell ⟨g5, 3, none⟩ (.int .i64 (d1 : Int)) = w7 from hw7.symm]
              obtain ⟨x0, x1, x2, x3⟩ := hc7
              clear hw7 hOs f0 f1 f2 f3
              have hok : (⟨b1, a1, c1, 0, d1, fun _ => none, false⟩ : Jn).Ok Q.n := ⟨HBd.out.log2, HBd.out.logn, HBd.out.at_, Nat.zero_le _, (by have := HBd.out.next; show d1 ≤ _; simp only at this; omega), (by have := HBd.out.turn; show a1 ≤ _; simp only at this; omega), HBd.out.turn0, fun _ _ => rfl, fun _ _ h => by cases h⟩
              have HOk := Lib.hid hok
              clear hok
              go_upto_region 11 with (fail)
              obtain ⟨w8, hw8⟩ : ∃ x, x = w7.alloc (.cells #[rv r, .int .i64 (b1 : Int), .int .i64 (a1 : Int), .int .i64 (c1 : Int), .int .i64 0, .int .i64 (d1 : Int), .slice none 0 0, .bool false] 129) := ⟨_, rfl⟩
              obtain ⟨g9, hg9⟩ : ∃ x, x = w7.heap.size := ⟨_, rfl⟩
              rw [← hw8, ← hg9]
              have hj8 : RJ w8 g9 (r.banX [g9]) ⟨b1, a1, c1, 0, d1, fun _ => none, false⟩ Q := by
                rw [hw8, hg9]
                exact rj_new HR7.out HOk.out rfl _ rfl rfl rfl rfl rfl rfl rfl rfl 129
              obtain ⟨R, hR⟩ : ∃ R, R = replay Q.seen b1 (Q.n - 2 - b1) b1 c1 d1 0 [] (fun _ => none) := ⟨_, rfl⟩
              have HRp := Lib.hid (rj_replay (L := b1) (hd := a1) (R := R) hj8 rfl rfl rfl HDl.out (by have := HBd.out.next; show d1 ≤ _; simp only at this; omega) rfl rfl hR.symm)
              have HRR : Hid (openJ Q = R.map (jnOf b1 a1)) := Lib.hid (by rw [openJ_some HH2.out, hR])
              have HO8 : Hid (Only r.R w w8) := Lib.hid (by rw [hw8]; exact HO7.out.trans (Only.of_below (Below.new _ _)))
              have HG9 : Hid (w.heap.size ≤ g9) := Lib.hid (by rw [hg9]; exact HO7.out.size)
              clear hw8 hg9 hj8 hR
              go_wp2_with fail
              refine Calls.mono HRp.out ?_
              intro e w9 hrr
              cases R with
              | none =>
                obtain ⟨rfl, hrf⟩ := hrr.no rfl
                have HRf := Lib.hid hrf
                have HO9 := Lib.hid (onlyF (HO8.out) (hrr.only.mono (R' := g9 :: r.R) fun b hb => by simp at hb; rw [hb]; simp) HG9.out)
                clear hrr hrf
                go_wp2
                refine bodyPost_ret (results_tmp2 rfl _ _ _) rfl ?_
                exact HFin.out _ (by rw [HRR.out]; rfl) ⟨HRf.out.x.unban, HRf.out.ok⟩ HO9.out
              | some y =>
                obtain ⟨rfl, hrj⟩ := hrr.ok y rfl
                have HRj := Lib.hid hrj
                have HO9 := Lib.hid (onlyF (HO8.out) (hrr.only.mono (R' := g9 :: r.R) fun b hb => by simp at hb; rw [hb]; simp) HG9.out)
                clear hrr hrj
                go_wp2
                refine bodyPost_ret (results_tmp2 rfl _ _ _) rfl ?_
                have hE : openE P = 0 := by unfold openE; rw [HZ.out, ← HQ.out, HRR.out]; rfl
                refine ⟨fun J _ hJ => ⟨g9, rfl, ?_, HG9.out⟩, fun h => absurd hE h, HO9.out⟩
                rw [← HQ.out] at hJ ⊢
                rw [HRR.out] at hJ
                cases hJ
                exact HRj.out
            · have q1 : ((a0 : Int) - (a1 : Int) != 1) = true := by simp; omega
              have q2 : ((a1 : Int) - (a0 : Int) != 1) = true := by simp; omega
              have HNo := Lib.hid (show ¬ (b0 = b1 ∧ (a0 = a1 + 1 ∨ a1 = a0 + 1)) by omega)
              clear h01 h10
              go_wp2
              refine bodyPost_ret (results_tmp2 rfl _ _ _) rfl ?_
              exact HFin.out _ (openJ_none (heads2_no HXX.out HYY.out HNo.out)) HR5.out HO5.out
        · have hlb : ((b0 : Int) != (b1 : Int)) = true := by simp; omega
          have HNo := Lib.hid (show ¬ (b0 = b1 ∧ (a0 = a1 + 1 ∨ a1 = a0 + 1)) by omega)
          clear hl
          go_wp2
          refine bodyPost_ret (results_tmp2 rfl _ _ _) rfl ?_
          exact HFin.out _ (openJ_none (heads2_no HXX.out HYY.out HNo.out)) HR5.out HO5.out
  · have hE : openE P = z := by unfold openE; rw [← hz, if_pos hz0]
    have hzb : (z != 0) = true := by simpa using hz0
    have HE := Lib.hid hE
    have HZ := Lib.hid hz0
    clear h hfl hz hz0 hE
    go_enter Tryz.func111, Tryz.ntmps111
    go_wp2_with fail
    refine Calls.mono HFl.out ?_
    rintro e w1 ⟨rfl, hr1, ho1⟩
    have HR1 := Lib.hid hr1
    have HO1 := Lib.hid ho1
    clear hr1 ho1
    go_wp2
    refine bodyPost_ret (results_tmp2 rfl _ _ _) rfl ?_
    exact ⟨fun J h _ => absurd (HE.out.symm.trans h) HZ.out, fun _ => ⟨by rw [HE.out]; rfl, HR1.out⟩, HO1.out⟩
end
end Go.Proofs.YtdhidcoglioalaaGreat.Walks
