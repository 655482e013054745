/-
  The walk of the law's works.
-/
import Derived.Test.YtldcpnabgpjgiaaDiskZ
namespace Go.Proofs.Ytldcpnabgpjgiaa.Walks
open Go.RowKit Plain
set_option linter.unusedVariables false
attribute [local go_sem] isPV_mk adV_mk cells_agg cells_agg' held_drew room_drew cellsAt_drew isA4_mk isSl_mk isI_mk intOf_mk
attribute [local go_sem ↓] exec_load88 exec_store88 exec_load81 exec_store81 exec_load90 exec_store90 Go.wp_at_zero Go.wp_at_succ exec_alloc81 exec_build81r exec_build81s exec_bs69 exec_alloc90 exec_build90n
attribute [local irreducible] out0

theorem stepC_mid (e way : Int) (q : Int × Int × Int × Int) (x : Int) (h1 : ¬ 3 ≤ manyQ q x) (h2 : oddQ q = false) : stepC e way q x = mapC e way (ansQ q) ∧ stepO e way q x = Ou.zero := by
  unfold stepC stepO
  rw [if_neg h1, if_neg h1, if_neg (by rintro ⟨_, h⟩; rw [h2] at h; cases h), if_neg (by rintro ⟨_, h⟩; rw [h2] at h; cases h)]
  exact ⟨rfl, rfl⟩
theorem stepC_end (e way : Int) (q : Int × Int × Int × Int) (x : Int) (h1 : 3 ≤ manyQ q x) : stepC e way q x = doneC (mapC e way (ansQ q)) ∧ stepO e way q x = doneO (mapC e way (ansQ q)) Ou.zero (readA x) := by
  unfold stepC stepO
  rw [if_pos h1, if_pos h1]
  exact ⟨rfl, rfl⟩
def Works (w : World) : Prop := Calls Try.prog 48 #[] w fun en w' => en = .returned (.bool true) ∧ Below w.heap.size w w'
set_option maxRecDepth 100000 in
set_option maxHeartbeats 4000000 in
theorem works_is (w : World) : Calls Try.prog 48 #[] w fun en w' => en = .returned (.bool true) ∧ Below w.heap.size w w' := by
  obtain ⟨B, hB⟩ : ∃ x, x = w.heap.size := ⟨_, rfl⟩
  have HB := Lib.hid hB
  go_enter Try.func48, Try.ntmps48
  go_wp2_with fail
  refine Calls.mono (mapped_is 0 w) ?_
  rintro en w1 ⟨p, r1, r2, l, rfl, hN, hC, hb, hp, hr1, hr2⟩
  obtain ⟨g, wa, wq, rfl, hg, _⟩ := hN
  have hS1 : Sys B w1 p 4 (mapC 0 2 (ansQ (-1, -1, -1, -1))) := ⟨r1, r2, by rw [show ansQ (-1, -1, -1, -1) = fun _ => none from ans4_none]; exact hC, by omega, by omega, by omega⟩
  obtain ⟨e3, e4, hb2, hG⟩ := put_note (w := w1) (l := noteL 14 31 (lookW 0).group (lookW 0).epoch (.slice (some ⟨g, 0, none⟩) 1 1) zeroA 0 0) rfl (note_one zeroA_one)
  have HG := Lib.hid (hg.below hb2)
  have HC := Lib.hid (hS1.below hb2)
  have HP : Hid (Stp B w _) := Lib.hid ((Stp.of_below (B := B) hb (by omega)).then hb2 (by omega))
  have HN := Lib.hid hG
  clear hb2 hG hg hS1 hC hb hp hr1 hr2 hB
  go_upto_region 4 with (fail)
  obtain ⟨x2, hx2⟩ : ∃ x, x = w1.heap.size := ⟨_, rfl⟩
  obtain ⟨w2, hw2⟩ : ∃ x, x = (w1.alloc (.cells note0.toArray 81)).setCells w1.heap.size 0 (noteL 14 31 (lookW 0).group (lookW 0).epoch (.slice (some ⟨g, 0, none⟩) 1 1) zeroA 0 0) := ⟨_, rfl⟩
  rw [← hw2] at HG HC HP HN ⊢
  rw [← hx2] at HN ⊢
  clear hw2 hx2 e3 e4
  have HL2 : Hid (B ≤ w2.heap.size) := Lib.hid HC.out.low
  have hZ0 : Below w2.heap.size w2 w2 := Below.refl _ _
  obtain ⟨y0, y1⟩ := note81_at HN.out rfl hZ0
  obtain ⟨y2, y3⟩ := note81_at HN.out rfl (Below.new w2 (.cells out0.toArray 90))
  obtain ⟨y4, y5⟩ := note81_at HN.out rfl (Below.step hZ0.drew (Below.new w2.drew (.cells out0.toArray 90)))
  go_upto_region 4 with (fail)
  go_cut [3, 4] from 15 to 22 (fun v8 v9 wx => TookS B w2 wx p (4 + 2) (stepC 0 2 (set4 0 7 (-1, -1, -1, -1)) 7) (stepO 0 2 (set4 0 7 (-1, -1, -1, -1)) 7) v8 v9)
  case first =>
    go_region_with
      (first
        | (go_at_call 51; go_loud ((with_reducible refine Calls.mono (read_any 7 _ (by decide) (by decide)) ?_); rintro en wd ⟨v, rfl, ⟨da, dc, na, nc, hv, ⟨hX, hXn⟩, hY, hYn⟩, hb⟩; have hv : v = .agg (ansL (readA 7) da dc na nc).toArray := hv; subst hv; have hS : Below w2.heap.size w2 wd := Below.step (by (first | with_reducible exact hZ0 | with_reducible exact Below.drew hZ0 | with_reducible exact Below.step hZ0 (Below.new _ _) | with_reducible exact Below.step (Below.drew hZ0) (Below.new _ _) | with_reducible exact Below.drew (Below.step hZ0 (Below.new _ _)))) hb; obtain ⟨g1, g2⟩ := note81_at HN.out rfl hS; obtain ⟨g3, g4⟩ := note81_at HN.out rfl (Below.step hS (Below.new wd (.cells out0.toArray 90))); obtain ⟨g5, g6⟩ := note81_at HN.out rfl (Below.step hS.drew (Below.new wd.drew (.cells out0.toArray 90))); (first | (have hx8 : Blk wd w2.heap.size out0 90 := Blk.below (Blk.new w2 out0 90) (by with_reducible exact hb)) | (have hx8 : Blk wd w2.heap.size out0 90 := Blk.below (Blk.new w2.drew out0 90) (by with_reducible exact hb)) | (have hx8 : Blk wd w2.heap.size out0 90 := Blk.below (Blk.below (Blk.new w2 out0 90) (Below.refl _ _).drew) (by with_reducible exact hb)) | skip)))
        | (go_at_call 50; go_loud ((with_reducible refine Calls.mono (reply_any 5 14 31 (lookW 0) g wa wq (readA 7) da dc na nc _ ?_) ?_); (refine HG.out.below ?_; (first | with_reducible exact hS | with_reducible exact Below.drew hS | with_reducible exact Below.step hS (Below.new _ _) | with_reducible exact Below.step (Below.drew hS) (Below.new _ _) | with_reducible exact Below.drew (Below.step hS (Below.new _ _)))); rintro en we ⟨rfl, hb2⟩; have hT0 : Below wd.heap.size wd we := Below.step (by (first | with_reducible exact (Below.refl wd.heap.size wd) | with_reducible exact Below.drew (Below.refl wd.heap.size wd) | with_reducible exact Below.step (Below.refl wd.heap.size wd) (Below.new _ _) | with_reducible exact Below.step (Below.drew (Below.refl wd.heap.size wd)) (Below.new _ _) | with_reducible exact Below.drew (Below.step (Below.refl wd.heap.size wd) (Below.new _ _)))) hb2; have hT : Below w2.heap.size w2 we := Below.step hS hT0; have hX' : BL we da (readA 7).data := hX.below hT0; have hY' : IL we na (readA 7).nodes := TL.below hY hT0; (first | (have hx8 := Blk.below hx8 hT0) | (have hx8 : Blk we wd.heap.size out0 90 := Blk.below (Blk.new wd out0 90) (by with_reducible exact hb2)) | (have hx8 : Blk we wd.heap.size out0 90 := Blk.below (Blk.new wd.drew out0 90) (by with_reducible exact hb2)) | (have hx8 : Blk we wd.heap.size out0 90 := Blk.below (Blk.below (Blk.new wd out0 90) (Below.refl _ _).drew) (by with_reducible exact hb2)) | skip)))
        | (go_at_call 52; go_loud ((with_reducible refine Calls.mono (take_mapS B p (4) 0 2 (by decide) (-1, -1, -1, -1) 0 7 5 (by decide) rfl (by decide) da dc na nc _ ?_ ?_ ?_ hXn ?_ hYn) ?_); (omega); (refine Sys.below HC.out ?_; (first | with_reducible exact hT | with_reducible exact Below.drew hT | with_reducible exact Below.step hT (Below.new _ _) | with_reducible exact Below.step (Below.drew hT) (Below.new _ _) | with_reducible exact Below.drew (Below.step hT (Below.new _ _)))); (refine hX'.below ?_; (first | with_reducible exact (Below.refl we.heap.size we) | with_reducible exact Below.drew (Below.refl we.heap.size we) | with_reducible exact Below.step (Below.refl we.heap.size we) (Below.new _ _) | with_reducible exact Below.step (Below.drew (Below.refl we.heap.size we)) (Below.new _ _) | with_reducible exact Below.drew (Below.step (Below.refl we.heap.size we) (Below.new _ _)))); (refine TL.below hY' ?_; (first | with_reducible exact (Below.refl we.heap.size we) | with_reducible exact Below.drew (Below.refl we.heap.size we) | with_reducible exact Below.step (Below.refl we.heap.size we) (Below.new _ _) | with_reducible exact Below.step (Below.drew (Below.refl we.heap.size we)) (Below.new _ _) | with_reducible exact Below.drew (Below.step (Below.refl we.heap.size we) (Below.new _ _)))); rintro en wf ⟨l', rfl, q1, q2, q3⟩; have p3 : Stp B w2 wf := Stp.trans (Stp.of_below (by (first | with_reducible exact hT | with_reducible exact Below.drew hT | with_reducible exact Below.step hT (Below.new _ _) | with_reducible exact Below.step (Below.drew hT) (Below.new _ _) | with_reducible exact Below.drew (Below.step hT (Below.new _ _)))) HL2.out) q3; (first | (have hx8 := q3.blk (Blk.below hx8 (by (first | with_reducible exact (Below.refl we.heap.size we) | with_reducible exact Below.drew (Below.refl we.heap.size we) | with_reducible exact Below.step (Below.refl we.heap.size we) (Below.new _ _) | with_reducible exact Below.step (Below.drew (Below.refl we.heap.size we)) (Below.new _ _) | with_reducible exact Below.drew (Below.step (Below.refl we.heap.size we) (Below.new _ _))))) (by decide)) | (have hx8 : Blk wf we.heap.size out0 90 := q3.blk (Blk.new we out0 90) (by decide)) | (have hx8 : Blk wf we.heap.size out0 90 := q3.blk (Blk.new we.drew out0 90) (by decide)) | (have hx8 : Blk wf we.heap.size out0 90 := q3.blk (Blk.below (Blk.new we out0 90) (Below.refl _ _).drew) (by decide)) | skip); (first | (have m0 := hx8.room (o := 0) (n := 75) (by rw [out0_len]; exact Nat.le_refl _)) | skip); obtain ⟨m1, m2, _⟩ := put_out q2; obtain ⟨m3, _⟩ := put_out (q2.below (Below.refl _ _).drew))))
    all_goals
      have T1 := Lib.hid (tookS_of (Stp.refl _ _) HL2.out q1 q2 p3)
      have T3 := Lib.hid (tookS_of (Stp.refl _ _) HL2.out q1.drw (q2.below (Below.refl _ _).drew) (p3.drw HL2.out))
      (first
        | (have T2 := Lib.hid (tookS_early HL2.out q1 q2 p3 hx8 (by first | exact Nat.le_refl _ | exact hS.size | exact hT.size))
           have T4 := Lib.hid (tookS_early HL2.out q1.drw (q2.below (Below.refl _ _).drew) (p3.drw HL2.out) (hx8.below (Below.refl _ _).drew) (by first | exact Nat.le_refl _ | exact hS.size | exact hT.size)))
        | skip)
      go_wp2_with fail
      go_meet
      first
        | with_reducible exact T1.out
        | with_reducible exact T2.out
        | with_reducible exact T3.out
        | with_reducible exact T4.out
        | with_reducible exact T1.out.drw HL2.out
        | with_reducible exact T2.out.drw HL2.out
  case rest =>
    obtain ⟨x3, l3, rfl, rfl, hG, hV, hC, hS⟩ := hcut
    obtain ⟨w3, hw⟩ : ∃ x, x = wc := ⟨_, rfl⟩
    rw [← hw] at hG hV hC hS ⊢
    clear hw
    rw [show set4 0 7 (-1, -1, -1, -1) = (7, -1, -1, -1) from rfl, (stepC_mid 0 2 (7, -1, -1, -1) 7 (by decide) (by decide)).1] at hC
    rw [show set4 0 7 (-1, -1, -1, -1) = (7, -1, -1, -1) from rfl, (stepC_mid 0 2 (7, -1, -1, -1) 7 (by decide) (by decide)).2] at hV
    have HG3 := Lib.hid (hS.blk HG.out (by decide))
    have HN3 := Lib.hid (hS.blk HN.out (by decide))
    have HP3 := Lib.hid (HP.out.trans hS)
    have HX33 := Lib.hid hG
    have HV33 := Lib.hid hV
    have HC3 := Lib.hid hC
    have HL3 : Hid (B ≤ w3.heap.size) := Lib.hid hC.low
    clear hG hV hC hS y0 y1 y2 y3 y4 y5 hZ0 HL2
    have hZ0 : Below w3.heap.size w3 w3 := Below.refl _ _
    obtain ⟨y0, y1⟩ := note81_at HN3.out rfl hZ0
    obtain ⟨y2, y3⟩ := note81_at HN3.out rfl (Below.new w3 (.cells out0.toArray 90))
    obtain ⟨y4, y5⟩ := note81_at HN3.out rfl (Below.step hZ0.drew (Below.new w3.drew (.cells out0.toArray 90)))
    go_upto_region 5 with (fail)
    go_cut [5, 6] from 23 to 30 (fun v8 v9 wx => TookS B w3 wx p (4 + 2 + 2) (stepC 0 2 (set4 1 7 (7, -1, -1, -1)) 7) (stepO 0 2 (set4 1 7 (7, -1, -1, -1)) 7) v8 v9)
    case first =>
      go_region_with
        (first
          | (go_at_call 51; go_loud ((with_reducible refine Calls.mono (read_any 7 _ (by decide) (by decide)) ?_); rintro en wd ⟨v, rfl, ⟨da, dc, na, nc, hv, ⟨hX, hXn⟩, hY, hYn⟩, hb⟩; have hv : v = .agg (ansL (readA 7) da dc na nc).toArray := hv; subst hv; have hS : Below w3.heap.size w3 wd := Below.step (by (first | with_reducible exact hZ0 | with_reducible exact Below.drew hZ0 | with_reducible exact Below.step hZ0 (Below.new _ _) | with_reducible exact Below.step (Below.drew hZ0) (Below.new _ _) | with_reducible exact Below.drew (Below.step hZ0 (Below.new _ _)))) hb; obtain ⟨g1, g2⟩ := note81_at HN3.out rfl hS; obtain ⟨g3, g4⟩ := note81_at HN3.out rfl (Below.step hS (Below.new wd (.cells out0.toArray 90))); obtain ⟨g5, g6⟩ := note81_at HN3.out rfl (Below.step hS.drew (Below.new wd.drew (.cells out0.toArray 90))); (first | (have hx8 : Blk wd w3.heap.size out0 90 := Blk.below (Blk.new w3 out0 90) (by with_reducible exact hb)) | (have hx8 : Blk wd w3.heap.size out0 90 := Blk.below (Blk.new w3.drew out0 90) (by with_reducible exact hb)) | (have hx8 : Blk wd w3.heap.size out0 90 := Blk.below (Blk.below (Blk.new w3 out0 90) (Below.refl _ _).drew) (by with_reducible exact hb)) | skip)))
          | (go_at_call 50; go_loud ((with_reducible refine Calls.mono (reply_any 6 14 31 (lookW 0) g wa wq (readA 7) da dc na nc _ ?_) ?_); (refine HG3.out.below ?_; (first | with_reducible exact hS | with_reducible exact Below.drew hS | with_reducible exact Below.step hS (Below.new _ _) | with_reducible exact Below.step (Below.drew hS) (Below.new _ _) | with_reducible exact Below.drew (Below.step hS (Below.new _ _)))); rintro en we ⟨rfl, hb2⟩; have hT0 : Below wd.heap.size wd we := Below.step (by (first | with_reducible exact (Below.refl wd.heap.size wd) | with_reducible exact Below.drew (Below.refl wd.heap.size wd) | with_reducible exact Below.step (Below.refl wd.heap.size wd) (Below.new _ _) | with_reducible exact Below.step (Below.drew (Below.refl wd.heap.size wd)) (Below.new _ _) | with_reducible exact Below.drew (Below.step (Below.refl wd.heap.size wd) (Below.new _ _)))) hb2; have hT : Below w3.heap.size w3 we := Below.step hS hT0; have hX' : BL we da (readA 7).data := hX.below hT0; have hY' : IL we na (readA 7).nodes := TL.below hY hT0; (first | (have hx8 := Blk.below hx8 hT0) | (have hx8 : Blk we wd.heap.size out0 90 := Blk.below (Blk.new wd out0 90) (by with_reducible exact hb2)) | (have hx8 : Blk we wd.heap.size out0 90 := Blk.below (Blk.new wd.drew out0 90) (by with_reducible exact hb2)) | (have hx8 : Blk we wd.heap.size out0 90 := Blk.below (Blk.below (Blk.new wd out0 90) (Below.refl _ _).drew) (by with_reducible exact hb2)) | skip)))
          | (go_at_call 52; go_loud ((with_reducible refine Calls.mono (take_mapS B p (4 + 2) 0 2 (by decide) (7, -1, -1, -1) 1 7 6 (by decide) rfl (by decide) da dc na nc _ ?_ ?_ ?_ hXn ?_ hYn) ?_); (omega); (refine Sys.below HC3.out ?_; (first | with_reducible exact hT | with_reducible exact Below.drew hT | with_reducible exact Below.step hT (Below.new _ _) | with_reducible exact Below.step (Below.drew hT) (Below.new _ _) | with_reducible exact Below.drew (Below.step hT (Below.new _ _)))); (refine hX'.below ?_; (first | with_reducible exact (Below.refl we.heap.size we) | with_reducible exact Below.drew (Below.refl we.heap.size we) | with_reducible exact Below.step (Below.refl we.heap.size we) (Below.new _ _) | with_reducible exact Below.step (Below.drew (Below.refl we.heap.size we)) (Below.new _ _) | with_reducible exact Below.drew (Below.step (Below.refl we.heap.size we) (Below.new _ _)))); (refine TL.below hY' ?_; (first | with_reducible exact (Below.refl we.heap.size we) | with_reducible exact Below.drew (Below.refl we.heap.size we) | with_reducible exact Below.step (Below.refl we.heap.size we) (Below.new _ _) | with_reducible exact Below.step (Below.drew (Below.refl we.heap.size we)) (Below.new _ _) | with_reducible exact Below.drew (Below.step (Below.refl we.heap.size we) (Below.new _ _)))); rintro en wf ⟨l', rfl, q1, q2, q3⟩; have p3 : Stp B w3 wf := Stp.trans (Stp.of_below (by (first | with_reducible exact hT | with_reducible exact Below.drew hT | with_reducible exact Below.step hT (Below.new _ _) | with_reducible exact Below.step (Below.drew hT) (Below.new _ _) | with_reducible exact Below.drew (Below.step hT (Below.new _ _)))) HL3.out) q3; (first | (have hx8 := q3.blk (Blk.below hx8 (by (first | with_reducible exact (Below.refl we.heap.size we) | with_reducible exact Below.drew (Below.refl we.heap.size we) | with_reducible exact Below.step (Below.refl we.heap.size we) (Below.new _ _) | with_reducible exact Below.step (Below.drew (Below.refl we.heap.size we)) (Below.new _ _) | with_reducible exact Below.drew (Below.step (Below.refl we.heap.size we) (Below.new _ _))))) (by decide)) | (have hx8 : Blk wf we.heap.size out0 90 := q3.blk (Blk.new we out0 90) (by decide)) | (have hx8 : Blk wf we.heap.size out0 90 := q3.blk (Blk.new we.drew out0 90) (by decide)) | (have hx8 : Blk wf we.heap.size out0 90 := q3.blk (Blk.below (Blk.new we out0 90) (Below.refl _ _).drew) (by decide)) | skip); (first | (have m0 := hx8.room (o := 0) (n := 75) (by rw [out0_len]; exact Nat.le_refl _)) | skip); obtain ⟨m1, m2, _⟩ := put_out q2; obtain ⟨m3, _⟩ := put_out (q2.below (Below.refl _ _).drew))))
      all_goals
        have T1 := Lib.hid (tookS_of (Stp.refl _ _) HL3.out q1 q2 p3)
        have T3 := Lib.hid (tookS_of (Stp.refl _ _) HL3.out q1.drw (q2.below (Below.refl _ _).drew) (p3.drw HL3.out))
        (first
          | (have T2 := Lib.hid (tookS_early HL3.out q1 q2 p3 hx8 (by first | exact Nat.le_refl _ | exact hS.size | exact hT.size))
             have T4 := Lib.hid (tookS_early HL3.out q1.drw (q2.below (Below.refl _ _).drew) (p3.drw HL3.out) (hx8.below (Below.refl _ _).drew) (by first | exact Nat.le_refl _ | exact hS.size | exact hT.size)))
          | skip)
        go_wp2_with fail
        go_meet
        first
          | with_reducible exact T1.out
          | with_reducible exact T2.out
          | with_reducible exact T3.out
          | with_reducible exact T4.out
          | with_reducible exact T1.out.drw HL3.out
          | with_reducible exact T2.out.drw HL3.out
    case rest =>
      obtain ⟨x4, l4, rfl, rfl, hG, hV, hC, hS⟩ := hcut
      obtain ⟨w4, hw⟩ : ∃ x, x = wc := ⟨_, rfl⟩
      rw [← hw] at hG hV hC hS ⊢
      clear hw
      rw [show set4 1 7 (7, -1, -1, -1) = (7, 7, -1, -1) from rfl, (stepC_mid 0 2 (7, 7, -1, -1) 7 (by decide) (by decide)).1] at hC
      rw [show set4 1 7 (7, -1, -1, -1) = (7, 7, -1, -1) from rfl, (stepC_mid 0 2 (7, 7, -1, -1) 7 (by decide) (by decide)).2] at hV
      have HG4 := Lib.hid (hS.blk HG3.out (by decide))
      have HN4 := Lib.hid (hS.blk HN3.out (by decide))
      have HP4 := Lib.hid (HP3.out.trans hS)
      have HX34 := Lib.hid (hS.blk HX33.out (by decide))
      have HV34 := Lib.hid (hS.outv HV33.out)
      have HX44 := Lib.hid hG
      have HV44 := Lib.hid hV
      have HC4 := Lib.hid hC
      have HL4 : Hid (B ≤ w4.heap.size) := Lib.hid hC.low
      clear hG hV hC hS y0 y1 y2 y3 y4 y5 hZ0 HL3
      have hZ0 : Below w4.heap.size w4 w4 := Below.refl _ _
      obtain ⟨y0, y1⟩ := note81_at HN4.out rfl hZ0
      obtain ⟨y2, y3⟩ := note81_at HN4.out rfl (Below.new w4 (.cells out0.toArray 90))
      obtain ⟨y4, y5⟩ := note81_at HN4.out rfl (Below.step hZ0.drew (Below.new w4.drew (.cells out0.toArray 90)))
      go_upto_region 6 with (fail)
      go_cut [7, 8] from 31 to 38 (fun v8 v9 wx => TookS B w4 wx p (4 + 2 + 2 + 2) (stepC 0 2 (set4 2 7 (7, 7, -1, -1)) 7) (stepO 0 2 (set4 2 7 (7, 7, -1, -1)) 7) v8 v9)
      case first =>
        go_region_with
          (first
            | (go_at_call 51; go_loud ((with_reducible refine Calls.mono (read_any 7 _ (by decide) (by decide)) ?_); rintro en wd ⟨v, rfl, ⟨da, dc, na, nc, hv, ⟨hX, hXn⟩, hY, hYn⟩, hb⟩; have hv : v = .agg (ansL (readA 7) da dc na nc).toArray := hv; subst hv; have hS : Below w4.heap.size w4 wd := Below.step (by (first | with_reducible exact hZ0 | with_reducible exact Below.drew hZ0 | with_reducible exact Below.step hZ0 (Below.new _ _) | with_reducible exact Below.step (Below.drew hZ0) (Below.new _ _) | with_reducible exact Below.drew (Below.step hZ0 (Below.new _ _)))) hb; obtain ⟨g1, g2⟩ := note81_at HN4.out rfl hS; obtain ⟨g3, g4⟩ := note81_at HN4.out rfl (Below.step hS (Below.new wd (.cells out0.toArray 90))); obtain ⟨g5, g6⟩ := note81_at HN4.out rfl (Below.step hS.drew (Below.new wd.drew (.cells out0.toArray 90))); (first | (have hx8 : Blk wd w4.heap.size out0 90 := Blk.below (Blk.new w4 out0 90) (by with_reducible exact hb)) | (have hx8 : Blk wd w4.heap.size out0 90 := Blk.below (Blk.new w4.drew out0 90) (by with_reducible exact hb)) | (have hx8 : Blk wd w4.heap.size out0 90 := Blk.below (Blk.below (Blk.new w4 out0 90) (Below.refl _ _).drew) (by with_reducible exact hb)) | skip)))
            | (go_at_call 50; go_loud ((with_reducible refine Calls.mono (reply_any 7 14 31 (lookW 0) g wa wq (readA 7) da dc na nc _ ?_) ?_); (refine HG4.out.below ?_; (first | with_reducible exact hS | with_reducible exact Below.drew hS | with_reducible exact Below.step hS (Below.new _ _) | with_reducible exact Below.step (Below.drew hS) (Below.new _ _) | with_reducible exact Below.drew (Below.step hS (Below.new _ _)))); rintro en we ⟨rfl, hb2⟩; have hT0 : Below wd.heap.size wd we := Below.step (by (first | with_reducible exact (Below.refl wd.heap.size wd) | with_reducible exact Below.drew (Below.refl wd.heap.size wd) | with_reducible exact Below.step (Below.refl wd.heap.size wd) (Below.new _ _) | with_reducible exact Below.step (Below.drew (Below.refl wd.heap.size wd)) (Below.new _ _) | with_reducible exact Below.drew (Below.step (Below.refl wd.heap.size wd) (Below.new _ _)))) hb2; have hT : Below w4.heap.size w4 we := Below.step hS hT0; have hX' : BL we da (readA 7).data := hX.below hT0; have hY' : IL we na (readA 7).nodes := TL.below hY hT0; (first | (have hx8 := Blk.below hx8 hT0) | (have hx8 : Blk we wd.heap.size out0 90 := Blk.below (Blk.new wd out0 90) (by with_reducible exact hb2)) | (have hx8 : Blk we wd.heap.size out0 90 := Blk.below (Blk.new wd.drew out0 90) (by with_reducible exact hb2)) | (have hx8 : Blk we wd.heap.size out0 90 := Blk.below (Blk.below (Blk.new wd out0 90) (Below.refl _ _).drew) (by with_reducible exact hb2)) | skip)))
            | (go_at_call 52; go_loud ((with_reducible refine Calls.mono (take_mapS B p (4 + 2 + 2) 0 2 (by decide) (7, 7, -1, -1) 2 7 7 (by decide) rfl (by decide) da dc na nc _ ?_ ?_ ?_ hXn ?_ hYn) ?_); (omega); (refine Sys.below HC4.out ?_; (first | with_reducible exact hT | with_reducible exact Below.drew hT | with_reducible exact Below.step hT (Below.new _ _) | with_reducible exact Below.step (Below.drew hT) (Below.new _ _) | with_reducible exact Below.drew (Below.step hT (Below.new _ _)))); (refine hX'.below ?_; (first | with_reducible exact (Below.refl we.heap.size we) | with_reducible exact Below.drew (Below.refl we.heap.size we) | with_reducible exact Below.step (Below.refl we.heap.size we) (Below.new _ _) | with_reducible exact Below.step (Below.drew (Below.refl we.heap.size we)) (Below.new _ _) | with_reducible exact Below.drew (Below.step (Below.refl we.heap.size we) (Below.new _ _)))); (refine TL.below hY' ?_; (first | with_reducible exact (Below.refl we.heap.size we) | with_reducible exact Below.drew (Below.refl we.heap.size we) | with_reducible exact Below.step (Below.refl we.heap.size we) (Below.new _ _) | with_reducible exact Below.step (Below.drew (Below.refl we.heap.size we)) (Below.new _ _) | with_reducible exact Below.drew (Below.step (Below.refl we.heap.size we) (Below.new _ _)))); rintro en wf ⟨l', rfl, q1, q2, q3⟩; have p3 : Stp B w4 wf := Stp.trans (Stp.of_below (by (first | with_reducible exact hT | with_reducible exact Below.drew hT | with_reducible exact Below.step hT (Below.new _ _) | with_reducible exact Below.step (Below.drew hT) (Below.new _ _) | with_reducible exact Below.drew (Below.step hT (Below.new _ _)))) HL4.out) q3; (first | (have hx8 := q3.blk (Blk.below hx8 (by (first | with_reducible exact (Below.refl we.heap.size we) | with_reducible exact Below.drew (Below.refl we.heap.size we) | with_reducible exact Below.step (Below.refl we.heap.size we) (Below.new _ _) | with_reducible exact Below.step (Below.drew (Below.refl we.heap.size we)) (Below.new _ _) | with_reducible exact Below.drew (Below.step (Below.refl we.heap.size we) (Below.new _ _))))) (by decide)) | (have hx8 : Blk wf we.heap.size out0 90 := q3.blk (Blk.new we out0 90) (by decide)) | (have hx8 : Blk wf we.heap.size out0 90 := q3.blk (Blk.new we.drew out0 90) (by decide)) | (have hx8 : Blk wf we.heap.size out0 90 := q3.blk (Blk.below (Blk.new we out0 90) (Below.refl _ _).drew) (by decide)) | skip); (first | (have m0 := hx8.room (o := 0) (n := 75) (by rw [out0_len]; exact Nat.le_refl _)) | skip); obtain ⟨m1, m2, _⟩ := put_out q2; obtain ⟨m3, _⟩ := put_out (q2.below (Below.refl _ _).drew))))
        all_goals
          have T1 := Lib.hid (tookS_of (Stp.refl _ _) HL4.out q1 q2 p3)
          have T3 := Lib.hid (tookS_of (Stp.refl _ _) HL4.out q1.drw (q2.below (Below.refl _ _).drew) (p3.drw HL4.out))
          (first
            | (have T2 := Lib.hid (tookS_early HL4.out q1 q2 p3 hx8 (by first | exact Nat.le_refl _ | exact hS.size | exact hT.size))
               have T4 := Lib.hid (tookS_early HL4.out q1.drw (q2.below (Below.refl _ _).drew) (p3.drw HL4.out) (hx8.below (Below.refl _ _).drew) (by first | exact Nat.le_refl _ | exact hS.size | exact hT.size)))
            | skip)
          go_wp2_with fail
          go_meet
          first
            | with_reducible exact T1.out
            | with_reducible exact T2.out
            | with_reducible exact T3.out
            | with_reducible exact T4.out
            | with_reducible exact T1.out.drw HL4.out
            | with_reducible exact T2.out.drw HL4.out
      case rest =>
        obtain ⟨x5, l5, rfl, rfl, hG, hV, hC, hS⟩ := hcut
        obtain ⟨w5, hw⟩ : ∃ x, x = wc := ⟨_, rfl⟩
        rw [← hw] at hG hV hC hS ⊢
        clear hw
        rw [show set4 2 7 (7, 7, -1, -1) = (7, 7, 7, -1) from rfl, (stepC_end 0 2 (7, 7, 7, -1) 7 (by decide)).1] at hC
        rw [show set4 2 7 (7, 7, -1, -1) = (7, 7, 7, -1) from rfl, (stepC_end 0 2 (7, 7, 7, -1) 7 (by decide)).2] at hV
        have HG5 := Lib.hid (hS.blk HG4.out (by decide))
        have HN5 := Lib.hid (hS.blk HN4.out (by decide))
        have HP5 := Lib.hid (HP4.out.trans hS)
        have HX35 := Lib.hid (hS.blk HX34.out (by decide))
        have HV35 := Lib.hid (hS.outv HV34.out)
        have HX45 := Lib.hid (hS.blk HX44.out (by decide))
        have HV45 := Lib.hid (hS.outv HV44.out)
        have HX55 := Lib.hid hG
        have HV55 := Lib.hid hV
        have HC5 := Lib.hid hC
        have HL5 : Hid (B ≤ w5.heap.size) := Lib.hid hC.low
        clear hG hV hC hS y0 y1 y2 y3 y4 y5 hZ0 HL4
        obtain ⟨da0, dc0, na0, nc0, ⟨P60, P62, P66, _, _⟩, ⟨P71, P72, P73, P74⟩, hX0, hY0⟩ := HV55.out.parts
        have KX := HX55.out
        obtain ⟨r1', r2', hCl, _⟩ := HC5.out
        have HCl := Lib.hid hCl
        have HX0 := Lib.hid hX0
        have HY0 := Lib.hid hY0
        have hQ0 : Below w5.heap.size w5 w5 := Below.refl _ _
        obtain ⟨g1, g2⟩ := out_at HX35.out HV35.out.len hQ0
        have HKX := Lib.hid KX
        have HPP : Hid (l5[60]? = some (.bool true) ∧ l5[62]? = some (.int .i64 1) ∧ l5[66]? = some (.int .i64 3) ∧ l5[71]? = some (.int .i64 0) ∧ l5[72]? = some (.slice da0 1 dc0) ∧ l5[73]? = some (.int .i64 0) ∧ l5[74]? = some (.slice na0 0 nc0)) := Lib.hid ⟨P60, P62, P66, P71, P72, P73, P74⟩
        clear hCl hX0 hY0 KX P60 P62 P66 P71 P72 P73 P74
        go_upto_region 7 with (fail)
        go_region_with
          (first
            | (go_at_call 53; go_loud ((with_reducible refine Calls.mono (quiet_is l3 Ou.zero _ ?_ rfl rfl rfl) ?_); (refine HV35.out.below ?_; (first | with_reducible exact hQ0 | with_reducible exact Below.drew hQ0 | with_reducible exact Below.step hQ0 (Below.new _ _) | with_reducible exact Below.step (Below.drew hQ0) (Below.new _ _) | with_reducible exact Below.drew (Below.step hQ0 (Below.new _ _)))); rintro en wd ⟨rfl, hb⟩; have hS : Below w5.heap.size w5 wd := Below.step (by (first | with_reducible exact hQ0 | with_reducible exact Below.drew hQ0 | with_reducible exact Below.step hQ0 (Below.new _ _) | with_reducible exact Below.step (Below.drew hQ0) (Below.new _ _) | with_reducible exact Below.drew (Below.step hQ0 (Below.new _ _)))) hb; obtain ⟨g3, g4⟩ := out_at HX45.out HV45.out.len hS))
            | (go_at_call 53; go_loud ((with_reducible refine Calls.mono (quiet_is l4 Ou.zero _ ?_ rfl rfl rfl) ?_); (refine HV45.out.below ?_; (first | with_reducible exact hS | with_reducible exact Below.drew hS | with_reducible exact Below.step hS (Below.new _ _) | with_reducible exact Below.step (Below.drew hS) (Below.new _ _) | with_reducible exact Below.drew (Below.step hS (Below.new _ _)))); rintro en we ⟨rfl, hb2⟩; have hT : Below w5.heap.size w5 we := Below.step (by (first | with_reducible exact hS | with_reducible exact Below.drew hS | with_reducible exact Below.step hS (Below.new _ _) | with_reducible exact Below.step (Below.drew hS) (Below.new _ _) | with_reducible exact Below.drew (Below.step hS (Below.new _ _)))) hb2; obtain ⟨k60, k62, k66, k71, k72, k73, k74⟩ := cells7 HKX.out HPP.out hT))
            | (go_at_call 51; go_loud ((with_reducible refine Calls.mono (read_any 7 _ (by decide) (by decide)) ?_); rintro en wf ⟨v, rfl, ⟨da, dc, na, nc, hv, ⟨hX, hXn⟩, hY, hYn⟩, hb3⟩; have hv : v = .agg #[.int .i64 0, .slice da 1 dc, .int .i64 0, .slice na 0 nc] := hv; subst hv; have hU : Below w5.heap.size w5 wf := Below.step (by (first | with_reducible exact hT | with_reducible exact Below.drew hT | with_reducible exact Below.step hT (Below.new _ _) | with_reducible exact Below.step (Below.drew hT) (Below.new _ _) | with_reducible exact Below.drew (Below.step hT (Below.new _ _)))) hb3; obtain ⟨j60, j62, j66, j71, j72, j73, j74⟩ := cells7 HKX.out HPP.out hU))
            | (go_at_call 54; go_loud ((with_reducible refine Calls.mono (sameRead_is 7 da0 dc0 na0 nc0 da dc na nc _ ?_ ?_ ?_ ?_) ?_); (refine HX0.out.below ?_; (first | with_reducible exact hU | with_reducible exact Below.drew hU | with_reducible exact Below.step hU (Below.new _ _) | with_reducible exact Below.step (Below.drew hU) (Below.new _ _) | with_reducible exact Below.drew (Below.step hU (Below.new _ _)))); (refine TL.below HY0.out ?_; (first | with_reducible exact hU | with_reducible exact Below.drew hU | with_reducible exact Below.step hU (Below.new _ _) | with_reducible exact Below.step (Below.drew hU) (Below.new _ _) | with_reducible exact Below.drew (Below.step hU (Below.new _ _)))); (refine BL.below hX ?_; (first | with_reducible exact (Below.refl wf.heap.size wf) | with_reducible exact Below.drew (Below.refl wf.heap.size wf) | with_reducible exact Below.step (Below.refl wf.heap.size wf) (Below.new _ _) | with_reducible exact Below.step (Below.drew (Below.refl wf.heap.size wf)) (Below.new _ _) | with_reducible exact Below.drew (Below.step (Below.refl wf.heap.size wf) (Below.new _ _)))); (refine TL.below hY ?_; (first | with_reducible exact (Below.refl wf.heap.size wf) | with_reducible exact Below.drew (Below.refl wf.heap.size wf) | with_reducible exact Below.step (Below.refl wf.heap.size wf) (Below.new _ _) | with_reducible exact Below.step (Below.drew (Below.refl wf.heap.size wf)) (Below.new _ _) | with_reducible exact Below.drew (Below.step (Below.refl wf.heap.size wf) (Below.new _ _)))); rintro en wg ⟨rfl, hb4⟩; have hV : Below w5.heap.size w5 wg := Below.step (by (first | with_reducible exact hU | with_reducible exact Below.drew hU | with_reducible exact Below.step hU (Below.new _ _) | with_reducible exact Below.step (Below.drew hU) (Below.new _ _) | with_reducible exact Below.drew (Below.step hU (Below.new _ _)))) hb4; obtain ⟨i60, i62, i66, i71, i72, i73, i74⟩ := cells7 HKX.out HPP.out hV))
            | (go_at_call 60; go_loud ((with_reducible refine Calls.mono (busy_is p r1' r2' _ _ _ (HCl.out.below (by (first | with_reducible exact hV | with_reducible exact Below.drew hV | with_reducible exact Below.step hV (Below.new _ _) | with_reducible exact Below.step (Below.drew hV) (Below.new _ _) | with_reducible exact Below.drew (Below.step hV (Below.new _ _)))))) ?_); rintro en wh ⟨rfl, rfl⟩)))
        all_goals
          have HZ : Hid (Below w.heap.size w wg) := Lib.hid (HB.out ▸ (HP5.out.low.trans (hV.mono HL5.out)))
          clear hV
          go_wp2_with fail
          go_ret
          first
            | exact ⟨rfl, HZ.out⟩
            | exact ⟨rfl, HZ.out.drew⟩
end Go.Proofs.Ytldcpnabgpjgiaa.Walks
