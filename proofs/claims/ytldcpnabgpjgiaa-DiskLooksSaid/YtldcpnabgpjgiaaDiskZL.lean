/-
  The walk of the law DiskLooks.
-/
import Derived.Test.YtldcpnabgpjgiaaDiskZH
namespace Go.Proofs.Ytldcpnabgpjgiaa.Walks
open Go.RowKit Plain
set_option linter.unusedVariables false
attribute [local go_sem] isPV_mk adV_mk cells_agg cells_agg' held_drew room_drew cellsAt_drew isA4_mk isSl_mk isI_mk intOf_mk
attribute [local go_sem ↓] exec_load88 exec_store88 exec_load81 exec_store81 exec_load90 exec_store90 Go.wp_at_zero Go.wp_at_succ exec_alloc81 exec_build81r exec_build81s exec_bs69 exec_alloc90 exec_build90n
attribute [local irreducible] out0

/-- All that k answers can be. -/
def Dk : Nat → List (Int × Int × Int × Int)
  | 0 => [(-1, -1, -1, -1)]
  | k + 1 => (Dk k).flatMap fun q => [0, 1, 2, 3].map fun x => set4 k x q
theorem look_plain : ∀ k ∈ [(0 : Int), 1, 2, 3], ∀ q ∈ Dk k.toNat, ∀ x ∈ [(0 : Int), 1, 2, 3], set4 k x q ∈ Dk (k.toNat + 1) ∧ (∀ j ∈ [(0 : Int), 1, 2, 3], manyQ (set4 k x q) j = manyQ q j + if j = x then 1 else 0) ∧
    bestQ (set4 k x q) = max (manyQ (set4 k x q) 0) (max (manyQ (set4 k x q) 1) (max (manyQ (set4 k x q) 2) (manyQ (set4 k x q) 3))) ∧
    (bestQ q < 3 → (3 ≤ bestQ (set4 k x q) ↔ 3 ≤ manyQ (set4 k x q) x)) ∧ ((bestQ (set4 k x q) : Int) < k ↔ oddQ (set4 k x q) = true) ∧ bestQ (set4 k x q) ≤ 4 := by
  decide +kernel
theorem look_rest : ∀ k ∈ [0, 1, 2, 3], ∀ q ∈ Dk k, ∀ j ∈ [(0 : Int), 1, 2, 3], manyQ q j ≤ 4 := by decide +kernel
theorem mx (a b : Int) : (if b > a then b else a) = max a b := by omega
theorem run_max4 (ats : Array TypeId) (ty : TypeId) (a b c d : Int) (w : World) : (Builtin.max_ ats ty #[.int .i64 a, .int .i64 b, .int .i64 c, .int .i64 d]).run Try.prog w = .ok (.int .i64 (max (max (max a b) c) d)) w := by
  simp only [Builtin.max_, List.foldlM, Builtin.max2, Sem.run_bind, Sem.run_pure, Result.andThen_ok, mx]
attribute [local go_sem] run_max4
def Many (w : World) (x : Nat) (q : Int × Int × Int × Int) : Prop := Blk w x [.int .i64 (manyQ q 0 : Nat), .int .i64 (manyQ q 1 : Nat), .int .i64 (manyQ q 2 : Nat), .int .i64 (manyQ q 3 : Nat)] 57
theorem many_cell {w : World} {xm : Nat} {q : Int × Int × Int × Int} {x : Int} (h : Many w xm q) (hx : 0 ≤ x ∧ x < 4) : w.cell? ⟨xm, x.toNat, none⟩ = some (.int .i64 (manyQ q x : Nat)) := by
  rcases in4 hx with rfl | rfl | rfl | rfl
  · exact Blk.cell (i := 0) h rfl
  · exact Blk.cell (i := 1) h rfl
  · exact Blk.cell (i := 2) h rfl
  · exact Blk.cell (i := 3) h rfl
theorem many_set {w : World} {xm : Nat} {q q' : Int × Int × Int × Int} {x : Int} (h : Many w xm q) (hx : 0 ≤ x ∧ x < 4) (hj : ∀ j ∈ [(0 : Int), 1, 2, 3], manyQ q' j = manyQ q j + if j = x then 1 else 0) :
    Many (w.setCell ⟨xm, x.toNat, none⟩ (.int .i64 ((manyQ q x : Nat) + 1))) xm q' := by
  have h0 := hj 0 (by simp)
  have h1 := hj 1 (by simp)
  have h2 := hj 2 (by simp)
  have h3 := hj 3 (by simp)
  rcases in4 hx with rfl | rfl | rfl | rfl
  · have := Blk.set h 0 (.int .i64 ((manyQ q 0 : Nat) + 1))
    unfold Many; rw [h0, h1, h2, h3]; exact this
  · have := Blk.set h 1 (.int .i64 ((manyQ q 1 : Nat) + 1))
    unfold Many; rw [h0, h1, h2, h3]; exact this
  · have := Blk.set h 2 (.int .i64 ((manyQ q 2 : Nat) + 1))
    unfold Many; rw [h0, h1, h2, h3]; exact this
  · have := Blk.set h 3 (.int .i64 ((manyQ q 3 : Nat) + 1))
    unfold Many; rw [h0, h1, h2, h3]; exact this
set_option maxRecDepth 100000 in
set_option maxHeartbeats 40000000 in
theorem diskLooks_walk (a0 a1 a2 a3 : Int) (w : World) : Calls Try.prog 10 #[.agg #[.int .i64 a0, .int .i64 a1, .int .i64 a2, .int .i64 a3]] w fun e w' => e = .returned (.bool true) ∧ Below w.heap.size w w' := by
  go_enter Try.func10, Try.ntmps10
  go_wp2_with fail
  obtain ⟨w0, hw0⟩ : ∃ x, x = w.alloc (.cells #[.int .i64 a0, .int .i64 a1, .int .i64 a2, .int .i64 a3] 57) := ⟨_, rfl⟩
  have hA : Blk w0 w.heap.size [.int .i64 a0, .int .i64 a1, .int .i64 a2, .int .i64 a3] 57 := by rw [hw0]; exact Blk.new _ _ _
  have hb : Below w.heap.size w w0 := by rw [hw0]; exact Below.new _ _
  rw [← hw0]
  clear hw0
  refine Calls.mono (works_is w0) ?_
  rintro en w1 ⟨rfl, hb1⟩
  have HA := Lib.hid (hA.below hb1)
  have HB1 := Lib.hid (Below.step hb hb1)
  clear hb hb1 hA
  go_wp2_with fail
  refine Calls.mono (mapped_is 1 w1) ?_
  rintro en w2 ⟨p, r1, r2, l, rfl, hN, hC, hb, hp, hr1, hr2⟩
  obtain ⟨g, wa, wq, rfl, hg, _⟩ := hN
  have hz := HB1.out.size
  have hS1 : Sys w.heap.size w2 p 4 (mapC 1 2 (ansQ (-1, -1, -1, -1))) := ⟨r1, r2, by rw [show ansQ (-1, -1, -1, -1) = fun _ => none from ans4_none]; exact hC, by omega, by omega, by omega⟩
  obtain ⟨e3, e4, hb2, hG⟩ := put_note (w := w2) (l := noteL 14 31 (lookW 1).group (lookW 1).epoch (.slice (some ⟨g, 0, none⟩) 1 1) zeroA 0 0) rfl (note_one zeroA_one)
  have HG := Lib.hid (hg.below hb2)
  have HC := Lib.hid (hS1.below hb2)
  have HP : Hid (Stp w.heap.size w _) := Lib.hid ((Stp.of_below (Below.step HB1.out hb) (Nat.le_refl _)).then hb2 (Nat.le_refl _))
  have HN := Lib.hid hG
  have HA2 := Lib.hid ((HA.out.below hb).below hb2)
  clear hb2 hG hg hS1 hC hb hp hr1 hr2 hz
  go_upto_region 4 with (fail)
  obtain ⟨x2, hx2⟩ : ∃ x, x = w2.heap.size := ⟨_, rfl⟩
  obtain ⟨w3, hw3⟩ : ∃ x, x = (w2.alloc (.cells note0.toArray 81)).setCells w2.heap.size 0 (noteL 14 31 (lookW 1).group (lookW 1).epoch (.slice (some ⟨g, 0, none⟩) 1 1) zeroA 0 0) := ⟨_, rfl⟩
  rw [← hw3] at HG HC HP HN HA2 ⊢
  rw [← hx2] at HN ⊢
  clear hw3 hx2 e3 e4
  go_wp2_with fail
  -- the loop
  have hM := Blk.new w3 [.int .i64 0, .int .i64 0, .int .i64 0, .int .i64 0] 57
  have hb := Below.new w3 (.cells #[.int .i64 0, .int .i64 0, .int .i64 0, .int .i64 0] 57)
  have HP4 := Lib.hid (HP.out.then hb (Nat.le_refl _))
  have HC4 := Lib.hid (HC.out.below hb)
  have HG4 := Lib.hid (HG.out.below hb)
  have HN4 := Lib.hid (HN.out.below hb)
  have HA4 := Lib.hid (HA2.out.below hb)
  have HM4 : Hid (Many _ w3.heap.size (-1, -1, -1, -1)) := Lib.hid hM
  obtain ⟨w4, hw4⟩ : ∃ x, x = w3.alloc (.cells #[.int .i64 0, .int .i64 0, .int .i64 0, .int .i64 0] 57) := ⟨_, rfl⟩
  obtain ⟨xm, hxm⟩ : ∃ x, x = w3.heap.size := ⟨_, rfl⟩
  have hm0 : w.heap.size < xm ∧ g < xm ∧ x2 < xm := by have := HG.out.lt; have := HN.out.lt; have := HA2.out.lt; omega
  have HM0 := Lib.hid hm0
  rw [← hxm] at HM4 ⊢
  rw [show ((w3.alloc (.cells [.int .i64 0, .int .i64 0, .int .i64 0, .int .i64 0].toArray 57))) = w4 from hw4.symm] at HM4
  rw [← hw4] at HP4 HC4 HG4 HN4 HA4 ⊢
  clear hw4 hxm hM hb hm0 HP HC HG HN HA2
  go_loopw [6] (fun iv wr => ∃ (k : Nat) (q : Int × Int × Int × Int), k ≤ 3 ∧ iv = .int .i64 k ∧ Hid (q ∈ Dk k ∧ bestQ q < 3) ∧ Hid (Many wr xm q) ∧ Hid (Sys w.heap.size wr p (4 + 2 * k) (mapC 1 2 (ansQ q))) ∧ Hid (Blk wr g (wishL (lookW 1) wa wq) 88) ∧ Hid (Blk wr x2 (noteL 14 31 (lookW 1).group (lookW 1).epoch (.slice (some ⟨g, 0, none⟩) 1 1) zeroA 0 0) 81) ∧ Hid (Blk wr w.heap.size [.int .i64 a0, .int .i64 a1, .int .i64 a2, .int .i64 a3] 57) ∧ Hid (Below w.heap.size w wr)) (fun iv _ => 4 - (intOf iv).toNat)
  case atStart => exact ⟨0, (-1, -1, -1, -1), by omega, rfl, Lib.hid ⟨by decide, by decide⟩, HM4, HC4, HG4, HN4, HA4, Lib.hid HP4.out.low⟩
  case round =>
    obtain ⟨k, q, hk, rfl, HQ, HM, HC, HG, HN, HA, HB⟩ := hrel
    have hk4 : k = 0 ∨ k = 1 ∨ k = 2 ∨ k = 3 := by omega
    rcases hk4 with rfl | rfl | rfl | rfl
    · have ca := HA.out.cell (i := 0) rfl
      go_wp2_with fail
      obtain ⟨x, hx⟩ : ∃ x, x = bringI a0 4 := ⟨_, rfl⟩
      have hx4 : 0 ≤ x ∧ x < 4 := by rw [hx]; exact bring4' _
      refine Calls.mono (bring_any a0 4 _ (by decide) (by decide)) ?_
      rintro en wq1 ⟨rfl, rfl⟩
      rw [← hx]
      clear hx
      obtain ⟨L1, L2, L3, L4, L5, L6⟩ := look_plain 0 (by decide) q HQ.out.1 x (mem4 hx4)
      obtain ⟨q', hq'⟩ : ∃ z, z = set4 0 x q := ⟨_, rfl⟩
      rw [← hq'] at L1 L2 L3 L4 L5 L6
      have hbm : max ((manyQ q' 0 : Nat) : Int) (max ((manyQ q' 1 : Nat) : Int) (max ((manyQ q' 2 : Nat) : Int) ((manyQ q' 3 : Nat) : Int))) = (bestQ q' : Nat) := by rw [L3]; omega
      have HBM := Lib.hid hbm
      have HLK : Hid (q' ∈ Dk (0 + 1) ∧ (3 ≤ bestQ q' ↔ 3 ≤ manyQ q' x) ∧ ((bestQ q' : Int) < 0 ↔ oddQ q' = true) ∧ bestQ q' ≤ 4) := Lib.hid ⟨L1, L4 HQ.out.2, L5, L6⟩
      have cm := many_cell HM.out hx4
      have fm := HM.out.free x.toNat
      have hm5 : manyQ q x ≤ 4 := look_rest 0 (by decide) q HQ.out.1 x (mem4 hx4)
      have hw1 : IntKind.i64.wrap ((manyQ q x : Nat) + 1) = (manyQ q x : Nat) + 1 := IntWalk.i64_in _ (by omega)
      have HM' := Lib.hid (many_set HM.out hx4 L2)
      have hx0 : 0 ≤ x := hx4.1
      have hx3 : x < 4 := hx4.2
      have hwu : IntKind.u8.wrap x = x := by rcases in4 hx4 with h | h | h | h <;> rw [h] <;> rfl
      have HQ' := Lib.hid hq'
      have hw5 : IntKind.i64.wrap 5 = 5 := IntWalk.i64_in _ (by decide)
      clear L1 L2 L3 L4 L5 L6 hx4 ca hm5 hbm hq'
      go_upto_region 12 with (fail)
      obtain ⟨w6, hw6⟩ : ∃ z, z = wr.setCell ⟨xm, x.toNat, none⟩ (.int .i64 ((manyQ q x : Nat) + 1)) := ⟨_, rfl⟩
      have hm0 := HM0.out
      have HC6 : Hid (Sys w.heap.size w6 p 4 (mapC 1 2 (ansQ q))) := Lib.hid (by rw [hw6]; exact Sys.setCell HC.out HM.out (by decide) (by decide) _ _)
      have HG6 : Hid (Blk w6 g (wishL (lookW 1) wa wq) 88) := Lib.hid (by rw [hw6]; exact HG.out.other (by omega) _ _)
      have HN6 : Hid (Blk w6 x2 (noteL 14 31 (lookW 1).group (lookW 1).epoch (.slice (some ⟨g, 0, none⟩) 1 1) zeroA 0 0) 81) := Lib.hid (by rw [hw6]; exact HN.out.other (by omega) _ _)
      have HA6 : Hid (Blk w6 w.heap.size [.int .i64 a0, .int .i64 a1, .int .i64 a2, .int .i64 a3] 57) := Lib.hid (by rw [hw6]; exact HA.out.other (by omega) _ _)
      have HB6 : Hid (Below w.heap.size w w6) := Lib.hid (by rw [hw6]; exact HB.out.setCell (by simp; omega) _)
      rw [← hw6] at HM' ⊢
      clear hw6 hm0 HM HC HG HN HA HB cm fm hw1
      have m0 := HM'.out.cell (i := 0) rfl
      have m1 := HM'.out.cell (i := 1) rfl
      have m2 := HM'.out.cell (i := 2) rfl
      have m3 := HM'.out.cell (i := 3) rfl
      go_upto_region 13 with (fail)
      rw [HBM.out]
      clear m0 m1 m2 m3
      have HL6 : Hid (w.heap.size ≤ w6.heap.size) := Lib.hid HB6.out.size
      have hZ0 : Below w6.heap.size w6 w6 := Below.refl _ _
      obtain ⟨y0, y1⟩ := note81_at HN6.out rfl hZ0
      obtain ⟨y2, y3⟩ := note81_at HN6.out rfl (Below.new w6 (.cells out0.toArray 90))
      obtain ⟨y4, y5⟩ := note81_at HN6.out rfl (Below.step hZ0.drew (Below.new w6.drew (.cells out0.toArray 90)))
      go_upto_region 13 with (fail)
      go_cut [9, 10] from 41 to 52 (fun v8 v9 wx => TookS w.heap.size w6 wx p (4 + 2) (stepC 1 2 (set4 0 x q) x) (stepO 1 2 (set4 0 x q) x) v8 v9)
      case first =>
        go_region_with
          (first
            | (go_at_call 51; go_loud ((with_reducible refine Calls.mono (read_any x _ (by omega) (by omega)) ?_); rintro en wd ⟨v, rfl, ⟨da, dc, na, nc, hv, ⟨hX, hXn⟩, hY, hYn⟩, hb⟩; have hv : v = .agg (ansL (readA x) da dc na nc).toArray := hv; subst hv; have hS : Below w6.heap.size w6 wd := Below.step (by (first | with_reducible exact hZ0 | with_reducible exact Below.drew hZ0 | with_reducible exact Below.step hZ0 (Below.new _ _) | with_reducible exact Below.step (Below.drew hZ0) (Below.new _ _) | with_reducible exact Below.drew (Below.step hZ0 (Below.new _ _)))) hb; obtain ⟨g1, g2⟩ := note81_at HN6.out rfl hS; obtain ⟨g3, g4⟩ := note81_at HN6.out rfl (Below.step hS (Below.new wd (.cells out0.toArray 90))); obtain ⟨g5, g6⟩ := note81_at HN6.out rfl (Below.step hS.drew (Below.new wd.drew (.cells out0.toArray 90))); (first | (have hx8 : Blk wd w6.heap.size out0 90 := Blk.below (Blk.new w6 out0 90) (by with_reducible exact hb)) | (have hx8 : Blk wd w6.heap.size out0 90 := Blk.below (Blk.new w6.drew out0 90) (by with_reducible exact hb)) | (have hx8 : Blk wd w6.heap.size out0 90 := Blk.below (Blk.below (Blk.new w6 out0 90) (Below.refl _ _).drew) (by with_reducible exact hb)) | skip)))
            | (go_at_call 50; go_loud ((with_reducible refine Calls.mono (reply_any 5 14 31 (lookW 1) g wa wq (readA x) da dc na nc _ ?_) ?_); (refine HG6.out.below ?_; (first | with_reducible exact hS | with_reducible exact Below.drew hS | with_reducible exact Below.step hS (Below.new _ _) | with_reducible exact Below.step (Below.drew hS) (Below.new _ _) | with_reducible exact Below.drew (Below.step hS (Below.new _ _)))); rintro en we ⟨rfl, hb2⟩; have hT0 : Below wd.heap.size wd we := Below.step (by (first | with_reducible exact (Below.refl wd.heap.size wd) | with_reducible exact Below.drew (Below.refl wd.heap.size wd) | with_reducible exact Below.step (Below.refl wd.heap.size wd) (Below.new _ _) | with_reducible exact Below.step (Below.drew (Below.refl wd.heap.size wd)) (Below.new _ _) | with_reducible exact Below.drew (Below.step (Below.refl wd.heap.size wd) (Below.new _ _)))) hb2; have hT : Below w6.heap.size w6 we := Below.step hS hT0; have hX' : BL we da (readA x).data := hX.below hT0; have hY' : IL we na (readA x).nodes := TL.below hY hT0; (first | (have hx8 := Blk.below hx8 hT0) | (have hx8 : Blk we wd.heap.size out0 90 := Blk.below (Blk.new wd out0 90) (by with_reducible exact hb2)) | (have hx8 : Blk we wd.heap.size out0 90 := Blk.below (Blk.new wd.drew out0 90) (by with_reducible exact hb2)) | (have hx8 : Blk we wd.heap.size out0 90 := Blk.below (Blk.below (Blk.new wd out0 90) (Below.refl _ _).drew) (by with_reducible exact hb2)) | skip)))
            | (go_at_call 52; go_loud ((with_reducible refine Calls.mono (take_mapS w.heap.size p (4) 1 2 (by decide) q 0 x 5 (by decide) rfl (by omega) da dc na nc _ ?_ ?_ ?_ hXn ?_ hYn) ?_); (omega); (refine Sys.below HC6.out ?_; (first | with_reducible exact hT | with_reducible exact Below.drew hT | with_reducible exact Below.step hT (Below.new _ _) | with_reducible exact Below.step (Below.drew hT) (Below.new _ _) | with_reducible exact Below.drew (Below.step hT (Below.new _ _)))); (refine hX'.below ?_; (first | with_reducible exact (Below.refl we.heap.size we) | with_reducible exact Below.drew (Below.refl we.heap.size we) | with_reducible exact Below.step (Below.refl we.heap.size we) (Below.new _ _) | with_reducible exact Below.step (Below.drew (Below.refl we.heap.size we)) (Below.new _ _) | with_reducible exact Below.drew (Below.step (Below.refl we.heap.size we) (Below.new _ _)))); (refine TL.below hY' ?_; (first | with_reducible exact (Below.refl we.heap.size we) | with_reducible exact Below.drew (Below.refl we.heap.size we) | with_reducible exact Below.step (Below.refl we.heap.size we) (Below.new _ _) | with_reducible exact Below.step (Below.drew (Below.refl we.heap.size we)) (Below.new _ _) | with_reducible exact Below.drew (Below.step (Below.refl we.heap.size we) (Below.new _ _)))); rintro en wf ⟨l', rfl, q1, q2, q3⟩; have p3 : Stp w.heap.size w6 wf := Stp.trans (Stp.of_below (by (first | with_reducible exact hT | with_reducible exact Below.drew hT | with_reducible exact Below.step hT (Below.new _ _) | with_reducible exact Below.step (Below.drew hT) (Below.new _ _) | with_reducible exact Below.drew (Below.step hT (Below.new _ _)))) HL6.out) q3; (first | (have hx8 := q3.blk (Blk.below hx8 (by (first | with_reducible exact (Below.refl we.heap.size we) | with_reducible exact Below.drew (Below.refl we.heap.size we) | with_reducible exact Below.step (Below.refl we.heap.size we) (Below.new _ _) | with_reducible exact Below.step (Below.drew (Below.refl we.heap.size we)) (Below.new _ _) | with_reducible exact Below.drew (Below.step (Below.refl we.heap.size we) (Below.new _ _))))) (by decide)) | (have hx8 : Blk wf we.heap.size out0 90 := q3.blk (Blk.new we out0 90) (by decide)) | (have hx8 : Blk wf we.heap.size out0 90 := q3.blk (Blk.new we.drew out0 90) (by decide)) | (have hx8 : Blk wf we.heap.size out0 90 := q3.blk (Blk.below (Blk.new we out0 90) (Below.refl _ _).drew) (by decide)) | skip); (first | (have m0 := hx8.room (o := 0) (n := 75) (by rw [out0_len]; exact Nat.le_refl _)) | skip); obtain ⟨m1, m2, _⟩ := put_out q2; obtain ⟨m3, _⟩ := put_out (q2.below (Below.refl _ _).drew))))
        all_goals
          have T1 := Lib.hid (tookS_of (Stp.refl _ _) HL6.out q1 q2 p3)
          have T3 := Lib.hid (tookS_of (Stp.refl _ _) HL6.out q1.drw (q2.below (Below.refl _ _).drew) (p3.drw HL6.out))
          (first
            | (have T2 := Lib.hid (tookS_early HL6.out q1 q2 p3 hx8 (by first | exact Nat.le_refl _ | exact hS.size | exact hT.size))
               have T4 := Lib.hid (tookS_early HL6.out q1.drw (q2.below (Below.refl _ _).drew) (p3.drw HL6.out) (hx8.below (Below.refl _ _).drew) (by first | exact Nat.le_refl _ | exact hS.size | exact hT.size)))
            | skip)
          go_wp2_with fail
          go_meet
          first
            | with_reducible exact T1.out
            | with_reducible exact T2.out
            | with_reducible exact T3.out
            | with_reducible exact T4.out
            | with_reducible exact T1.out.drw HL6.out
            | with_reducible exact T2.out.drw HL6.out
      case rest =>
        obtain ⟨x9, l9, rfl, rfl, hG, hV, hC, hS⟩ := hcut
        obtain ⟨w9, hw⟩ : ∃ x, x = wc := ⟨_, rfl⟩
        rw [← hw] at hG hV hC hS ⊢
        clear hw
        rw [← HQ'.out] at hC hV
        have HG9 := Lib.hid (hS.blk HG6.out (by decide))
        have HN9 := Lib.hid (hS.blk HN6.out (by decide))
        have HA9 := Lib.hid (hS.blk HA6.out (by decide))
        have HM9 : Hid (Many w9 xm q') := Lib.hid (hS.blk HM'.out (by decide))
        have HB9 := Lib.hid (HB6.out.trans hS.low)
        clear hS HG6 HN6 HA6 HM' HB6 HC6 hZ0 y0 y1 y2 y3 y4 y5 hwu
        have hb4 := HLK.out.2.2.2
        by_cases hd : 3 ≤ bestQ q'
        · have hd' : (3 : Int) ≤ (bestQ q' : Nat) := by omega
          rw [(stepC_end 1 2 q' x (HLK.out.2.1.1 hd)).2] at hV
          obtain ⟨da0, dc0, na0, nc0, ⟨P60, _⟩, _⟩ := hV.parts
          replace P60 : l9[60]? = some (.bool true) := P60
          have k60 := hG.cell P60
          clear hV hC hG P60
          go_wp2_with fail
          go_ret
          exact ⟨rfl, HB9.out⟩
        · have hd' : ¬ (3 : Int) ≤ (bestQ q' : Nat) := by omega
          have hw2 : IntKind.i64.wrap ((bestQ q' : Nat) + 3) = (bestQ q' : Nat) + 3 := IntWalk.i64_in _ (by omega)
          have hw3 : IntKind.i64.wrap ((bestQ q' : Nat) + 3 - 0) = (bestQ q' : Nat) + 3 - 0 := IntWalk.i64_in _ (by omega)
          have hnd : ¬ 3 ≤ manyQ q' x := fun h => hd (HLK.out.2.1.2 h)
          cases ho : oddQ q'
          · have hlt : ¬ ((bestQ q' : Nat) : Int) + 3 - 0 < 3 := fun h => by have := HLK.out.2.2.1.1 (by omega); rw [ho] at this; cases this
            rw [(stepC_mid 1 2 q' x hnd ho).1] at hC
            rw [(stepC_mid 1 2 q' x hnd ho).2] at hV
            have HC9 := Lib.hid hC
            have HV9 := Lib.hid hV
            obtain ⟨g1, g2⟩ := out_at hG hV.len (Below.refl _ _)
            have HQ9 : Hid (q' ∈ Dk (0 + 1) ∧ bestQ q' < 3) := Lib.hid ⟨HLK.out.1, by omega⟩
            clear hC hV hG hnd ho
            go_wp2_with fail
            refine Calls.mono (quiet_is l9 Ou.zero w9 HV9.out rfl rfl rfl) ?_
            rintro en wA ⟨rfl, hbA⟩
            have HCA := Lib.hid (HC9.out.below hbA)
            have HGA := Lib.hid (HG9.out.below hbA)
            have HNA := Lib.hid (HN9.out.below hbA)
            have HAA := Lib.hid (HA9.out.below hbA)
            have HMA : Hid (Many wA xm q') := Lib.hid (HM9.out.below hbA)
            have HBA := Lib.hid (Below.step HB9.out hbA)
            clear hbA g1 g2
            go_wp2_with fail
            go_roundw
            case rel => exact ⟨0 + 1, q', by omega, by first | rfl | go_num, HQ9, HMA, HCA, HGA, HNA, HAA, HBA⟩
            case measure => simp [intOf]
          · exact absurd (HLK.out.2.2.1.2 ho) (by omega)
    · have ca := HA.out.cell (i := 1) rfl
      go_wp2_with fail
      obtain ⟨x, hx⟩ : ∃ x, x = bringI a1 4 := ⟨_, rfl⟩
      have hx4 : 0 ≤ x ∧ x < 4 := by rw [hx]; exact bring4' _
      refine Calls.mono (bring_any a1 4 _ (by decide) (by decide)) ?_
      rintro en wq1 ⟨rfl, rfl⟩
      rw [← hx]
      clear hx
      obtain ⟨L1, L2, L3, L4, L5, L6⟩ := look_plain 1 (by decide) q HQ.out.1 x (mem4 hx4)
      obtain ⟨q', hq'⟩ : ∃ z, z = set4 1 x q := ⟨_, rfl⟩
      rw [← hq'] at L1 L2 L3 L4 L5 L6
      have hbm : max ((manyQ q' 0 : Nat) : Int) (max ((manyQ q' 1 : Nat) : Int) (max ((manyQ q' 2 : Nat) : Int) ((manyQ q' 3 : Nat) : Int))) = (bestQ q' : Nat) := by rw [L3]; omega
      have HBM := Lib.hid hbm
      have HLK : Hid (q' ∈ Dk (1 + 1) ∧ (3 ≤ bestQ q' ↔ 3 ≤ manyQ q' x) ∧ ((bestQ q' : Int) < 1 ↔ oddQ q' = true) ∧ bestQ q' ≤ 4) := Lib.hid ⟨L1, L4 HQ.out.2, L5, L6⟩
      have cm := many_cell HM.out hx4
      have fm := HM.out.free x.toNat
      have hm5 : manyQ q x ≤ 4 := look_rest 1 (by decide) q HQ.out.1 x (mem4 hx4)
      have hw1 : IntKind.i64.wrap ((manyQ q x : Nat) + 1) = (manyQ q x : Nat) + 1 := IntWalk.i64_in _ (by omega)
      have HM' := Lib.hid (many_set HM.out hx4 L2)
      have hx0 : 0 ≤ x := hx4.1
      have hx3 : x < 4 := hx4.2
      have hwu : IntKind.u8.wrap x = x := by rcases in4 hx4 with h | h | h | h <;> rw [h] <;> rfl
      have HQ' := Lib.hid hq'
      have hw5 : IntKind.i64.wrap 6 = 6 := IntWalk.i64_in _ (by decide)
      clear L1 L2 L3 L4 L5 L6 hx4 ca hm5 hbm hq'
      go_upto_region 12 with (fail)
      obtain ⟨w6, hw6⟩ : ∃ z, z = wr.setCell ⟨xm, x.toNat, none⟩ (.int .i64 ((manyQ q x : Nat) + 1)) := ⟨_, rfl⟩
      have hm0 := HM0.out
      have HC6 : Hid (Sys w.heap.size w6 p 6 (mapC 1 2 (ansQ q))) := Lib.hid (by rw [hw6]; exact Sys.setCell HC.out HM.out (by decide) (by decide) _ _)
      have HG6 : Hid (Blk w6 g (wishL (lookW 1) wa wq) 88) := Lib.hid (by rw [hw6]; exact HG.out.other (by omega) _ _)
      have HN6 : Hid (Blk w6 x2 (noteL 14 31 (lookW 1).group (lookW 1).epoch (.slice (some ⟨g, 0, none⟩) 1 1) zeroA 0 0) 81) := Lib.hid (by rw [hw6]; exact HN.out.other (by omega) _ _)
      have HA6 : Hid (Blk w6 w.heap.size [.int .i64 a0, .int .i64 a1, .int .i64 a2, .int .i64 a3] 57) := Lib.hid (by rw [hw6]; exact HA.out.other (by omega) _ _)
      have HB6 : Hid (Below w.heap.size w w6) := Lib.hid (by rw [hw6]; exact HB.out.setCell (by simp; omega) _)
      rw [← hw6] at HM' ⊢
      clear hw6 hm0 HM HC HG HN HA HB cm fm hw1
      have m0 := HM'.out.cell (i := 0) rfl
      have m1 := HM'.out.cell (i := 1) rfl
      have m2 := HM'.out.cell (i := 2) rfl
      have m3 := HM'.out.cell (i := 3) rfl
      go_upto_region 13 with (fail)
      rw [HBM.out]
      clear m0 m1 m2 m3
      have HL6 : Hid (w.heap.size ≤ w6.heap.size) := Lib.hid HB6.out.size
      have hZ0 : Below w6.heap.size w6 w6 := Below.refl _ _
      obtain ⟨y0, y1⟩ := note81_at HN6.out rfl hZ0
      obtain ⟨y2, y3⟩ := note81_at HN6.out rfl (Below.new w6 (.cells out0.toArray 90))
      obtain ⟨y4, y5⟩ := note81_at HN6.out rfl (Below.step hZ0.drew (Below.new w6.drew (.cells out0.toArray 90)))
      go_upto_region 13 with (fail)
      go_cut [9, 10] from 41 to 52 (fun v8 v9 wx => TookS w.heap.size w6 wx p (6 + 2) (stepC 1 2 (set4 1 x q) x) (stepO 1 2 (set4 1 x q) x) v8 v9)
      case first =>
        go_region_with
          (first
            | (go_at_call 51; go_loud ((with_reducible refine Calls.mono (read_any x _ (by omega) (by omega)) ?_); rintro en wd ⟨v, rfl, ⟨da, dc, na, nc, hv, ⟨hX, hXn⟩, hY, hYn⟩, hb⟩; have hv : v = .agg (ansL (readA x) da dc na nc).toArray := hv; subst hv; have hS : Below w6.heap.size w6 wd := Below.step (by (first | with_reducible exact hZ0 | with_reducible exact Below.drew hZ0 | with_reducible exact Below.step hZ0 (Below.new _ _) | with_reducible exact Below.step (Below.drew hZ0) (Below.new _ _) | with_reducible exact Below.drew (Below.step hZ0 (Below.new _ _)))) hb; obtain ⟨g1, g2⟩ := note81_at HN6.out rfl hS; obtain ⟨g3, g4⟩ := note81_at HN6.out rfl (Below.step hS (Below.new wd (.cells out0.toArray 90))); obtain ⟨g5, g6⟩ := note81_at HN6.out rfl (Below.step hS.drew (Below.new wd.drew (.cells out0.toArray 90))); (first | (have hx8 : Blk wd w6.heap.size out0 90 := Blk.below (Blk.new w6 out0 90) (by with_reducible exact hb)) | (have hx8 : Blk wd w6.heap.size out0 90 := Blk.below (Blk.new w6.drew out0 90) (by with_reducible exact hb)) | (have hx8 : Blk wd w6.heap.size out0 90 := Blk.below (Blk.below (Blk.new w6 out0 90) (Below.refl _ _).drew) (by with_reducible exact hb)) | skip)))
            | (go_at_call 50; go_loud ((with_reducible refine Calls.mono (reply_any 6 14 31 (lookW 1) g wa wq (readA x) da dc na nc _ ?_) ?_); (refine HG6.out.below ?_; (first | with_reducible exact hS | with_reducible exact Below.drew hS | with_reducible exact Below.step hS (Below.new _ _) | with_reducible exact Below.step (Below.drew hS) (Below.new _ _) | with_reducible exact Below.drew (Below.step hS (Below.new _ _)))); rintro en we ⟨rfl, hb2⟩; have hT0 : Below wd.heap.size wd we := Below.step (by (first | with_reducible exact (Below.refl wd.heap.size wd) | with_reducible exact Below.drew (Below.refl wd.heap.size wd) | with_reducible exact Below.step (Below.refl wd.heap.size wd) (Below.new _ _) | with_reducible exact Below.step (Below.drew (Below.refl wd.heap.size wd)) (Below.new _ _) | with_reducible exact Below.drew (Below.step (Below.refl wd.heap.size wd) (Below.new _ _)))) hb2; have hT : Below w6.heap.size w6 we := Below.step hS hT0; have hX' : BL we da (readA x).data := hX.below hT0; have hY' : IL we na (readA x).nodes := TL.below hY hT0; (first | (have hx8 := Blk.below hx8 hT0) | (have hx8 : Blk we wd.heap.size out0 90 := Blk.below (Blk.new wd out0 90) (by with_reducible exact hb2)) | (have hx8 : Blk we wd.heap.size out0 90 := Blk.below (Blk.new wd.drew out0 90) (by with_reducible exact hb2)) | (have hx8 : Blk we wd.heap.size out0 90 := Blk.below (Blk.below (Blk.new wd out0 90) (Below.refl _ _).drew) (by with_reducible exact hb2)) | skip)))
            | (go_at_call 52; go_loud ((with_reducible refine Calls.mono (take_mapS w.heap.size p (6) 1 2 (by decide) q 1 x 6 (by decide) rfl (by omega) da dc na nc _ ?_ ?_ ?_ hXn ?_ hYn) ?_); (omega); (refine Sys.below HC6.out ?_; (first | with_reducible exact hT | with_reducible exact Below.drew hT | with_reducible exact Below.step hT (Below.new _ _) | with_reducible exact Below.step (Below.drew hT) (Below.new _ _) | with_reducible exact Below.drew (Below.step hT (Below.new _ _)))); (refine hX'.below ?_; (first | with_reducible exact (Below.refl we.heap.size we) | with_reducible exact Below.drew (Below.refl we.heap.size we) | with_reducible exact Below.step (Below.refl we.heap.size we) (Below.new _ _) | with_reducible exact Below.step (Below.drew (Below.refl we.heap.size we)) (Below.new _ _) | with_reducible exact Below.drew (Below.step (Below.refl we.heap.size we) (Below.new _ _)))); (refine TL.below hY' ?_; (first | with_reducible exact (Below.refl we.heap.size we) | with_reducible exact Below.drew (Below.refl we.heap.size we) | with_reducible exact Below.step (Below.refl we.heap.size we) (Below.new _ _) | with_reducible exact Below.step (Below.drew (Below.refl we.heap.size we)) (Below.new _ _) | with_reducible exact Below.drew (Below.step (Below.refl we.heap.size we) (Below.new _ _)))); rintro en wf ⟨l', rfl, q1, q2, q3⟩; have p3 : Stp w.heap.size w6 wf := Stp.trans (Stp.of_below (by (first | with_reducible exact hT | with_reducible exact Below.drew hT | with_reducible exact Below.step hT (Below.new _ _) | with_reducible exact Below.step (Below.drew hT) (Below.new _ _) | with_reducible exact Below.drew (Below.step hT (Below.new _ _)))) HL6.out) q3; (first | (have hx8 := q3.blk (Blk.below hx8 (by (first | with_reducible exact (Below.refl we.heap.size we) | with_reducible exact Below.drew (Below.refl we.heap.size we) | with_reducible exact Below.step (Below.refl we.heap.size we) (Below.new _ _) | with_reducible exact Below.step (Below.drew (Below.refl we.heap.size we)) (Below.new _ _) | with_reducible exact Below.drew (Below.step (Below.refl we.heap.size we) (Below.new _ _))))) (by decide)) | (have hx8 : Blk wf we.heap.size out0 90 := q3.blk (Blk.new we out0 90) (by decide)) | (have hx8 : Blk wf we.heap.size out0 90 := q3.blk (Blk.new we.drew out0 90) (by decide)) | (have hx8 : Blk wf we.heap.size out0 90 := q3.blk (Blk.below (Blk.new we out0 90) (Below.refl _ _).drew) (by decide)) | skip); (first | (have m0 := hx8.room (o := 0) (n := 75) (by rw [out0_len]; exact Nat.le_refl _)) | skip); obtain ⟨m1, m2, _⟩ := put_out q2; obtain ⟨m3, _⟩ := put_out (q2.below (Below.refl _ _).drew))))
        all_goals
          have T1 := Lib.hid (tookS_of (Stp.refl _ _) HL6.out q1 q2 p3)
          have T3 := Lib.hid (tookS_of (Stp.refl _ _) HL6.out q1.drw (q2.below (Below.refl _ _).drew) (p3.drw HL6.out))
          (first
            | (have T2 := Lib.hid (tookS_early HL6.out q1 q2 p3 hx8 (by first | exact Nat.le_refl _ | exact hS.size | exact hT.size))
               have T4 := Lib.hid (tookS_early HL6.out q1.drw (q2.below (Below.refl _ _).drew) (p3.drw HL6.out) (hx8.below (Below.refl _ _).drew) (by first | exact Nat.le_refl _ | exact hS.size | exact hT.size)))
            | skip)
          go_wp2_with fail
          go_meet
          first
            | with_reducible exact T1.out
            | with_reducible exact T2.out
            | with_reducible exact T3.out
            | with_reducible exact T4.out
            | with_reducible exact T1.out.drw HL6.out
            | with_reducible exact T2.out.drw HL6.out
      case rest =>
        obtain ⟨x9, l9, rfl, rfl, hG, hV, hC, hS⟩ := hcut
        obtain ⟨w9, hw⟩ : ∃ x, x = wc := ⟨_, rfl⟩
        rw [← hw] at hG hV hC hS ⊢
        clear hw
        rw [← HQ'.out] at hC hV
        have HG9 := Lib.hid (hS.blk HG6.out (by decide))
        have HN9 := Lib.hid (hS.blk HN6.out (by decide))
        have HA9 := Lib.hid (hS.blk HA6.out (by decide))
        have HM9 : Hid (Many w9 xm q') := Lib.hid (hS.blk HM'.out (by decide))
        have HB9 := Lib.hid (HB6.out.trans hS.low)
        clear hS HG6 HN6 HA6 HM' HB6 HC6 hZ0 y0 y1 y2 y3 y4 y5 hwu
        have hb4 := HLK.out.2.2.2
        by_cases hd : 3 ≤ bestQ q'
        · have hd' : (3 : Int) ≤ (bestQ q' : Nat) := by omega
          rw [(stepC_end 1 2 q' x (HLK.out.2.1.1 hd)).2] at hV
          obtain ⟨da0, dc0, na0, nc0, ⟨P60, _⟩, _⟩ := hV.parts
          replace P60 : l9[60]? = some (.bool true) := P60
          have k60 := hG.cell P60
          clear hV hC hG P60
          go_wp2_with fail
          go_ret
          exact ⟨rfl, HB9.out⟩
        · have hd' : ¬ (3 : Int) ≤ (bestQ q' : Nat) := by omega
          have hw2 : IntKind.i64.wrap ((bestQ q' : Nat) + 3) = (bestQ q' : Nat) + 3 := IntWalk.i64_in _ (by omega)
          have hw3 : IntKind.i64.wrap ((bestQ q' : Nat) + 3 - 1) = (bestQ q' : Nat) + 3 - 1 := IntWalk.i64_in _ (by omega)
          have hnd : ¬ 3 ≤ manyQ q' x := fun h => hd (HLK.out.2.1.2 h)
          cases ho : oddQ q'
          · have hlt : ¬ ((bestQ q' : Nat) : Int) + 3 - 1 < 3 := fun h => by have := HLK.out.2.2.1.1 (by omega); rw [ho] at this; cases this
            rw [(stepC_mid 1 2 q' x hnd ho).1] at hC
            rw [(stepC_mid 1 2 q' x hnd ho).2] at hV
            have HC9 := Lib.hid hC
            have HV9 := Lib.hid hV
            obtain ⟨g1, g2⟩ := out_at hG hV.len (Below.refl _ _)
            have HQ9 : Hid (q' ∈ Dk (1 + 1) ∧ bestQ q' < 3) := Lib.hid ⟨HLK.out.1, by omega⟩
            clear hC hV hG hnd ho
            go_wp2_with fail
            refine Calls.mono (quiet_is l9 Ou.zero w9 HV9.out rfl rfl rfl) ?_
            rintro en wA ⟨rfl, hbA⟩
            have HCA := Lib.hid (HC9.out.below hbA)
            have HGA := Lib.hid (HG9.out.below hbA)
            have HNA := Lib.hid (HN9.out.below hbA)
            have HAA := Lib.hid (HA9.out.below hbA)
            have HMA : Hid (Many wA xm q') := Lib.hid (HM9.out.below hbA)
            have HBA := Lib.hid (Below.step HB9.out hbA)
            clear hbA g1 g2
            go_wp2_with fail
            go_roundw
            case rel => exact ⟨1 + 1, q', by omega, by first | rfl | go_num, HQ9, HMA, HCA, HGA, HNA, HAA, HBA⟩
            case measure => simp [intOf]
          · have hlt : ((bestQ q' : Nat) : Int) + 3 - 1 < 3 := by have := HLK.out.2.2.1.2 ho; omega
            have e1 : stepO 1 2 q' x = againO (mapC 1 3 (fun _ => none)) Ou.zero := by unfold stepO; rw [if_neg hnd, if_pos ⟨rfl, ho⟩]
            rw [e1] at hV
            have HV9 := Lib.hid hV
            have HX9 := Lib.hid hG
            obtain ⟨g1, g2⟩ := out_at HX9.out HV9.out.len (Below.refl _ _)
            clear hC e1 ho hnd hV hG
            go_upto_region 17 with (fail)
            go_region_with
              (first
                | (go_at_call 56; go_loud ((with_reducible refine Calls.mono (five_any _) ?_); rintro en we ⟨a5, rfl, hI5, hb5⟩; have hT : Below w9.heap.size w9 we := Below.step (by (first | with_reducible exact (Below.refl w9.heap.size w9) | with_reducible exact Below.drew (Below.refl w9.heap.size w9) | with_reducible exact Below.step (Below.refl w9.heap.size w9) (Below.new _ _) | with_reducible exact Below.step (Below.drew (Below.refl w9.heap.size w9)) (Below.new _ _) | with_reducible exact Below.drew (Below.step (Below.refl w9.heap.size w9) (Below.new _ _)))) hb5; obtain ⟨g5, g6⟩ := out_at HX9.out HV9.out.len hT))
                | (go_at_call 55; go_loud ((with_reducible refine Calls.mono (says_order 1 l9 a5 _ ?_ ?_) ?_); (refine HV9.out.below ?_; (first | with_reducible exact hT | with_reducible exact Below.drew hT | with_reducible exact Below.step hT (Below.new _ _) | with_reducible exact Below.step (Below.drew hT) (Below.new _ _) | with_reducible exact Below.drew (Below.step hT (Below.new _ _)))); (refine TL.below hI5 ?_; (first | with_reducible exact (Below.refl we.heap.size we) | with_reducible exact Below.drew (Below.refl we.heap.size we) | with_reducible exact Below.step (Below.refl we.heap.size we) (Below.new _ _) | with_reducible exact Below.step (Below.drew (Below.refl we.heap.size we)) (Below.new _ _) | with_reducible exact Below.drew (Below.step (Below.refl we.heap.size we) (Below.new _ _)))); rintro en wf ⟨rfl, hb6⟩; have hU : Below w9.heap.size w9 wf := Below.step (by (first | with_reducible exact hT | with_reducible exact Below.drew hT | with_reducible exact Below.step hT (Below.new _ _) | with_reducible exact Below.step (Below.drew hT) (Below.new _ _) | with_reducible exact Below.drew (Below.step hT (Below.new _ _)))) hb6)))
            all_goals
              have HZ : Hid (Below w.heap.size w wf) := Lib.hid (HB9.out.trans (hU.mono HB9.out.size))
              clear hU
              go_wp2_with fail
              go_ret
              first
                | exact ⟨rfl, HZ.out⟩
                | exact ⟨rfl, HZ.out.drew⟩
    · have ca := HA.out.cell (i := 2) rfl
      go_wp2_with fail
      obtain ⟨x, hx⟩ : ∃ x, x = bringI a2 4 := ⟨_, rfl⟩
      have hx4 : 0 ≤ x ∧ x < 4 := by rw [hx]; exact bring4' _
      refine Calls.mono (bring_any a2 4 _ (by decide) (by decide)) ?_
      rintro en wq1 ⟨rfl, rfl⟩
      rw [← hx]
      clear hx
      obtain ⟨L1, L2, L3, L4, L5, L6⟩ := look_plain 2 (by decide) q HQ.out.1 x (mem4 hx4)
      obtain ⟨q', hq'⟩ : ∃ z, z = set4 2 x q := ⟨_, rfl⟩
      rw [← hq'] at L1 L2 L3 L4 L5 L6
      have hbm : max ((manyQ q' 0 : Nat) : Int) (max ((manyQ q' 1 : Nat) : Int) (max ((manyQ q' 2 : Nat) : Int) ((manyQ q' 3 : Nat) : Int))) = (bestQ q' : Nat) := by rw [L3]; omega
      have HBM := Lib.hid hbm
      have HLK : Hid (q' ∈ Dk (2 + 1) ∧ (3 ≤ bestQ q' ↔ 3 ≤ manyQ q' x) ∧ ((bestQ q' : Int) < 2 ↔ oddQ q' = true) ∧ bestQ q' ≤ 4) := Lib.hid ⟨L1, L4 HQ.out.2, L5, L6⟩
      have cm := many_cell HM.out hx4
      have fm := HM.out.free x.toNat
      have hm5 : manyQ q x ≤ 4 := look_rest 2 (by decide) q HQ.out.1 x (mem4 hx4)
      have hw1 : IntKind.i64.wrap ((manyQ q x : Nat) + 1) = (manyQ q x : Nat) + 1 := IntWalk.i64_in _ (by omega)
      have HM' := Lib.hid (many_set HM.out hx4 L2)
      have hx0 : 0 ≤ x := hx4.1
      have hx3 : x < 4 := hx4.2
      have hwu : IntKind.u8.wrap x = x := by rcases in4 hx4 with h | h | h | h <;> rw [h] <;> rfl
      have HQ' := Lib.hid hq'
      have hw5 : IntKind.i64.wrap 7 = 7 := IntWalk.i64_in _ (by decide)
      clear L1 L2 L3 L4 L5 L6 hx4 ca hm5 hbm hq'
      go_upto_region 12 with (fail)
      obtain ⟨w6, hw6⟩ : ∃ z, z = wr.setCell ⟨xm, x.toNat, none⟩ (.int .i64 ((manyQ q x : Nat) + 1)) := ⟨_, rfl⟩
      have hm0 := HM0.out
      have HC6 : Hid (Sys w.heap.size w6 p 8 (mapC 1 2 (ansQ q))) := Lib.hid (by rw [hw6]; exact Sys.setCell HC.out HM.out (by decide) (by decide) _ _)
      have HG6 : Hid (Blk w6 g (wishL (lookW 1) wa wq) 88) := Lib.hid (by rw [hw6]; exact HG.out.other (by omega) _ _)
      have HN6 : Hid (Blk w6 x2 (noteL 14 31 (lookW 1).group (lookW 1).epoch (.slice (some ⟨g, 0, none⟩) 1 1) zeroA 0 0) 81) := Lib.hid (by rw [hw6]; exact HN.out.other (by omega) _ _)
      have HA6 : Hid (Blk w6 w.heap.size [.int .i64 a0, .int .i64 a1, .int .i64 a2, .int .i64 a3] 57) := Lib.hid (by rw [hw6]; exact HA.out.other (by omega) _ _)
      have HB6 : Hid (Below w.heap.size w w6) := Lib.hid (by rw [hw6]; exact HB.out.setCell (by simp; omega) _)
      rw [← hw6] at HM' ⊢
      clear hw6 hm0 HM HC HG HN HA HB cm fm hw1
      have m0 := HM'.out.cell (i := 0) rfl
      have m1 := HM'.out.cell (i := 1) rfl
      have m2 := HM'.out.cell (i := 2) rfl
      have m3 := HM'.out.cell (i := 3) rfl
      go_upto_region 13 with (fail)
      rw [HBM.out]
      clear m0 m1 m2 m3
      have HL6 : Hid (w.heap.size ≤ w6.heap.size) := Lib.hid HB6.out.size
      have hZ0 : Below w6.heap.size w6 w6 := Below.refl _ _
      obtain ⟨y0, y1⟩ := note81_at HN6.out rfl hZ0
      obtain ⟨y2, y3⟩ := note81_at HN6.out rfl (Below.new w6 (.cells out0.toArray 90))
      obtain ⟨y4, y5⟩ := note81_at HN6.out rfl (Below.step hZ0.drew (Below.new w6.drew (.cells out0.toArray 90)))
      go_upto_region 13 with (fail)
      go_cut [9, 10] from 41 to 52 (fun v8 v9 wx => TookS w.heap.size w6 wx p (8 + 2) (stepC 1 2 (set4 2 x q) x) (stepO 1 2 (set4 2 x q) x) v8 v9)
      case first =>
        go_region_with
          (first
            | (go_at_call 51; go_loud ((with_reducible refine Calls.mono (read_any x _ (by omega) (by omega)) ?_); rintro en wd ⟨v, rfl, ⟨da, dc, na, nc, hv, ⟨hX, hXn⟩, hY, hYn⟩, hb⟩; have hv : v = .agg (ansL (readA x) da dc na nc).toArray := hv; subst hv; have hS : Below w6.heap.size w6 wd := Below.step (by (first | with_reducible exact hZ0 | with_reducible exact Below.drew hZ0 | with_reducible exact Below.step hZ0 (Below.new _ _) | with_reducible exact Below.step (Below.drew hZ0) (Below.new _ _) | with_reducible exact Below.drew (Below.step hZ0 (Below.new _ _)))) hb; obtain ⟨g1, g2⟩ := note81_at HN6.out rfl hS; obtain ⟨g3, g4⟩ := note81_at HN6.out rfl (Below.step hS (Below.new wd (.cells out0.toArray 90))); obtain ⟨g5, g6⟩ := note81_at HN6.out rfl (Below.step hS.drew (Below.new wd.drew (.cells out0.toArray 90))); (first | (have hx8 : Blk wd w6.heap.size out0 90 := Blk.below (Blk.new w6 out0 90) (by with_reducible exact hb)) | (have hx8 : Blk wd w6.heap.size out0 90 := Blk.below (Blk.new w6.drew out0 90) (by with_reducible exact hb)) | (have hx8 : Blk wd w6.heap.size out0 90 := Blk.below (Blk.below (Blk.new w6 out0 90) (Below.refl _ _).drew) (by with_reducible exact hb)) | skip)))
            | (go_at_call 50; go_loud ((with_reducible refine Calls.mono (reply_any 7 14 31 (lookW 1) g wa wq (readA x) da dc na nc _ ?_) ?_); (refine HG6.out.below ?_; (first | with_reducible exact hS | with_reducible exact Below.drew hS | with_reducible exact Below.step hS (Below.new _ _) | with_reducible exact Below.step (Below.drew hS) (Below.new _ _) | with_reducible exact Below.drew (Below.step hS (Below.new _ _)))); rintro en we ⟨rfl, hb2⟩; have hT0 : Below wd.heap.size wd we := Below.step (by (first | with_reducible exact (Below.refl wd.heap.size wd) | with_reducible exact Below.drew (Below.refl wd.heap.size wd) | with_reducible exact Below.step (Below.refl wd.heap.size wd) (Below.new _ _) | with_reducible exact Below.step (Below.drew (Below.refl wd.heap.size wd)) (Below.new _ _) | with_reducible exact Below.drew (Below.step (Below.refl wd.heap.size wd) (Below.new _ _)))) hb2; have hT : Below w6.heap.size w6 we := Below.step hS hT0; have hX' : BL we da (readA x).data := hX.below hT0; have hY' : IL we na (readA x).nodes := TL.below hY hT0; (first | (have hx8 := Blk.below hx8 hT0) | (have hx8 : Blk we wd.heap.size out0 90 := Blk.below (Blk.new wd out0 90) (by with_reducible exact hb2)) | (have hx8 : Blk we wd.heap.size out0 90 := Blk.below (Blk.new wd.drew out0 90) (by with_reducible exact hb2)) | (have hx8 : Blk we wd.heap.size out0 90 := Blk.below (Blk.below (Blk.new wd out0 90) (Below.refl _ _).drew) (by with_reducible exact hb2)) | skip)))
            | (go_at_call 52; go_loud ((with_reducible refine Calls.mono (take_mapS w.heap.size p (8) 1 2 (by decide) q 2 x 7 (by decide) rfl (by omega) da dc na nc _ ?_ ?_ ?_ hXn ?_ hYn) ?_); (omega); (refine Sys.below HC6.out ?_; (first | with_reducible exact hT | with_reducible exact Below.drew hT | with_reducible exact Below.step hT (Below.new _ _) | with_reducible exact Below.step (Below.drew hT) (Below.new _ _) | with_reducible exact Below.drew (Below.step hT (Below.new _ _)))); (refine hX'.below ?_; (first | with_reducible exact (Below.refl we.heap.size we) | with_reducible exact Below.drew (Below.refl we.heap.size we) | with_reducible exact Below.step (Below.refl we.heap.size we) (Below.new _ _) | with_reducible exact Below.step (Below.drew (Below.refl we.heap.size we)) (Below.new _ _) | with_reducible exact Below.drew (Below.step (Below.refl we.heap.size we) (Below.new _ _)))); (refine TL.below hY' ?_; (first | with_reducible exact (Below.refl we.heap.size we) | with_reducible exact Below.drew (Below.refl we.heap.size we) | with_reducible exact Below.step (Below.refl we.heap.size we) (Below.new _ _) | with_reducible exact Below.step (Below.drew (Below.refl we.heap.size we)) (Below.new _ _) | with_reducible exact Below.drew (Below.step (Below.refl we.heap.size we) (Below.new _ _)))); rintro en wf ⟨l', rfl, q1, q2, q3⟩; have p3 : Stp w.heap.size w6 wf := Stp.trans (Stp.of_below (by (first | with_reducible exact hT | with_reducible exact Below.drew hT | with_reducible exact Below.step hT (Below.new _ _) | with_reducible exact Below.step (Below.drew hT) (Below.new _ _) | with_reducible exact Below.drew (Below.step hT (Below.new _ _)))) HL6.out) q3; (first | (have hx8 := q3.blk (Blk.below hx8 (by (first | with_reducible exact (Below.refl we.heap.size we) | with_reducible exact Below.drew (Below.refl we.heap.size we) | with_reducible exact Below.step (Below.refl we.heap.size we) (Below.new _ _) | with_reducible exact Below.step (Below.drew (Below.refl we.heap.size we)) (Below.new _ _) | with_reducible exact Below.drew (Below.step (Below.refl we.heap.size we) (Below.new _ _))))) (by decide)) | (have hx8 : Blk wf we.heap.size out0 90 := q3.blk (Blk.new we out0 90) (by decide)) | (have hx8 : Blk wf we.heap.size out0 90 := q3.blk (Blk.new we.drew out0 90) (by decide)) | (have hx8 : Blk wf we.heap.size out0 90 := q3.blk (Blk.below (Blk.new we out0 90) (Below.refl _ _).drew) (by decide)) | skip); (first | (have m0 := hx8.room (o := 0) (n := 75) (by rw [out0_len]; exact Nat.le_refl _)) | skip); obtain ⟨m1, m2, _⟩ := put_out q2; obtain ⟨m3, _⟩ := put_out (q2.below (Below.refl _ _).drew))))
        all_goals
          have T1 := Lib.hid (tookS_of (Stp.refl _ _) HL6.out q1 q2 p3)
          have T3 := Lib.hid (tookS_of (Stp.refl _ _) HL6.out q1.drw (q2.below (Below.refl _ _).drew) (p3.drw HL6.out))
          (first
            | (have T2 := Lib.hid (tookS_early HL6.out q1 q2 p3 hx8 (by first | exact Nat.le_refl _ | exact hS.size | exact hT.size))
               have T4 := Lib.hid (tookS_early HL6.out q1.drw (q2.below (Below.refl _ _).drew) (p3.drw HL6.out) (hx8.below (Below.refl _ _).drew) (by first | exact Nat.le_refl _ | exact hS.size | exact hT.size)))
            | skip)
          go_wp2_with fail
          go_meet
          first
            | with_reducible exact T1.out
            | with_reducible exact T2.out
            | with_reducible exact T3.out
            | with_reducible exact T4.out
            | with_reducible exact T1.out.drw HL6.out
            | with_reducible exact T2.out.drw HL6.out
      case rest =>
        obtain ⟨x9, l9, rfl, rfl, hG, hV, hC, hS⟩ := hcut
        obtain ⟨w9, hw⟩ : ∃ x, x = wc := ⟨_, rfl⟩
        rw [← hw] at hG hV hC hS ⊢
        clear hw
        rw [← HQ'.out] at hC hV
        have HG9 := Lib.hid (hS.blk HG6.out (by decide))
        have HN9 := Lib.hid (hS.blk HN6.out (by decide))
        have HA9 := Lib.hid (hS.blk HA6.out (by decide))
        have HM9 : Hid (Many w9 xm q') := Lib.hid (hS.blk HM'.out (by decide))
        have HB9 := Lib.hid (HB6.out.trans hS.low)
        clear hS HG6 HN6 HA6 HM' HB6 HC6 hZ0 y0 y1 y2 y3 y4 y5 hwu
        have hb4 := HLK.out.2.2.2
        by_cases hd : 3 ≤ bestQ q'
        · have hd' : (3 : Int) ≤ (bestQ q' : Nat) := by omega
          rw [(stepC_end 1 2 q' x (HLK.out.2.1.1 hd)).2] at hV
          obtain ⟨da0, dc0, na0, nc0, ⟨P60, _⟩, _⟩ := hV.parts
          replace P60 : l9[60]? = some (.bool true) := P60
          have k60 := hG.cell P60
          clear hV hC hG P60
          go_wp2_with fail
          go_ret
          exact ⟨rfl, HB9.out⟩
        · have hd' : ¬ (3 : Int) ≤ (bestQ q' : Nat) := by omega
          have hw2 : IntKind.i64.wrap ((bestQ q' : Nat) + 3) = (bestQ q' : Nat) + 3 := IntWalk.i64_in _ (by omega)
          have hw3 : IntKind.i64.wrap ((bestQ q' : Nat) + 3 - 2) = (bestQ q' : Nat) + 3 - 2 := IntWalk.i64_in _ (by omega)
          have hnd : ¬ 3 ≤ manyQ q' x := fun h => hd (HLK.out.2.1.2 h)
          cases ho : oddQ q'
          · have hlt : ¬ ((bestQ q' : Nat) : Int) + 3 - 2 < 3 := fun h => by have := HLK.out.2.2.1.1 (by omega); rw [ho] at this; cases this
            rw [(stepC_mid 1 2 q' x hnd ho).1] at hC
            rw [(stepC_mid 1 2 q' x hnd ho).2] at hV
            have HC9 := Lib.hid hC
            have HV9 := Lib.hid hV
            obtain ⟨g1, g2⟩ := out_at hG hV.len (Below.refl _ _)
            have HQ9 : Hid (q' ∈ Dk (2 + 1) ∧ bestQ q' < 3) := Lib.hid ⟨HLK.out.1, by omega⟩
            clear hC hV hG hnd ho
            go_wp2_with fail
            refine Calls.mono (quiet_is l9 Ou.zero w9 HV9.out rfl rfl rfl) ?_
            rintro en wA ⟨rfl, hbA⟩
            have HCA := Lib.hid (HC9.out.below hbA)
            have HGA := Lib.hid (HG9.out.below hbA)
            have HNA := Lib.hid (HN9.out.below hbA)
            have HAA := Lib.hid (HA9.out.below hbA)
            have HMA : Hid (Many wA xm q') := Lib.hid (HM9.out.below hbA)
            have HBA := Lib.hid (Below.step HB9.out hbA)
            clear hbA g1 g2
            go_wp2_with fail
            go_roundw
            case rel => exact ⟨2 + 1, q', by omega, by first | rfl | go_num, HQ9, HMA, HCA, HGA, HNA, HAA, HBA⟩
            case measure => simp [intOf]
          · have hlt : ((bestQ q' : Nat) : Int) + 3 - 2 < 3 := by have := HLK.out.2.2.1.2 ho; omega
            have e1 : stepO 1 2 q' x = againO (mapC 1 3 (fun _ => none)) Ou.zero := by unfold stepO; rw [if_neg hnd, if_pos ⟨rfl, ho⟩]
            rw [e1] at hV
            have HV9 := Lib.hid hV
            have HX9 := Lib.hid hG
            obtain ⟨g1, g2⟩ := out_at HX9.out HV9.out.len (Below.refl _ _)
            clear hC e1 ho hnd hV hG
            go_upto_region 17 with (fail)
            go_region_with
              (first
                | (go_at_call 56; go_loud ((with_reducible refine Calls.mono (five_any _) ?_); rintro en we ⟨a5, rfl, hI5, hb5⟩; have hT : Below w9.heap.size w9 we := Below.step (by (first | with_reducible exact (Below.refl w9.heap.size w9) | with_reducible exact Below.drew (Below.refl w9.heap.size w9) | with_reducible exact Below.step (Below.refl w9.heap.size w9) (Below.new _ _) | with_reducible exact Below.step (Below.drew (Below.refl w9.heap.size w9)) (Below.new _ _) | with_reducible exact Below.drew (Below.step (Below.refl w9.heap.size w9) (Below.new _ _)))) hb5; obtain ⟨g5, g6⟩ := out_at HX9.out HV9.out.len hT))
                | (go_at_call 55; go_loud ((with_reducible refine Calls.mono (says_order 1 l9 a5 _ ?_ ?_) ?_); (refine HV9.out.below ?_; (first | with_reducible exact hT | with_reducible exact Below.drew hT | with_reducible exact Below.step hT (Below.new _ _) | with_reducible exact Below.step (Below.drew hT) (Below.new _ _) | with_reducible exact Below.drew (Below.step hT (Below.new _ _)))); (refine TL.below hI5 ?_; (first | with_reducible exact (Below.refl we.heap.size we) | with_reducible exact Below.drew (Below.refl we.heap.size we) | with_reducible exact Below.step (Below.refl we.heap.size we) (Below.new _ _) | with_reducible exact Below.step (Below.drew (Below.refl we.heap.size we)) (Below.new _ _) | with_reducible exact Below.drew (Below.step (Below.refl we.heap.size we) (Below.new _ _)))); rintro en wf ⟨rfl, hb6⟩; have hU : Below w9.heap.size w9 wf := Below.step (by (first | with_reducible exact hT | with_reducible exact Below.drew hT | with_reducible exact Below.step hT (Below.new _ _) | with_reducible exact Below.step (Below.drew hT) (Below.new _ _) | with_reducible exact Below.drew (Below.step hT (Below.new _ _)))) hb6)))
            all_goals
              have HZ : Hid (Below w.heap.size w wf) := Lib.hid (HB9.out.trans (hU.mono HB9.out.size))
              clear hU
              go_wp2_with fail
              go_ret
              first
                | exact ⟨rfl, HZ.out⟩
                | exact ⟨rfl, HZ.out.drew⟩
    · have ca := HA.out.cell (i := 3) rfl
      go_wp2_with fail
      obtain ⟨x, hx⟩ : ∃ x, x = bringI a3 4 := ⟨_, rfl⟩
      have hx4 : 0 ≤ x ∧ x < 4 := by rw [hx]; exact bring4' _
      refine Calls.mono (bring_any a3 4 _ (by decide) (by decide)) ?_
      rintro en wq1 ⟨rfl, rfl⟩
      rw [← hx]
      clear hx
      obtain ⟨L1, L2, L3, L4, L5, L6⟩ := look_plain 3 (by decide) q HQ.out.1 x (mem4 hx4)
      obtain ⟨q', hq'⟩ : ∃ z, z = set4 3 x q := ⟨_, rfl⟩
      rw [← hq'] at L1 L2 L3 L4 L5 L6
      have hbm : max ((manyQ q' 0 : Nat) : Int) (max ((manyQ q' 1 : Nat) : Int) (max ((manyQ q' 2 : Nat) : Int) ((manyQ q' 3 : Nat) : Int))) = (bestQ q' : Nat) := by rw [L3]; omega
      have HBM := Lib.hid hbm
      have HLK : Hid (q' ∈ Dk (3 + 1) ∧ (3 ≤ bestQ q' ↔ 3 ≤ manyQ q' x) ∧ ((bestQ q' : Int) < 3 ↔ oddQ q' = true) ∧ bestQ q' ≤ 4) := Lib.hid ⟨L1, L4 HQ.out.2, L5, L6⟩
      have cm := many_cell HM.out hx4
      have fm := HM.out.free x.toNat
      have hm5 : manyQ q x ≤ 4 := look_rest 3 (by decide) q HQ.out.1 x (mem4 hx4)
      have hw1 : IntKind.i64.wrap ((manyQ q x : Nat) + 1) = (manyQ q x : Nat) + 1 := IntWalk.i64_in _ (by omega)
      have HM' := Lib.hid (many_set HM.out hx4 L2)
      have hx0 : 0 ≤ x := hx4.1
      have hx3 : x < 4 := hx4.2
      have hwu : IntKind.u8.wrap x = x := by rcases in4 hx4 with h | h | h | h <;> rw [h] <;> rfl
      have HQ' := Lib.hid hq'
      have hw5 : IntKind.i64.wrap 8 = 8 := IntWalk.i64_in _ (by decide)
      clear L1 L2 L3 L4 L5 L6 hx4 ca hm5 hbm hq'
      go_upto_region 12 with (fail)
      obtain ⟨w6, hw6⟩ : ∃ z, z = wr.setCell ⟨xm, x.toNat, none⟩ (.int .i64 ((manyQ q x : Nat) + 1)) := ⟨_, rfl⟩
      have hm0 := HM0.out
      have HC6 : Hid (Sys w.heap.size w6 p 10 (mapC 1 2 (ansQ q))) := Lib.hid (by rw [hw6]; exact Sys.setCell HC.out HM.out (by decide) (by decide) _ _)
      have HG6 : Hid (Blk w6 g (wishL (lookW 1) wa wq) 88) := Lib.hid (by rw [hw6]; exact HG.out.other (by omega) _ _)
      have HN6 : Hid (Blk w6 x2 (noteL 14 31 (lookW 1).group (lookW 1).epoch (.slice (some ⟨g, 0, none⟩) 1 1) zeroA 0 0) 81) := Lib.hid (by rw [hw6]; exact HN.out.other (by omega) _ _)
      have HA6 : Hid (Blk w6 w.heap.size [.int .i64 a0, .int .i64 a1, .int .i64 a2, .int .i64 a3] 57) := Lib.hid (by rw [hw6]; exact HA.out.other (by omega) _ _)
      have HB6 : Hid (Below w.heap.size w w6) := Lib.hid (by rw [hw6]; exact HB.out.setCell (by simp; omega) _)
      rw [← hw6] at HM' ⊢
      clear hw6 hm0 HM HC HG HN HA HB cm fm hw1
      have m0 := HM'.out.cell (i := 0) rfl
      have m1 := HM'.out.cell (i := 1) rfl
      have m2 := HM'.out.cell (i := 2) rfl
      have m3 := HM'.out.cell (i := 3) rfl
      go_upto_region 13 with (fail)
      rw [HBM.out]
      clear m0 m1 m2 m3
      have HL6 : Hid (w.heap.size ≤ w6.heap.size) := Lib.hid HB6.out.size
      have hZ0 : Below w6.heap.size w6 w6 := Below.refl _ _
      obtain ⟨y0, y1⟩ := note81_at HN6.out rfl hZ0
      obtain ⟨y2, y3⟩ := note81_at HN6.out rfl (Below.new w6 (.cells out0.toArray 90))
      obtain ⟨y4, y5⟩ := note81_at HN6.out rfl (Below.step hZ0.drew (Below.new w6.drew (.cells out0.toArray 90)))
      go_upto_region 13 with (fail)
      go_cut [9, 10] from 41 to 52 (fun v8 v9 wx => TookS w.heap.size w6 wx p (10 + 2) (stepC 1 2 (set4 3 x q) x) (stepO 1 2 (set4 3 x q) x) v8 v9)
      case first =>
        go_region_with
          (first
            | (go_at_call 51; go_loud ((with_reducible refine Calls.mono (read_any x _ (by omega) (by omega)) ?_); rintro en wd ⟨v, rfl, ⟨da, dc, na, nc, hv, ⟨hX, hXn⟩, hY, hYn⟩, hb⟩; have hv : v = .agg (ansL (readA x) da dc na nc).toArray := hv; subst hv; have hS : Below w6.heap.size w6 wd := Below.step (by (first | with_reducible exact hZ0 | with_reducible exact Below.drew hZ0 | with_reducible exact Below.step hZ0 (Below.new _ _) | with_reducible exact Below.step (Below.drew hZ0) (Below.new _ _) | with_reducible exact Below.drew (Below.step hZ0 (Below.new _ _)))) hb; obtain ⟨g1, g2⟩ := note81_at HN6.out rfl hS; obtain ⟨g3, g4⟩ := note81_at HN6.out rfl (Below.step hS (Below.new wd (.cells out0.toArray 90))); obtain ⟨g5, g6⟩ := note81_at HN6.out rfl (Below.step hS.drew (Below.new wd.drew (.cells out0.toArray 90))); (first | (have hx8 : Blk wd w6.heap.size out0 90 := Blk.below (Blk.new w6 out0 90) (by with_reducible exact hb)) | (have hx8 : Blk wd w6.heap.size out0 90 := Blk.below (Blk.new w6.drew out0 90) (by with_reducible exact hb)) | (have hx8 : Blk wd w6.heap.size out0 90 := Blk.below (Blk.below (Blk.new w6 out0 90) (Below.refl _ _).drew) (by with_reducible exact hb)) | skip)))
            | (go_at_call 50; go_loud ((with_reducible refine Calls.mono (reply_any 8 14 31 (lookW 1) g wa wq (readA x) da dc na nc _ ?_) ?_); (refine HG6.out.below ?_; (first | with_reducible exact hS | with_reducible exact Below.drew hS | with_reducible exact Below.step hS (Below.new _ _) | with_reducible exact Below.step (Below.drew hS) (Below.new _ _) | with_reducible exact Below.drew (Below.step hS (Below.new _ _)))); rintro en we ⟨rfl, hb2⟩; have hT0 : Below wd.heap.size wd we := Below.step (by (first | with_reducible exact (Below.refl wd.heap.size wd) | with_reducible exact Below.drew (Below.refl wd.heap.size wd) | with_reducible exact Below.step (Below.refl wd.heap.size wd) (Below.new _ _) | with_reducible exact Below.step (Below.drew (Below.refl wd.heap.size wd)) (Below.new _ _) | with_reducible exact Below.drew (Below.step (Below.refl wd.heap.size wd) (Below.new _ _)))) hb2; have hT : Below w6.heap.size w6 we := Below.step hS hT0; have hX' : BL we da (readA x).data := hX.below hT0; have hY' : IL we na (readA x).nodes := TL.below hY hT0; (first | (have hx8 := Blk.below hx8 hT0) | (have hx8 : Blk we wd.heap.size out0 90 := Blk.below (Blk.new wd out0 90) (by with_reducible exact hb2)) | (have hx8 : Blk we wd.heap.size out0 90 := Blk.below (Blk.new wd.drew out0 90) (by with_reducible exact hb2)) | (have hx8 : Blk we wd.heap.size out0 90 := Blk.below (Blk.below (Blk.new wd out0 90) (Below.refl _ _).drew) (by with_reducible exact hb2)) | skip)))
            | (go_at_call 52; go_loud ((with_reducible refine Calls.mono (take_mapS w.heap.size p (10) 1 2 (by decide) q 3 x 8 (by decide) rfl (by omega) da dc na nc _ ?_ ?_ ?_ hXn ?_ hYn) ?_); (omega); (refine Sys.below HC6.out ?_; (first | with_reducible exact hT | with_reducible exact Below.drew hT | with_reducible exact Below.step hT (Below.new _ _) | with_reducible exact Below.step (Below.drew hT) (Below.new _ _) | with_reducible exact Below.drew (Below.step hT (Below.new _ _)))); (refine hX'.below ?_; (first | with_reducible exact (Below.refl we.heap.size we) | with_reducible exact Below.drew (Below.refl we.heap.size we) | with_reducible exact Below.step (Below.refl we.heap.size we) (Below.new _ _) | with_reducible exact Below.step (Below.drew (Below.refl we.heap.size we)) (Below.new _ _) | with_reducible exact Below.drew (Below.step (Below.refl we.heap.size we) (Below.new _ _)))); (refine TL.below hY' ?_; (first | with_reducible exact (Below.refl we.heap.size we) | with_reducible exact Below.drew (Below.refl we.heap.size we) | with_reducible exact Below.step (Below.refl we.heap.size we) (Below.new _ _) | with_reducible exact Below.step (Below.drew (Below.refl we.heap.size we)) (Below.new _ _) | with_reducible exact Below.drew (Below.step (Below.refl we.heap.size we) (Below.new _ _)))); rintro en wf ⟨l', rfl, q1, q2, q3⟩; have p3 : Stp w.heap.size w6 wf := Stp.trans (Stp.of_below (by (first | with_reducible exact hT | with_reducible exact Below.drew hT | with_reducible exact Below.step hT (Below.new _ _) | with_reducible exact Below.step (Below.drew hT) (Below.new _ _) | with_reducible exact Below.drew (Below.step hT (Below.new _ _)))) HL6.out) q3; (first | (have hx8 := q3.blk (Blk.below hx8 (by (first | with_reducible exact (Below.refl we.heap.size we) | with_reducible exact Below.drew (Below.refl we.heap.size we) | with_reducible exact Below.step (Below.refl we.heap.size we) (Below.new _ _) | with_reducible exact Below.step (Below.drew (Below.refl we.heap.size we)) (Below.new _ _) | with_reducible exact Below.drew (Below.step (Below.refl we.heap.size we) (Below.new _ _))))) (by decide)) | (have hx8 : Blk wf we.heap.size out0 90 := q3.blk (Blk.new we out0 90) (by decide)) | (have hx8 : Blk wf we.heap.size out0 90 := q3.blk (Blk.new we.drew out0 90) (by decide)) | (have hx8 : Blk wf we.heap.size out0 90 := q3.blk (Blk.below (Blk.new we out0 90) (Below.refl _ _).drew) (by decide)) | skip); (first | (have m0 := hx8.room (o := 0) (n := 75) (by rw [out0_len]; exact Nat.le_refl _)) | skip); obtain ⟨m1, m2, _⟩ := put_out q2; obtain ⟨m3, _⟩ := put_out (q2.below (Below.refl _ _).drew))))
        all_goals
          have T1 := Lib.hid (tookS_of (Stp.refl _ _) HL6.out q1 q2 p3)
          have T3 := Lib.hid (tookS_of (Stp.refl _ _) HL6.out q1.drw (q2.below (Below.refl _ _).drew) (p3.drw HL6.out))
          (first
            | (have T2 := Lib.hid (tookS_early HL6.out q1 q2 p3 hx8 (by first | exact Nat.le_refl _ | exact hS.size | exact hT.size))
               have T4 := Lib.hid (tookS_early HL6.out q1.drw (q2.below (Below.refl _ _).drew) (p3.drw HL6.out) (hx8.below (Below.refl _ _).drew) (by first | exact Nat.le_refl _ | exact hS.size | exact hT.size)))
            | skip)
          go_wp2_with fail
          go_meet
          first
            | with_reducible exact T1.out
            | with_reducible exact T2.out
            | with_reducible exact T3.out
            | with_reducible exact T4.out
            | with_reducible exact T1.out.drw HL6.out
            | with_reducible exact T2.out.drw HL6.out
      case rest =>
        obtain ⟨x9, l9, rfl, rfl, hG, hV, hC, hS⟩ := hcut
        obtain ⟨w9, hw⟩ : ∃ x, x = wc := ⟨_, rfl⟩
        rw [← hw] at hG hV hC hS ⊢
        clear hw
        rw [← HQ'.out] at hC hV
        have HG9 := Lib.hid (hS.blk HG6.out (by decide))
        have HN9 := Lib.hid (hS.blk HN6.out (by decide))
        have HA9 := Lib.hid (hS.blk HA6.out (by decide))
        have HM9 : Hid (Many w9 xm q') := Lib.hid (hS.blk HM'.out (by decide))
        have HB9 := Lib.hid (HB6.out.trans hS.low)
        clear hS HG6 HN6 HA6 HM' HB6 HC6 hZ0 y0 y1 y2 y3 y4 y5 hwu
        have hb4 := HLK.out.2.2.2
        by_cases hd : 3 ≤ bestQ q'
        · have hd' : (3 : Int) ≤ (bestQ q' : Nat) := by omega
          rw [(stepC_end 1 2 q' x (HLK.out.2.1.1 hd)).2] at hV
          obtain ⟨da0, dc0, na0, nc0, ⟨P60, _⟩, _⟩ := hV.parts
          replace P60 : l9[60]? = some (.bool true) := P60
          have k60 := hG.cell P60
          clear hV hC hG P60
          go_wp2_with fail
          go_ret
          exact ⟨rfl, HB9.out⟩
        · have hd' : ¬ (3 : Int) ≤ (bestQ q' : Nat) := by omega
          have hw2 : IntKind.i64.wrap ((bestQ q' : Nat) + 3) = (bestQ q' : Nat) + 3 := IntWalk.i64_in _ (by omega)
          have hw3 : IntKind.i64.wrap ((bestQ q' : Nat) + 3 - 3) = (bestQ q' : Nat) + 3 - 3 := IntWalk.i64_in _ (by omega)
          have hnd : ¬ 3 ≤ manyQ q' x := fun h => hd (HLK.out.2.1.2 h)
          cases ho : oddQ q'
          · exact absurd (HLK.out.2.2.1.1 (by omega)) (by rw [ho]; decide)
          · have hlt : ((bestQ q' : Nat) : Int) + 3 - 3 < 3 := by have := HLK.out.2.2.1.2 ho; omega
            have e1 : stepO 1 2 q' x = againO (mapC 1 3 (fun _ => none)) Ou.zero := by unfold stepO; rw [if_neg hnd, if_pos ⟨rfl, ho⟩]
            rw [e1] at hV
            have HV9 := Lib.hid hV
            have HX9 := Lib.hid hG
            obtain ⟨g1, g2⟩ := out_at HX9.out HV9.out.len (Below.refl _ _)
            clear hC e1 ho hnd hV hG
            go_upto_region 17 with (fail)
            go_region_with
              (first
                | (go_at_call 56; go_loud ((with_reducible refine Calls.mono (five_any _) ?_); rintro en we ⟨a5, rfl, hI5, hb5⟩; have hT : Below w9.heap.size w9 we := Below.step (by (first | with_reducible exact (Below.refl w9.heap.size w9) | with_reducible exact Below.drew (Below.refl w9.heap.size w9) | with_reducible exact Below.step (Below.refl w9.heap.size w9) (Below.new _ _) | with_reducible exact Below.step (Below.drew (Below.refl w9.heap.size w9)) (Below.new _ _) | with_reducible exact Below.drew (Below.step (Below.refl w9.heap.size w9) (Below.new _ _)))) hb5; obtain ⟨g5, g6⟩ := out_at HX9.out HV9.out.len hT))
                | (go_at_call 55; go_loud ((with_reducible refine Calls.mono (says_order 1 l9 a5 _ ?_ ?_) ?_); (refine HV9.out.below ?_; (first | with_reducible exact hT | with_reducible exact Below.drew hT | with_reducible exact Below.step hT (Below.new _ _) | with_reducible exact Below.step (Below.drew hT) (Below.new _ _) | with_reducible exact Below.drew (Below.step hT (Below.new _ _)))); (refine TL.below hI5 ?_; (first | with_reducible exact (Below.refl we.heap.size we) | with_reducible exact Below.drew (Below.refl we.heap.size we) | with_reducible exact Below.step (Below.refl we.heap.size we) (Below.new _ _) | with_reducible exact Below.step (Below.drew (Below.refl we.heap.size we)) (Below.new _ _) | with_reducible exact Below.drew (Below.step (Below.refl we.heap.size we) (Below.new _ _)))); rintro en wf ⟨rfl, hb6⟩; have hU : Below w9.heap.size w9 wf := Below.step (by (first | with_reducible exact hT | with_reducible exact Below.drew hT | with_reducible exact Below.step hT (Below.new _ _) | with_reducible exact Below.step (Below.drew hT) (Below.new _ _) | with_reducible exact Below.drew (Below.step hT (Below.new _ _)))) hb6)))
            all_goals
              have HZ : Hid (Below w.heap.size w wf) := Lib.hid (HB9.out.trans (hU.mono HB9.out.size))
              clear hU
              go_wp2_with fail
              go_ret
              first
                | exact ⟨rfl, HZ.out⟩
                | exact ⟨rfl, HZ.out.drew⟩
end Go.Proofs.Ytldcpnabgpjgiaa.Walks
