/-
  The walk of the client's Map.
-/
import Derived.Test.YtldcpnabgpjgiaaDiskKB
namespace Go.Proofs.Ytldcpnabgpjgiaa.Walks
open Go.RowKit Plain
set_option linter.unusedVariables false
attribute [local go_sem] isPV_mk adV_mk cells_agg cells_agg' held_drew room_drew cellsAt_drew isA4_mk isSl_mk isI_mk intOf_mk
attribute [local go_sem ↓] exec_load88 exec_store88 exec_load81 exec_store81 exec_load90 exec_store90 Go.wp_at_zero Go.wp_at_succ exec_alloc81 exec_build81r exec_build81s exec_bs69 exec_alloc90 exec_build90n
attribute [local irreducible] out0

theorem z24 : (Try.prog.info? 24).map (·.size) = some 2 := by kernel_rfl
set_option maxRecDepth 100000 in
set_option maxHeartbeats 1000000 in
theorem map_nil (v : Value) (k : Int) (w : World) (h : NilC w v) : Calls Try.prog 66 #[v, .int .i64 k] w fun e w' => e = .returned (.tuple #[.agg #[.int .i64 0, .slice none 0 0], .int .i64 0, .bool false]) ∧ Below w.heap.size w w' := by
  obtain ⟨w1, hw1⟩ : ∃ x, x = w.alloc (.cells #[.int .i64 0, .slice none 0 0] 24) := ⟨_, rfl⟩
  have H : Hid (NilC w1 v) := Lib.hid (by rw [hw1]; exact h.below (Below.new _ _))
  have hX1 : Blk w1 w.heap.size [.int .i64 0, .slice none 0 0] 24 := by rw [hw1]; exact Blk.new _ _ _
  have hB : Below w.heap.size w w1 := by rw [hw1]; exact Below.new _ _
  have HX := Lib.hid hX1
  have HB := Lib.hid hB
  clear h hX1 hB
  go_enter Try.func66, Try.ntmps66
  go_upto_region 1 with (fail)
  rw [← hw1]
  clear hw1
  go_wp2_with fail
  refine Calls.mono (cnone_nil v w1 H.out) ?_
  rintro e w2 ⟨rfl, rfl⟩
  have c0 := HX.out.cell (i := 0) rfl
  have c1 := HX.out.cell (i := 1) rfl
  have f0 := HX.out.free 0
  have f1 := HX.out.free 1
  go_wp2_with fail
  have hs := (HX.out.set 0 (.int .i64 0)).set 1 (.slice none 0 0)
  have r1 := load_blk Try.underlying24 rfl z24 hs rfl
  have hb2 := (HB.out.setCell (p := ⟨w.heap.size, 0, none⟩) (Nat.le_refl _) (.int .i64 0)).setCell (p := ⟨w.heap.size, 1, none⟩) (Nat.le_refl _) (.slice none 0 0)
  refine bodyPost_ret (v := .tuple #[.agg #[.int .i64 0, .slice none 0 0], .int .i64 0, .bool false]) (by simp [results, Try.results66, asAddr, r1, Result.andThen]) rfl ?_
  exact ⟨rfl, hb2⟩
/-- What Map tells. -/
def MapP (m : Option (List Int × Int)) (w : World) (e : Ending) (w' : World) : Prop := ∃ (f ep : Int) (a : Option Addr) (n cap : Nat), e = .returned (.tuple #[.agg #[.int .i64 f, .slice a n cap], .int .i64 ep, .bool m.isSome]) ∧ (∀ z, m = some z → ep = z.2 ∧ n = z.1.length ∧ IL w' a z.1) ∧ Below w.heap.size w w'
theorem MapP.drw {m : Option (List Int × Int)} {w w' : World} {e : Ending} (h : MapP m w e w') : MapP m w e w'.drew := by
  obtain ⟨f, ep, a, n, cap, h1, h2, h3⟩ := h
  exact ⟨f, ep, a, n, cap, h1, fun z hz => ⟨(h2 z hz).1, (h2 z hz).2.1, TL.below (h2 z hz).2.2 (Below.refl _ _).drew⟩, h3.drew⟩
set_option maxRecDepth 100000 in
set_option maxHeartbeats 1000000 in
theorem map_is (p r1 r2 N : Nat) (c : Cl) (k : Int) (w : World) (h : CliAt w p r1 r2 N c) (hk : Wf k) (hl : ∀ z, c.maps k = some z → z.1.length ≤ 100) :
    Calls Try.prog 66 #[.pointer (some ⟨p, 0, none⟩), .int .i64 k] w (MapP (c.maps k) w) := by
  obtain ⟨w1, hw1⟩ : ∃ x, x = w.alloc (.cells #[.int .i64 0, .slice none 0 0] 24) := ⟨_, rfl⟩
  have hX1 : Blk w1 w.heap.size [.int .i64 0, .slice none 0 0] 24 := by rw [hw1]; exact Blk.new _ _ _
  have hB : Below w.heap.size w w1 := by rw [hw1]; exact Below.new _ _
  have hC1 := h.below hB
  obtain ⟨f, a, n, cap, ep, l1, l2, hr⟩ := hC1.mapM.look hk
  obtain ⟨b, hb⟩ : ∃ b, b = (c.maps k).isSome := ⟨_, rfl⟩
  rw [← hb] at l2
  have k2 := l2 w1 rfl
  have c4 := hC1.c4
  obtain ⟨ls, hls, hI, hn0, hlen⟩ : ∃ ls : List Int, n = ls.length ∧ Ints w1 a ls ∧ (a = none → cap = 0) ∧ ls.length ≤ 100 ∧ (∀ z, c.maps k = some z → ep = z.2 ∧ ls = z.1) := by
    cases hm : c.maps k with
    | none =>
      rw [hm] at hr
      obtain ⟨rfl, rfl, rfl, rfl, rfl⟩ := hr
      exact ⟨[], rfl, Ints.nil _ _, fun _ => rfl, by simp, fun z hz => by cases hz⟩
    | some m =>
      rw [hm] at hr
      obtain ⟨rfl, rfl, rfl, h1, h2⟩ := hr
      exact ⟨m.1, rfl, h1.ints, h2, hl m hm, fun z hz => by cases hz; exact ⟨rfl, rfl⟩⟩
  subst hls
  obtain ⟨hlen, hz⟩ := hlen
  have HX := Lib.hid hX1
  have HB := Lib.hid hB
  have HI := Lib.hid hI
  have HN := Lib.hid hn0
  have HZ := Lib.hid hz
  have HBB := Lib.hid hb
  clear h hX1 hB hC1 hr l1 l2 hI hn0 hz hk hl hb
  go_enter Try.func66, Try.ntmps66
  go_upto_region 1 with (fail)
  rw [← hw1]
  clear hw1
  go_wp2_with fail
  refine Calls.mono (cnone_is p r1 w1 c4) ?_
  rintro e w2 ⟨rfl, rfl⟩
  go_upto_region 4 with (fail)
  obtain ⟨w2, hw2⟩ : ∃ x, x = w1.alloc (.cells #[.int .i64 f, .slice a ls.length cap, .int .i64 ep] 160) := ⟨_, rfl⟩
  obtain ⟨x2, hx2⟩ : ∃ x, x = w1.heap.size := ⟨_, rfl⟩
  have hb2 : Below w1.heap.size w1 w2 := by rw [hw2]; exact Below.new _ _
  have hP : Blk w2 x2 [.int .i64 f, .slice a ls.length cap, .int .i64 ep] 160 := by rw [hw2, hx2]; exact Blk.new _ _ _
  have HXS : Hid (w.heap.size < x2) := Lib.hid (by rw [hx2]; exact HX.out.lt)
  rw [← hw2]
  rw [← hx2]
  clear hw2 hx2 k2 c4
  have HX2 := Lib.hid (HX.out.below hb2)
  have HB2 := Lib.hid (Below.step HB.out hb2)
  have HP := Lib.hid hP
  have hI2 := HI.out.below hb2
  have HI2 := Lib.hid hI2
  have c1 := hP.cell (i := 1) rfl
  clear hb2 hP hI2
  go_wp2_with fail
  refine Calls.mono (clone_any a cap ls w2 HI2.out HN.out (by omega)) ?_
  rintro e w3 ⟨a', cap', rfl, hOwn, hb3, _⟩
  have hI3 : Ints w3 a' ls := Own.ints hOwn (by omega)
  have hP3 := HP.out.below hb3
  have f1 := hP3.free 1
  have c1 := hP3.cell (i := 1) rfl
  have HX3 := Lib.hid (HX2.out.below hb3)
  have HB3 := Lib.hid (Below.step HB2.out hb3)
  have HP3 := Lib.hid hP3
  have HI3 := Lib.hid hI3
  have HOW := Lib.hid hOwn
  clear hOwn hb3 hI3 hP3
  go_upto_region 5 with (fail)
  obtain ⟨w4, hw4⟩ : ∃ x, x = w3.setCell ⟨x2, 1, none⟩ (.slice a' ls.length cap') := ⟨_, rfl⟩
  have hxs := HXS.out
  have hP4 : Blk w4 x2 [.int .i64 f, .slice a' ls.length cap', .int .i64 ep] 160 := by rw [hw4]; exact HP3.out.set 1 _
  have hX4 : Blk w4 w.heap.size [.int .i64 0, .slice none 0 0] 24 := by rw [hw4]; exact HX3.out.other (by omega) _ _
  have hB4 : Below w.heap.size w w4 := by rw [hw4]; exact HB3.out.setCell (by simp; omega) _
  have hI4 : IL w4 a' ls := by rw [hw4]; exact TL.set (Own.il HOW.out (by omega)) HP3.out (by decide) 1 _
  rw [← hw4]
  clear hw4 f1 c1
  have hfin : ∀ wz, Below w4.heap.size w4 wz → (loadVar 24 ⟨w.heap.size, 0, none⟩).run Try.prog ((wz.setCell ⟨w.heap.size, 0, none⟩ (.int .i64 f)).setCell ⟨w.heap.size, 1, none⟩ (.slice a' ls.length cap')) = .ok (.agg #[.int .i64 f, .slice a' ls.length cap']) ((wz.setCell ⟨w.heap.size, 0, none⟩ (.int .i64 f)).setCell ⟨w.heap.size, 1, none⟩ (.slice a' ls.length cap')) ∧
      MapP (c.maps k) w (.returned (.tuple #[.agg #[.int .i64 f, .slice a' ls.length cap'], .int .i64 ep, .bool b])) ((wz.setCell ⟨w.heap.size, 0, none⟩ (.int .i64 f)).setCell ⟨w.heap.size, 1, none⟩ (.slice a' ls.length cap')) ∧ (loadVar 24 ⟨w.heap.size, 0, none⟩).run Try.prog ((wz.setCell ⟨w.heap.size, 0, none⟩ (.int .i64 f)).setCell ⟨w.heap.size, 1, none⟩ (.slice a' ls.length cap')).drew = .ok (.agg #[.int .i64 f, .slice a' ls.length cap']) ((wz.setCell ⟨w.heap.size, 0, none⟩ (.int .i64 f)).setCell ⟨w.heap.size, 1, none⟩ (.slice a' ls.length cap')).drew := by
    intro wz hz
    have hXz := hX4.below hz
    have hs := (hXz.set 0 (.int .i64 f)).set 1 (.slice a' ls.length cap')
    refine ⟨load_blk Try.underlying24 rfl z24 hs rfl, ⟨f, ep, a', ls.length, cap', by rw [HBB.out], fun z hq => ?_, ?_⟩, load_blk Try.underlying24 rfl z24 (hs.below (Below.refl _ _).drew) rfl⟩
    · obtain ⟨h1, h2⟩ := HZ.out z hq
      refine ⟨h1, by rw [h2], ?_⟩
      rw [← h2]
      exact TL.set (TL.set (hI4.below hz) hXz (by decide) 0 _) (hXz.set 0 (.int .i64 f)) (by decide) 1 _
    · exact ((hB4.trans (hz.mono hB4.size)).setCell (p := ⟨w.heap.size, 0, none⟩) (Nat.le_refl _) (.int .i64 f)).setCell (p := ⟨w.heap.size, 1, none⟩) (Nat.le_refl _) (.slice a' ls.length cap')
  have HF1 := Lib.hid (hfin w4 (Below.refl _ _))
  have d0 := hP4.cell (i := 0) rfl
  have d1 := hP4.cell (i := 1) rfl
  have d2 := hP4.cell (i := 2) rfl
  have x0 := hX4.cell (i := 0) rfl
  have x1 := hX4.cell (i := 1) rfl
  have f0 := hX4.free 0
  have f1 := hX4.free 1
  have hne : ¬ x2 = w.heap.size := by omega
  clear hfin hP4 hX4 hB4 hI4 hxs
  go_region
  all_goals
    go_wp2_with fail
    have rc := HF1.out.2.2
    refine bodyPost_ret (v := .tuple #[.agg #[.int .i64 f, .slice a' ls.length cap'], .int .i64 ep, .bool b]) (by simp [results, Try.results66, asAddr, rc, Result.andThen]) rfl ?_
    exact HF1.out.2.1.drw
end Go.Proofs.Ytldcpnabgpjgiaa.Walks
