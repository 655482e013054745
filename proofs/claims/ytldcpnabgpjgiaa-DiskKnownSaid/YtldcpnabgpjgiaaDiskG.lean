/-
  The walk of the client's wish.
-/
import Derived.Test.YtldcpnabgpjgiaaDiskF
namespace Go.Proofs.Ytldcpnabgpjgiaa.Walks
open Go.RowKit Plain
set_option linter.unusedVariables false
attribute [local go_sem] isPV_mk adV_mk cells_agg cells_agg' held_drew room_drew cellsAt_drew isA4_mk isSl_mk isI_mk intOf_mk
attribute [local go_sem ↓] exec_load88 exec_store88 exec_load81 exec_store81 exec_load90 exec_store90 Go.wp_at_zero Go.wp_at_succ exec_alloc81 exec_build81r exec_build81s exec_bs69

def WishP (p r1 r2 N : Nat) (c : Cl) (ep : Int) (w : World) (e : Ending) (w' : World) : Prop := ∃ a' c', e = .returned (.agg (wishL (wishC (ownC c) ep) a' c').toArray) ∧ BL w' a' c.call.data ∧ (a' = none → c' = 0) ∧ CliAt w' p r1 r2 N (ownC c) ∧ Only [p] w w'
set_option maxRecDepth 100000 in
set_option maxHeartbeats 4000000 in
theorem wish_old (p r1 r2 N : Nat) (c : Cl) (ep : Int) (w : World) (h : CliAt w p r1 r2 N c) (ho : c.own ≠ 0) : Calls Try.prog 121 #[.pointer (some ⟨p, 0, none⟩), .int .i64 ep] w (WishP p r1 r2 N c ep w) := by
  have hq : (c.own == 0) = false := by simpa using ho
  have HCC : Hid (ownC c = c) := Lib.hid (by simp [ownC, ho])
  clear ho
  obtain ⟨da, dc, la, lc, cf, cs, said, am, hP, hM⟩ := h
  have hl := hM.1
  obtain ⟨i3, i4⟩ := hM.2.2.1
  have HP := Lib.hid hP
  have HM := Lib.hid hM
  have HL := Lib.hid hl
  go_enter Try.func121, Try.ntmps121
  go_upto_region 1 with (fail)
  obtain ⟨w1, hw1⟩ : ∃ x, x = w.alloc (.cells #[.int .i64 0, .int .i64 0, .int .i64 0, .int .i64 0, .int .i64 0, .int .i64 0, .slice none 0 0, .int .i64 0, .int .i64 0, .slice none 0 0] 88) := ⟨_, rfl⟩
  have hB1 : Below w.heap.size w w1 := by rw [hw1]; exact Below.new _ _
  have hR1 : Blk w1 w.heap.size [.int .i64 0, .int .i64 0, .int .i64 0, .int .i64 0, .int .i64 0, .int .i64 0, .slice none 0 0, .int .i64 0, .int .i64 0, .slice none 0 0] 88 := by rw [hw1]; exact Blk.new _ _ _
  have hP1 := hP.below hB1
  have I3 := Lib.hid (i3.below hB1)
  have I4 := Lib.hid i4
  have c18 := hP1.cell (i := 18) rfl
  rw [← hw1]
  have HB1 := Lib.hid hB1
  have HR1 := Lib.hid hR1
  have HP1 := Lib.hid hP1
  have hpn : w.heap.size ≠ p := by have := hP.lt; omega
  have HPN := Lib.hid hpn
  clear hw1 hB1 hR1 hP1 hP hM i3 i4 hl hpn
  go_upto_region 3 with (fail)
  obtain ⟨w3, hw3⟩ : ∃ w3, w3 = w1 := ⟨_, rfl⟩
  have hP3 : Blk w3 p (cliL c da dc r1 la lc cf cs said am) 113 := by rw [hw3]; exact HP1.out
  have HR3 := Lib.hid (show Blk w3 w.heap.size [.int .i64 0, .int .i64 0, .int .i64 0, .int .i64 0, .int .i64 0, .int .i64 0, .slice none 0 0, .int .i64 0, .int .i64 0, .slice none 0 0] 88 by rw [hw3]; exact HR1.out)
  have I33 := Lib.hid (show BL w3 la c.call.data by rw [hw3]; exact I3.out)
  have HO3 : Hid (Only [p] w1 w3) := Lib.hid (by rw [hw3]; exact Only.refl _ _)
  rw [← hw3]
  clear hw3 c18 hq
  have HP3 := Lib.hid hP3
  have e1 : cellsAt w3 ⟨p, 8, none⟩ 10 = wishL c.call la lc := hP3.cells (o := 8) (n := 10) (by simp [cliL, cliP, HL.out])
  have e2 := hP3.held (o := 8) (n := 10) (by simp [cliL, cliP, HL.out])
  clear hP3
  go_wp2_with fail
  refine Calls.mono (ownWish_any c.call la lc _ I33.out I4.out) ?_
  rintro e w4 ⟨a', c', rfl, hD, hn, hb4⟩
  have HP4 := Lib.hid (HP3.out.below hb4)
  have HR4 := Lib.hid (HR3.out.below hb4)
  have HO4 := Lib.hid (HO3.out.trans (Only.of_below hb4))
  have hz4 : w.heap.size < w4.heap.size := HR4.out.lt
  have hT := Blk.new w4 [.int .i64 0, .int .i64 0, .int .i64 0, .int .i64 0, .int .i64 0, .int .i64 0, .slice none 0 0, .int .i64 0, .int .i64 0, .slice none 0 0] 88
  have e3 := hT.room (o := 0) (n := 10) (Nat.le_refl _)
  have e4 := wish_agg c.call a' c'
  have HD := Lib.hid hD
  have HT := Lib.hid hT
  clear e1 e2 hD hb4 hT
  go_upto_region 4 with (fail)
  obtain ⟨w5, hw5⟩ : ∃ x, x = (w4.alloc (.cells #[.int .i64 0, .int .i64 0, .int .i64 0, .int .i64 0, .int .i64 0, .int .i64 0, .slice none 0 0, .int .i64 0, .int .i64 0, .slice none 0 0] 88)).setCells w4.heap.size 0 (wishL c.call a' c') := ⟨_, rfl⟩
  have hT5 : Blk w5 w4.heap.size (wishL c.call a' c') 88 := by
    rw [hw5]; have := HT.out.sets (wishL c.call a' c') 0 (Nat.le_refl _)
    rw [spl_all (by rfl)] at this; exact this
  have hB5 : Below w4.heap.size w4 w5 := by rw [hw5]; exact below_sets (Nat.le_refl _) _ 0 (Below.new _ _)
  rw [← hw5]
  clear hw5 e3 e4
  have hP5 := HP4.out.below hB5
  have c18 := hP5.cell (i := 18) rfl
  have t1 := hT5.cell (i := 1) rfl
  have t3 := hT5.cell (i := 3) rfl
  have s1 := hT5.free 1
  have s3 := hT5.free 3
  have hT6 : Blk ((w5.setCell ⟨w4.heap.size, 1, none⟩ (.int .i64 c.own)).setCell ⟨w4.heap.size, 3, none⟩ (.int .i64 ep)) w4.heap.size (wishL (wishC c ep) a' c') 88 := (hT5.set 1 (.int .i64 c.own)).set 3 (.int .i64 ep)
  have hR6 := (((HR4.out.below hB5).other (g' := w4.heap.size) (by omega) 1 (.int .i64 c.own)).other (g' := w4.heap.size) (by omega) 3 (.int .i64 ep))
  have e1 : cellsAt ((w5.setCell ⟨w4.heap.size, 1, none⟩ (.int .i64 c.own)).setCell ⟨w4.heap.size, 3, none⟩ (.int .i64 ep)) ⟨w4.heap.size, 0, none⟩ 10 = wishL (wishC c ep) a' c' := hT6.cells (Nat.le_refl _)
  have e2 := hT6.held (o := 0) (n := 10) (Nat.le_refl _)
  have e3 := hR6.room (o := 0) (n := 10) (Nat.le_refl _)
  have e4 := wish_agg (wishC c ep) a' c'
  have hR7 := hR6.sets (wishL (wishC c ep) a' c') 0 (Nat.le_refl _)
  rw [spl_all (by rfl)] at hR7
  have hB6 : Below w4.heap.size w4 ((w5.setCell ⟨w4.heap.size, 1, none⟩ (.int .i64 c.own)).setCell ⟨w4.heap.size, 3, none⟩ (.int .i64 ep)) := (hB5.setCell (by simp) _).setCell (by simp) _
  have hP7 := (HP4.out.below hB6).others (g' := w.heap.size) (Ne.symm HPN.out) 0 (wishL (wishC c ep) a' c')
  have hO7 : Only [p] w (((w5.setCell ⟨w4.heap.size, 1, none⟩ (.int .i64 c.own)).setCell ⟨w4.heap.size, 3, none⟩ (.int .i64 ep)).setCells w.heap.size 0 (wishL (wishC c ep) a' c')) := Only.setCells (.inr (Nat.le_refl _)) _ 0 (((Only.of_below HB1.out).trans HO4.out).trans (Only.of_below hB6))
  have HR7 := Lib.hid hR7
  have HO7 := Lib.hid hO7
  have HB6 := Lib.hid hB6
  have HR6 := Lib.hid hR6
  have HP7 := Lib.hid hP7
  clear hT5 hB5 hP5 hT6 hR6 hR7 hB6 hO7 hP7
  go_wp2_with fail
  have r1 := load_blk Try.underlying88 rfl z88 HR7.out rfl
  refine bodyPost_ret (v := .agg (wishL (wishC c ep) a' c').toArray) (by simp [results, Try.results121, asAddr, r1]) rfl ?_
  exact ⟨a', c', by rw [HCC.out], (HD.out.below HB6.out).sets HR6.out (by decide) 0 _, hn, by rw [HCC.out]; exact ⟨da, dc, la, lc, cf, cs, said, am, HP7.out, HM.out.only HP.out HO7.out⟩, HO7.out⟩
set_option maxRecDepth 100000 in
set_option maxHeartbeats 4000000 in
theorem wish_new (p r1 r2 N : Nat) (c : Cl) (ep : Int) (w : World) (h : CliAt w p r1 r2 N c) (ho : c.own = 0) (hs : 0 ≤ c.stamp ∧ c.stamp ≤ 1000000) : Calls Try.prog 121 #[.pointer (some ⟨p, 0, none⟩), .int .i64 ep] w (WishP p r1 r2 N c ep w) := by
  have hq : (c.own == 0) = true := by simpa using ho
  have HCC : Hid (ownC c = { c with stamp := c.stamp + 1, own := c.stamp + 1 }) := Lib.hid (by simp [ownC, ho])
  clear ho
  obtain ⟨da, dc, la, lc, cf, cs, said, am, hP, hM⟩ := h
  have hl := hM.1
  obtain ⟨i3, i4⟩ := hM.2.2.1
  have HP := Lib.hid hP
  have HM := Lib.hid hM
  have HL := Lib.hid hl
  go_enter Try.func121, Try.ntmps121
  go_upto_region 1 with (fail)
  obtain ⟨w1, hw1⟩ : ∃ x, x = w.alloc (.cells #[.int .i64 0, .int .i64 0, .int .i64 0, .int .i64 0, .int .i64 0, .int .i64 0, .slice none 0 0, .int .i64 0, .int .i64 0, .slice none 0 0] 88) := ⟨_, rfl⟩
  have hB1 : Below w.heap.size w w1 := by rw [hw1]; exact Below.new _ _
  have hR1 : Blk w1 w.heap.size [.int .i64 0, .int .i64 0, .int .i64 0, .int .i64 0, .int .i64 0, .int .i64 0, .slice none 0 0, .int .i64 0, .int .i64 0, .slice none 0 0] 88 := by rw [hw1]; exact Blk.new _ _ _
  have hP1 := hP.below hB1
  have I3 := Lib.hid (i3.below hB1)
  have I4 := Lib.hid i4
  have c18 := hP1.cell (i := 18) rfl
  rw [← hw1]
  have HB1 := Lib.hid hB1
  have HR1 := Lib.hid hR1
  have HP1 := Lib.hid hP1
  have hpn : w.heap.size ≠ p := by have := hP.lt; omega
  have HPN := Lib.hid hpn
  clear hw1 hB1 hR1 hP1 hP hM i3 i4 hl hpn
  have hP1 := HP1.out
  have c5 := hP1.cell (i := 5) rfl
  have f5 := hP1.free 5
  clear hP1
  go_wp2_with fail
  refine Calls.mono (next_is p c.stamp w1 c5 f5 hs) ?_
  rintro e w2 ⟨rfl, rfl⟩
  have hP2 := HP1.out.set 5 (.int .i64 (c.stamp + 1))
  have c18 := hP2.cell (i := 18) rfl
  have f18 := hP2.free 18
  have HP2 := Lib.hid hP2
  clear hP2 c5 f5 hq
  go_upto_region 3 with (fail)
  obtain ⟨w3, hw3⟩ : ∃ x, x = (w1.setCell ⟨p, 5, none⟩ (.int .i64 (c.stamp + 1))).setCell ⟨p, 18, none⟩ (.int .i64 (c.stamp + 1)) := ⟨_, rfl⟩
  have hP3 : Blk w3 p (cliL { c with stamp := c.stamp + 1, own := c.stamp + 1 } da dc r1 la lc cf cs said am) 113 := by rw [hw3]; exact HP2.out.set 18 _
  have HR3 := Lib.hid (show Blk w3 w.heap.size [.int .i64 0, .int .i64 0, .int .i64 0, .int .i64 0, .int .i64 0, .int .i64 0, .slice none 0 0, .int .i64 0, .int .i64 0, .slice none 0 0] 88 by rw [hw3]; exact (HR1.out.other HPN.out _ _).other HPN.out _ _)
  have I33 := Lib.hid (show BL w3 la c.call.data by rw [hw3]; exact (I3.out.set HP1.out (by decide) _ _).set HP2.out (by decide) _ _)
  have HO3 : Hid (Only [p] w1 w3) := Lib.hid (by rw [hw3]; exact ((Only.refl _ _).setCell (.inl (by simp)) _ _).setCell (.inl (by simp)) _ _)
  rw [← hw3]
  clear hw3 c18 f18
  have HP3 := Lib.hid hP3
  have e1 : cellsAt w3 ⟨p, 8, none⟩ 10 = wishL c.call la lc := hP3.cells (o := 8) (n := 10) (by simp [cliL, cliP, HL.out])
  have e2 := hP3.held (o := 8) (n := 10) (by simp [cliL, cliP, HL.out])
  clear hP3
  go_wp2_with fail
  refine Calls.mono (ownWish_any c.call la lc _ I33.out I4.out) ?_
  rintro e w4 ⟨a', c', rfl, hD, hn, hb4⟩
  have HP4 := Lib.hid (HP3.out.below hb4)
  have HR4 := Lib.hid (HR3.out.below hb4)
  have HO4 := Lib.hid (HO3.out.trans (Only.of_below hb4))
  have hz4 : w.heap.size < w4.heap.size := HR4.out.lt
  have hT := Blk.new w4 [.int .i64 0, .int .i64 0, .int .i64 0, .int .i64 0, .int .i64 0, .int .i64 0, .slice none 0 0, .int .i64 0, .int .i64 0, .slice none 0 0] 88
  have e3 := hT.room (o := 0) (n := 10) (Nat.le_refl _)
  have e4 := wish_agg c.call a' c'
  have HD := Lib.hid hD
  have HT := Lib.hid hT
  clear e1 e2 hD hb4 hT
  go_upto_region 4 with (fail)
  obtain ⟨w5, hw5⟩ : ∃ x, x = (w4.alloc (.cells #[.int .i64 0, .int .i64 0, .int .i64 0, .int .i64 0, .int .i64 0, .int .i64 0, .slice none 0 0, .int .i64 0, .int .i64 0, .slice none 0 0] 88)).setCells w4.heap.size 0 (wishL c.call a' c') := ⟨_, rfl⟩
  have hT5 : Blk w5 w4.heap.size (wishL c.call a' c') 88 := by
    rw [hw5]; have := HT.out.sets (wishL c.call a' c') 0 (Nat.le_refl _)
    rw [spl_all (by rfl)] at this; exact this
  have hB5 : Below w4.heap.size w4 w5 := by rw [hw5]; exact below_sets (Nat.le_refl _) _ 0 (Below.new _ _)
  rw [← hw5]
  clear hw5 e3 e4
  have hP5 := HP4.out.below hB5
  have c18 := hP5.cell (i := 18) rfl
  have t1 := hT5.cell (i := 1) rfl
  have t3 := hT5.cell (i := 3) rfl
  have s1 := hT5.free 1
  have s3 := hT5.free 3
  have hT6 : Blk ((w5.setCell ⟨w4.heap.size, 1, none⟩ (.int .i64 (c.stamp + 1))).setCell ⟨w4.heap.size, 3, none⟩ (.int .i64 ep)) w4.heap.size (wishL (wishC { c with stamp := c.stamp + 1, own := c.stamp + 1 } ep) a' c') 88 := (hT5.set 1 (.int .i64 (c.stamp + 1))).set 3 (.int .i64 ep)
  have hR6 := (((HR4.out.below hB5).other (g' := w4.heap.size) (by omega) 1 (.int .i64 (c.stamp + 1))).other (g' := w4.heap.size) (by omega) 3 (.int .i64 ep))
  have e1 : cellsAt ((w5.setCell ⟨w4.heap.size, 1, none⟩ (.int .i64 (c.stamp + 1))).setCell ⟨w4.heap.size, 3, none⟩ (.int .i64 ep)) ⟨w4.heap.size, 0, none⟩ 10 = wishL (wishC { c with stamp := c.stamp + 1, own := c.stamp + 1 } ep) a' c' := hT6.cells (Nat.le_refl _)
  have e2 := hT6.held (o := 0) (n := 10) (Nat.le_refl _)
  have e3 := hR6.room (o := 0) (n := 10) (Nat.le_refl _)
  have e4 := wish_agg (wishC { c with stamp := c.stamp + 1, own := c.stamp + 1 } ep) a' c'
  have hR7 := hR6.sets (wishL (wishC { c with stamp := c.stamp + 1, own := c.stamp + 1 } ep) a' c') 0 (Nat.le_refl _)
  rw [spl_all (by rfl)] at hR7
  have hB6 : Below w4.heap.size w4 ((w5.setCell ⟨w4.heap.size, 1, none⟩ (.int .i64 (c.stamp + 1))).setCell ⟨w4.heap.size, 3, none⟩ (.int .i64 ep)) := (hB5.setCell (by simp) _).setCell (by simp) _
  have hP7 := (HP4.out.below hB6).others (g' := w.heap.size) (Ne.symm HPN.out) 0 (wishL (wishC { c with stamp := c.stamp + 1, own := c.stamp + 1 } ep) a' c')
  have hO7 : Only [p] w (((w5.setCell ⟨w4.heap.size, 1, none⟩ (.int .i64 (c.stamp + 1))).setCell ⟨w4.heap.size, 3, none⟩ (.int .i64 ep)).setCells w.heap.size 0 (wishL (wishC { c with stamp := c.stamp + 1, own := c.stamp + 1 } ep) a' c')) := Only.setCells (.inr (Nat.le_refl _)) _ 0 (((Only.of_below HB1.out).trans HO4.out).trans (Only.of_below hB6))
  have HR7 := Lib.hid hR7
  have HO7 := Lib.hid hO7
  have HB6 := Lib.hid hB6
  have HR6 := Lib.hid hR6
  have HP7 := Lib.hid hP7
  clear hT5 hB5 hP5 hT6 hR6 hR7 hB6 hO7 hP7
  go_wp2_with fail
  have r1 := load_blk Try.underlying88 rfl z88 HR7.out rfl
  refine bodyPost_ret (v := .agg (wishL (wishC { c with stamp := c.stamp + 1, own := c.stamp + 1 } ep) a' c').toArray) (by simp [results, Try.results121, asAddr, r1]) rfl ?_
  exact ⟨a', c', by rw [HCC.out], (HD.out.below HB6.out).sets HR6.out (by decide) 0 _, hn, by rw [HCC.out]; exact ⟨da, dc, la, lc, cf, cs, said, am, HP7.out, HM.out.only HP.out HO7.out⟩, HO7.out⟩
theorem wish_is (p r1 r2 N : Nat) (c : Cl) (ep : Int) (w : World) (h : CliAt w p r1 r2 N c) (hs : 0 ≤ c.stamp ∧ c.stamp ≤ 1000000) : Calls Try.prog 121 #[.pointer (some ⟨p, 0, none⟩), .int .i64 ep] w (WishP p r1 r2 N c ep w) := by
  by_cases ho : c.own = 0
  · exact wish_new p r1 r2 N c ep w h ho hs
  · exact wish_old p r1 r2 N c ep w h ho
end Go.Proofs.Ytldcpnabgpjgiaa.Walks
