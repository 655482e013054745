/-
  The walks of ownWish, bastideref11.Same and Alike (of wishes that are one), the law's read, serves, five, directory.
-/
import Derived.Test.YtldcpnabgpjgiaaDiskC
import Derived.Deep.DrawnRows
namespace Go.Proofs.Ytldcpnabgpjgiaa.Walks
open Go.RowKit Plain
set_option linter.unusedVariables false
attribute [local go_sem] isPV_mk adV_mk cells_agg held_drew room_drew cellsAt_drew
attribute [local go_sem ↓] exec_load88 exec_store88 exec_load81 exec_store81 exec_load90 exec_store90 Go.wp_at_zero Go.wp_at_succ

theorem two_blk (w : World) (t t' : TypeId) (l l' : List Value) : ∃ w2, w2 = (w.alloc (.cells l.toArray t)).alloc (.cells l'.toArray t') ∧ Below w.heap.size w w2 ∧ w2.heap.size = w.heap.size + 2 ∧
    Blk w2 w.heap.size l t ∧ Blk w2 (w.heap.size + 1) l' t' := by
  refine ⟨_, rfl, (Below.new w _).alloc (by simp) _, by simp, ?_, ?_⟩
  · exact (Blk.new w l t).below (Below.new _ _)
  · have := Blk.new (w.alloc (.cells l.toArray t)) l' t'; simpa using this
/-- A wish's value. -/
def WiIn (w : World) (v : Value) (W : Wi) : Prop := ∃ a c, v = .agg (wishL W a c).toArray ∧ BL w a W.data ∧ (a = none → c = 0)
theorem WiIn.below {w w' : World} {v : Value} {W : Wi} (h : WiIn w v W) (hb : Below w.heap.size w w') : WiIn w' v W := by
  obtain ⟨a, c, e, h1, h2⟩ := h
  exact ⟨a, c, e, h1.below hb, h2⟩
def OwnW (W : Wi) (w : World) (e : Ending) (w' : World) : Prop := ∃ a c, e = .returned (.agg (wishL W a c).toArray) ∧ BL w' a W.data ∧ (a = none → c = 0) ∧ Below w.heap.size w w'
set_option maxRecDepth 100000 in
set_option maxHeartbeats 2000000 in
theorem ownWish_any (W : Wi) (a : Option Addr) (c : Nat) (w : World) (hD : BL w a W.data) (hn : a = none → c = 0) : Calls Try.prog 119 #[.agg (wishL W a c).toArray] w (OwnW W w) := by
  have HD := Lib.hid hD
  have HN := Lib.hid hn
  clear hD hn
  show Calls Try.prog 119 #[.agg #[.int .i64 W.client, .int .i64 W.stamp, .int .i64 W.group, .int .i64 W.epoch, .int .i64 W.kind, .int .i64 W.block, .slice a W.data.length c, .int .i64 W.old, .int .i64 W.new, .slice none 0 0]] w (OwnW W w)
  go_enter Try.func119, Try.ntmps119
  go_wp2_with fail
  obtain ⟨w2, hw2, hb2, hz2, hA, hR⟩ := two_blk w 88 88 [.int .i64 W.client, .int .i64 W.stamp, .int .i64 W.group, .int .i64 W.epoch, .int .i64 W.kind, .int .i64 W.block, .slice a W.data.length c, .int .i64 W.old, .int .i64 W.new, .slice none 0 0] [.int .i64 0, .int .i64 0, .int .i64 0, .int .i64 0, .int .i64 0, .int .i64 0, .slice none 0 0, .int .i64 0, .int .i64 0, .slice none 0 0]
  rw [← hw2]
  clear hw2
  refine Calls.mono (cloneB_any a c W.data _ (HD.out.below hb2) HN.out) ?_
  rintro e w3 ⟨a', c', rfl, hD', hn', hb⟩
  have hA := hA.below hb
  have hR := hR.below hb
  have hb3 := Below.step hb2 hb
  have k6 := hA.cell (i := 6) rfl
  have f6 := hA.free 6
  have hA1 : Blk (w3.setCell ⟨w.heap.size, 6, none⟩ (.slice a' W.data.length c')) w.heap.size (wishL W a' c') 88 := hA.set 6 _
  have hR1 := hR.other (g' := w.heap.size) (by omega) 6 (.slice a' W.data.length c')
  have e1 : cellsAt (w3.setCell ⟨w.heap.size, 6, none⟩ (.slice a' W.data.length c')) ⟨w.heap.size, 0, none⟩ 10 = wishL W a' c' := hA1.cells (Nat.le_refl _)
  have e2 := hA1.held (o := 0) (n := 10) (Nat.le_refl _)
  have e3 := hR1.room (o := 0) (n := 10) (Nat.le_refl _)
  have e4 := wish_agg W a' c'
  have hR2 := hR1.sets (wishL W a' c') 0 (by show 0 + 10 ≤ 10; omega)
  rw [spl_all (by rfl)] at hR2
  have hD2 := (hD'.set hA (by decide) 6 (.slice a' W.data.length c')).sets hR1 (by decide) 0 (wishL W a' c')
  have hB2 := below_sets (g := w.heap.size + 1) (by omega) (wishL W a' c') 0 (hb3.setCell (p := ⟨w.heap.size, 6, none⟩) (by simp) (.slice a' W.data.length c'))
  have HA := Lib.hid hA
  have HR := Lib.hid hR2
  have HD2 := Lib.hid hD2
  have HB2 := Lib.hid hB2
  clear hA hR hR1 hR2 hD' hD2 hb hb2 hb3 hB2 hA1
  go_wp2_with fail
  have r1 := load_blk Try.underlying88 rfl z88 HR.out rfl
  refine bodyPost_ret (v := .agg (wishL W a' c').toArray) (by simp [results, Try.results119, asAddr, r1]) rfl ?_
  exact ⟨a', c', rfl, HD2.out, hn', HB2.out⟩

set_option maxRecDepth 100000 in
set_option maxHeartbeats 4000000 in
/-- Same of two wishes that are one. -/
theorem sameW_is (W : Wi) (a : Option Addr) (c : Nat) (a' : Option Addr) (c' : Nat) (w : World) (hD : BL w a W.data) (hD' : BL w a' W.data) : Calls Try.prog 94 #[.agg (wishL W a c).toArray, .agg (wishL W a' c').toArray] w fun e w' => e = .returned (.bool true) ∧ Below w.heap.size w w' := by
  have HD := Lib.hid hD
  have HD' := Lib.hid hD'
  clear hD hD'
  show Calls Try.prog 94 #[.agg #[.int .i64 W.client, .int .i64 W.stamp, .int .i64 W.group, .int .i64 W.epoch, .int .i64 W.kind, .int .i64 W.block, .slice a W.data.length c, .int .i64 W.old, .int .i64 W.new, .slice none 0 0], .agg #[.int .i64 W.client, .int .i64 W.stamp, .int .i64 W.group, .int .i64 W.epoch, .int .i64 W.kind, .int .i64 W.block, .slice a' W.data.length c', .int .i64 W.old, .int .i64 W.new, .slice none 0 0]] w _
  go_enter Try.func94, Try.ntmps94
  go_wp2_with fail
  obtain ⟨w2, hw2, hb2, hz2, hA, hR⟩ := two_blk w 88 88 [.int .i64 W.client, .int .i64 W.stamp, .int .i64 W.group, .int .i64 W.epoch, .int .i64 W.kind, .int .i64 W.block, .slice a W.data.length c, .int .i64 W.old, .int .i64 W.new, .slice none 0 0] [.int .i64 W.client, .int .i64 W.stamp, .int .i64 W.group, .int .i64 W.epoch, .int .i64 W.kind, .int .i64 W.block, .slice a' W.data.length c', .int .i64 W.old, .int .i64 W.new, .slice none 0 0]
  rw [← hw2]
  clear hw2
  refine Calls.mono (eqBytes_any a a' c c' W.data W.data _ (HD.out.below hb2).1 (HD'.out.below hb2).1) ?_
  rintro e w3 ⟨rfl, hb⟩
  rw [decide_eq_true (rfl : W.data = W.data)]
  have hA := hA.below hb
  have hR := hR.below hb
  have hb3 := Below.step hb2 hb
  have a7 := hA.cell (i := 7) rfl
  have a8 := hA.cell (i := 8) rfl
  have a9 := hA.cell (i := 9) rfl
  have b7 := hR.cell (i := 7) rfl
  have b8 := hR.cell (i := 8) rfl
  have b9 := hR.cell (i := 9) rfl
  have HB := Lib.hid hb3
  clear hA hR hb hb2 hb3
  go_wp2_with fail
  refine Calls.mono (eqInts_any none none 0 0 [] [] _ (Ints.nil _ _) (Ints.nil _ _)) ?_
  rintro e w4 ⟨rfl, hb⟩
  have HB := Lib.hid (Below.step HB.out hb)
  clear hb
  go_wp2
  go_ret
  exact ⟨rfl, HB.out⟩

set_option maxRecDepth 100000 in
set_option maxHeartbeats 4000000 in
/-- Alike of two lists of one wish. -/
theorem alike_is (W : Wi) (g g' : Nat) (a : Option Addr) (c : Nat) (a' : Option Addr) (c' : Nat) (w : World) (hA : Blk w g (wishL W a c) 88) (hB : Blk w g' (wishL W a' c') 88) (hD : BL w a W.data) (hD' : BL w a' W.data) :
    Calls Try.prog 63 #[.slice (some ⟨g, 0, none⟩) 1 1, .slice (some ⟨g', 0, none⟩) 1 1] w fun e w' => e = .returned (.bool true) ∧ Below w.heap.size w w' := by
  have HA := Lib.hid hA
  have HB := Lib.hid hB
  have HD := Lib.hid hD
  have HD' := Lib.hid hD'
  clear hA hB hD hD'
  go_enter Try.func63, Try.ntmps63
  go_wp2_with fail
  go_loopw [5] (fun i wr => ∃ k : Nat, k ≤ 1 ∧ i = .int .i64 k ∧ Hid (Below w.heap.size w wr)) (fun i _ => 1 - (intOf i).toNat)
  case atStart => exact ⟨0, by omega, rfl, Lib.hid (Below.refl _ _)⟩
  case round =>
    obtain ⟨k, hk, rfl, HBr⟩ := hrel
    by_cases hlt : k < 1
    · obtain rfl : k = 0 := by omega
      have hA := HA.out.below HBr.out
      have hB := HB.out.below HBr.out
      have e1 : cellsAt wr ⟨g, 0, none⟩ 10 = wishL W a c := hA.cells (Nat.le_refl _)
      have e2 := hA.held (o := 0) (n := 10) (Nat.le_refl _)
      have e3 : cellsAt wr ⟨g', 0, none⟩ 10 = wishL W a' c' := hB.cells (Nat.le_refl _)
      have e4 := hB.held (o := 0) (n := 10) (Nat.le_refl _)
      clear hA hB
      rw [show ((0 : Nat) : Int) = 0 from rfl]
      go_wp2_with fail
      have hS : Below wr.heap.size wr wr := Below.refl _ _
      go_region_with
        ((go_at_call 94; (with_reducible refine Calls.mono (sameW_is W a c a' c' _ ?_ ?_) ?_); (first | exact HD.out.below HBr.out | exact HD.out.below HBr.out.drew); (first | exact HD'.out.below HBr.out | exact HD'.out.below HBr.out.drew); rintro e wc ⟨rfl, hb⟩; have hS := (by first | exact Below.step HBr.out hb | exact Below.step HBr.out.drew hb)))
      all_goals
        go_wp2_with fail
        go_roundw
        case rel => exact ⟨1, by omega, rfl, Lib.hid hS⟩
        case measure => simp [intOf]
    · go_wp2
      go_ret
      exact ⟨rfl, HBr.out⟩

theorem five_any (w : World) : Calls Try.prog 56 #[] w fun e w' => ∃ a, e = .returned (.slice (some a) 4 4) ∧ IL w' (some a) [5, 6, 7, 8] ∧ Below w.heap.size w w' := by
  go_enter Try.func56, Try.ntmps56
  go_wp2
  go_ret
  exact ⟨⟨w.heap.size, 0, none⟩, rfl, ⟨by decide, .inr ⟨w.heap.size, 0, _, _, rfl, heap_alloc_new _ _, fun i hi => by
    have : i < 4 := hi
    rcases (by omega : i = 0 ∨ i = 1 ∨ i = 2 ∨ i = 3) with rfl | rfl | rfl | rfl <;> rfl⟩⟩, Below.new _ _⟩
theorem z24' : (Try.prog.info? 24).map (·.size) = some 2 := by kernel_rfl
theorem il_four (w : World) (x0 x1 x2 x3 : Int) : IL (w.alloc (.cells #[.int .i64 x0, .int .i64 x1, .int .i64 x2, .int .i64 x3] 3)) (some ⟨w.heap.size, 0, none⟩) [x0, x1, x2, x3] :=
  ⟨by simp, .inr ⟨w.heap.size, 0, _, _, rfl, heap_alloc_new _ _, fun i hi => by
    have : i < 4 := hi
    rcases (by omega : i = 0 ∨ i = 1 ∨ i = 2 ∨ i = 3) with rfl | rfl | rfl | rfl <;> rfl⟩⟩
theorem directory_any (w : World) : Calls Try.prog 58 #[] w fun e w' => ∃ a, e = .returned (.agg #[.int .i64 1, .slice (some a) 4 4]) ∧ IL w' (some a) [1, 2, 3, 4] ∧ Below w.heap.size w w' := by
  go_enter Try.func58, Try.ntmps58
  go_wp2
  have hb := (Below.new w (.cells #[.int .i64 1, .slice (some ⟨w.heap.size + 1, 0, none⟩) 4 4] 24))
  have hA : Blk (w.alloc (.cells #[.int .i64 1, .slice (some ⟨w.heap.size + 1, 0, none⟩) 4 4] 24)) w.heap.size [.int .i64 1, .slice (some ⟨w.heap.size + 1, 0, none⟩) 4 4] 24 := Blk.new _ _ _
  have hI := il_four (w.alloc (.cells #[.int .i64 1, .slice (some ⟨w.heap.size + 1, 0, none⟩) 4 4] 24)) 1 2 3 4
  have r1 := load_blk Try.underlying24 rfl z24' (hA.below (Below.new _ (.cells #[.int .i64 1, .int .i64 2, .int .i64 3, .int .i64 4] 3))) rfl
  refine bodyPost_ret (v := .agg #[.int .i64 1, .slice (some ⟨w.heap.size + 1, 0, none⟩) 4 4]) (by simp [results, Try.results58, asAddr, r1]) rfl ?_
  exact ⟨_, rfl, by simpa using hI, Below.step hb (Below.new _ _)⟩
theorem read_any (b : Int) (w : World) (h0 : 0 ≤ b) (h1 : b ≤ 255) : Calls Try.prog 51 #[.int .u8 b] w (OwnA ⟨0, [b], 0, []⟩ w) := by
  go_enter Try.func51, Try.ntmps51
  go_wp2
  have hb := (Below.new w (.cells #[.int .i64 0, .slice (some ⟨w.heap.size + 1, 0, none⟩) 1 1, .int .i64 0, .slice none 0 0] 72))
  have hA : Blk (w.alloc (.cells #[.int .i64 0, .slice (some ⟨w.heap.size + 1, 0, none⟩) 1 1, .int .i64 0, .slice none 0 0] 72)) w.heap.size [.int .i64 0, .slice (some ⟨w.heap.size + 1, 0, none⟩) 1 1, .int .i64 0, .slice none 0 0] 72 := Blk.new _ _ _
  have hI : BL ((w.alloc (.cells #[.int .i64 0, .slice (some ⟨w.heap.size + 1, 0, none⟩) 1 1, .int .i64 0, .slice none 0 0] 72)).alloc (.cells #[.int .u8 b] 5)) (some ⟨w.heap.size + 1, 0, none⟩) [b] :=
    ⟨⟨by simp, .inr ⟨w.heap.size + 1, 0, _, _, rfl, by simpa using heap_alloc_new (w.alloc (.cells #[.int .i64 0, .slice (some ⟨w.heap.size + 1, 0, none⟩) 1 1, .int .i64 0, .slice none 0 0] 72)) (.cells #[.int .u8 b] 5), fun i hi => by
      have : i < 1 := hi
      obtain rfl : i = 0 := by omega
      rfl⟩⟩, by simp; omega⟩
  have r1 := load_blk Try.underlying72 rfl z72 (hA.below (Below.new _ (.cells #[.int .u8 b] 5))) rfl
  refine bodyPost_ret (v := .agg #[.int .i64 0, .slice (some ⟨w.heap.size + 1, 0, none⟩) 1 1, .int .i64 0, .slice none 0 0]) (by simp [results, Try.results51, asAddr, r1]) rfl ?_
  exact ⟨_, rfl, ⟨_, 1, none, 0, rfl, ⟨hI, fun h => by cases h⟩, TL.nil _ _, fun _ => rfl⟩, Below.step hb (Below.new _ _)⟩
theorem serves_any (ep : Int) (w : World) : Calls Try.prog 64 #[.int .i64 ep] w (OwnA ⟨0, [], ep, [5, 6, 7, 8]⟩ w) := by
  go_enter Try.func64, Try.ntmps64
  go_wp2_with fail
  refine Calls.mono (five_any _) ?_
  rintro e wc ⟨a, rfl, hI, hb⟩
  have hA : Blk wc w.heap.size [.int .i64 0, .slice none 0 0, .int .i64 0, .slice none 0 0] 72 := (Blk.new w [.int .i64 0, .slice none 0 0, .int .i64 0, .slice none 0 0] 72).below hb
  have hB := Below.step (Below.new w _) hb
  have b0 := hA.cell (i := 0) rfl
  have b1 := hA.cell (i := 1) rfl
  have b2 := hA.cell (i := 2) rfl
  have b3 := hA.cell (i := 3) rfl
  have e0 := hA.free 0
  have e1 := hA.free 1
  have e2 := hA.free 2
  have e3 := hA.free 3
  have HA := Lib.hid hA
  have HI := Lib.hid hI
  have HB := Lib.hid hB
  clear hA hI hB hb
  go_wp2_with fail
  have h0 := HA.out.set 0 (.int .i64 0)
  have h1 := h0.set 1 (.slice none 0 0)
  have h2 := h1.set 2 (.int .i64 ep)
  have h3 := h2.set 3 (.slice (some a) 4 4)
  have r1 := load_blk Try.underlying72 rfl z72 h3 rfl
  simp only [List.set_cons_zero, List.set_cons_succ] at r1
  refine bodyPost_ret (v := .agg #[.int .i64 0, .slice none 0 0, .int .i64 ep, .slice (some a) 4 4]) (by simp [results, Try.results64, asAddr, r1]) rfl ?_
  exact ⟨_, rfl, ⟨none, 0, some a, 4, rfl, ⟨BL.nil _ _, fun _ => rfl⟩, (((HI.out.set HA.out (by decide) _ _).set h0 (by decide) _ _).set h1 (by decide) _ _).set h2 (by decide) _ _, fun h => by cases h⟩, (((HB.out.setCell (by simp) _).setCell (by simp) _).setCell (by simp) _).setCell (by simp) _⟩
end Go.Proofs.Ytldcpnabgpjgiaa.Walks
