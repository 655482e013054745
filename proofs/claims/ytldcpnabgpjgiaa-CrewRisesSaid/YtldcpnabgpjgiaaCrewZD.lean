/-
  The walk of the law CrewRises.
-/
import Derived.Test.YtldcpnabgpjgiaaCrewZB
import Derived.Test.YtldcpnabgpjgiaaCrewS
namespace Go.Proofs.Ytldcpnabgpjgiaa.Walks
open Go.RowKit Plain
set_option linter.unusedVariables false

/-- An array of seven ints in a block. -/
def Arr7 (w : World) (g : Nat) (f : Nat → Int) : Prop := ∀ j, j < 7 → w.cell? ⟨g, j, none⟩ = some (.int .i64 (f j)) ∧ w.frozen? ⟨g, j, none⟩ = false
theorem Arr7.below {w w' : World} {g : Nat} {f : Nat → Int} (h : Arr7 w g f) (hb : Below w.heap.size w w') : Arr7 w' g f := fun j hj =>
  ⟨keepc hb (h j hj).1, keepf hb (by exact block_lt_of_cell (h j hj).1) (h j hj).2⟩
theorem Arr7.set {w : World} {g : Nat} {f : Nat → Int} (h : Arr7 w g f) {k : Nat} (hk : k < 7) (v : Int) : Arr7 (w.setCell ⟨g, k, none⟩ (.int .i64 v)) g (fun j => if j = k then v else f j) := by
  intro j hj
  refine ⟨?_, by simpa using (h j hj).2⟩
  by_cases e : j = k
  · subst e
    rw [World.cell?_setCell_same _ _ _ (h j hj).1]; simp
  · rw [World.cell?_setCell_other _ _ _ _ (by simp <;> omega), (h j hj).1]; simp [e]
theorem Arr7.other {w : World} {g g2 : Nat} {f : Nat → Int} (h : Arr7 w g f) (hg : g ≠ g2) (k : Nat) (v : Value) : Arr7 (w.setCell ⟨g2, k, none⟩ v) g f := by
  intro j hj
  refine ⟨?_, by simpa using (h j hj).2⟩
  rw [World.cell?_setCell_other _ _ _ _ (by simp [hg])]
  exact (h j hj).1
theorem Arr7.congr {w : World} {g : Nat} {f f' : Nat → Int} (h : Arr7 w g f) (e : ∀ j, j < 7 → f j = f' j) : Arr7 w g f' := fun j hj => by rw [← e j hj]; exact h j hj
def lst7 (f : Nat → Int) (n : Nat) : List Int := ((List.range 7).map f).take n
theorem lst7_len (f : Nat → Int) {n : Nat} (h : n ≤ 7) : (lst7 f n).length = n := by simp [lst7]; omega
theorem lst7_get (f : Nat → Int) {n i : Nat} (h : i < (lst7 f n).length) : (lst7 f n)[i] = f i := by simp [lst7]
theorem Arr7.ints {w : World} {g : Nat} {f : Nat → Int} (h : Arr7 w g f) (n : Nat) : Ints w (some ⟨g, 0, none⟩) (lst7 f n) :=
  ⟨by simp [lst7]; omega, .inr ⟨g, 0, rfl, fun i hi => by
    rw [lst7_get]
    have : i < 7 := by simp [lst7] at hi; omega
    rw [Nat.zero_add]; exact (h i this).1⟩⟩
theorem bringI_small (i : Int) : 0 ≤ bringI i 1125899906842624 ∧ bringI i 1125899906842624 < 1125899906842624 := ⟨bringI_nonneg _ _, bringI_lt _ (by omega)⟩
theorem Ints.setCell {w : World} {a : Option Addr} {l : List Int} (h : Ints w a l) {g : Nat} (hg : ∀ ad, a = some ad → ad.block ≠ g) (k : Nat) (v : Value) : Ints (w.setCell ⟨g, k, none⟩ v) a l := by
  refine ⟨h.1, ?_⟩
  rcases h.2 with rfl | ⟨b, off, rfl, hc⟩
  · exact .inl rfl
  · refine .inr ⟨b, off, rfl, fun i hi => ?_⟩
    have hne : b ≠ g := hg _ rfl
    rw [World.cell?_setCell_other _ _ _ _ (by simp [hne])]
    exact hc i hi
/-- The brought numbers, and those that are more. -/
def bY (y : Nat → Int) (j : Nat) : Int := bringI (y j) 1125899906842624
def bU (y z : Nat → Int) (j : Nat) : Int := bringI (y j) 1125899906842624 + bringI (z j) 1125899906842624
theorem bYU (y z : Nat → Int) (j : Nat) : bY y j ≤ bU y z j := by have := bringI_nonneg (z j) 1125899906842624; unfold bY bU; omega

set_option maxRecDepth 100000 in
set_option maxHeartbeats 4000000 in
theorem crewRises_walk (x0 x1 x2 x3 x4 x5 x6 x7 : Int) (y0 y1 y2 y3 y4 y5 y6 : Int) (z0 z1 z2 z3 z4 z5 z6 : Int) (w : World) : Calls Try.prog 26 #[.agg #[.int .i64 x0, .int .i64 x1, .int .i64 x2, .int .i64 x3, .int .i64 x4, .int .i64 x5, .int .i64 x6, .int .i64 x7], .agg #[.int .i64 y0, .int .i64 y1, .int .i64 y2, .int .i64 y3, .int .i64 y4, .int .i64 y5, .int .i64 y6], .agg #[.int .i64 z0, .int .i64 z1, .int .i64 z2, .int .i64 z3, .int .i64 z4, .int .i64 z5, .int .i64 z6]] w fun e w' => e = .returned (.bool true) ∧ Below w.heap.size w w' := by
  go_enter Try.func26, Try.ntmps26
  go_wp2_with fail
  obtain ⟨wb, hwb⟩ : ∃ wb : World, wb = (((w.alloc (.cells #[.int .i64 x0, .int .i64 x1, .int .i64 x2, .int .i64 x3, .int .i64 x4, .int .i64 x5, .int .i64 x6, .int .i64 x7] 128)).alloc (.cells #[.int .i64 y0, .int .i64 y1, .int .i64 y2, .int .i64 y3, .int .i64 y4, .int .i64 y5, .int .i64 y6] 135)).alloc (.cells #[.int .i64 z0, .int .i64 z1, .int .i64 z2, .int .i64 z3, .int .i64 z4, .int .i64 z5, .int .i64 z6] 135)) := ⟨_, rfl⟩
  have hbb : Below w.heap.size w wb := by
    rw [hwb]; exact ((Below.new w _).alloc (by simp) _).alloc (by simp; omega) _
  have hh0 : wb.heap[w.heap.size]? = some (.cells #[.int .i64 x0, .int .i64 x1, .int .i64 x2, .int .i64 x3, .int .i64 x4, .int .i64 x5, .int .i64 x6, .int .i64 x7] 128 (0, 0)) := by
    rw [hwb, heap_alloc_lt (by simp; try omega), heap_alloc_lt (by simp; try omega)]
    have := heap_alloc_new w (.cells #[.int .i64 x0, .int .i64 x1, .int .i64 x2, .int .i64 x3, .int .i64 x4, .int .i64 x5, .int .i64 x6, .int .i64 x7] 128)
    simpa using this
  have hh1 : wb.heap[w.heap.size + 1]? = some (.cells #[.int .i64 y0, .int .i64 y1, .int .i64 y2, .int .i64 y3, .int .i64 y4, .int .i64 y5, .int .i64 y6] 135 (0, 0)) := by
    rw [hwb, heap_alloc_lt (by simp; try omega)]
    have := heap_alloc_new (w.alloc (.cells #[.int .i64 x0, .int .i64 x1, .int .i64 x2, .int .i64 x3, .int .i64 x4, .int .i64 x5, .int .i64 x6, .int .i64 x7] 128)) (.cells #[.int .i64 y0, .int .i64 y1, .int .i64 y2, .int .i64 y3, .int .i64 y4, .int .i64 y5, .int .i64 y6] 135)
    simpa using this
  have hh2 : wb.heap[w.heap.size + 1 + 1]? = some (.cells #[.int .i64 z0, .int .i64 z1, .int .i64 z2, .int .i64 z3, .int .i64 z4, .int .i64 z5, .int .i64 z6] 135 (0, 0)) := by
    rw [hwb]
    have := heap_alloc_new ((w.alloc (.cells #[.int .i64 x0, .int .i64 x1, .int .i64 x2, .int .i64 x3, .int .i64 x4, .int .i64 x5, .int .i64 x6, .int .i64 x7] 128)).alloc (.cells #[.int .i64 y0, .int .i64 y1, .int .i64 y2, .int .i64 y3, .int .i64 y4, .int .i64 y5, .int .i64 y6] 135)) (.cells #[.int .i64 z0, .int .i64 z1, .int .i64 z2, .int .i64 z3, .int .i64 z4, .int .i64 z5, .int .i64 z6] 135)
    simpa using this
  rw [← hwb]
  clear hwb
  refine Calls.mono (works_any _) ?_
  rintro e w1 ⟨rfl, hb1⟩
  have q0 : w1.cell? ⟨w.heap.size, 0, none⟩ = some (.int .i64 x0) := keepc hb1 (cell_of_row _ _ 0 _ _ _ hh0)
  have q1 : w1.cell? ⟨w.heap.size, 1, none⟩ = some (.int .i64 x1) := keepc hb1 (cell_of_row _ _ 1 _ _ _ hh0)
  have q2 : w1.cell? ⟨w.heap.size, 2, none⟩ = some (.int .i64 x2) := keepc hb1 (cell_of_row _ _ 2 _ _ _ hh0)
  have q3 : w1.cell? ⟨w.heap.size, 3, none⟩ = some (.int .i64 x3) := keepc hb1 (cell_of_row _ _ 3 _ _ _ hh0)
  have q4 : w1.cell? ⟨w.heap.size, 4, none⟩ = some (.int .i64 x4) := keepc hb1 (cell_of_row _ _ 4 _ _ _ hh0)
  have q5 : w1.cell? ⟨w.heap.size, 5, none⟩ = some (.int .i64 x5) := keepc hb1 (cell_of_row _ _ 5 _ _ _ hh0)
  have q6 : w1.cell? ⟨w.heap.size, 6, none⟩ = some (.int .i64 x6) := keepc hb1 (cell_of_row _ _ 6 _ _ _ hh0)
  have q7 : w1.cell? ⟨w.heap.size, 7, none⟩ = some (.int .i64 x7) := keepc hb1 (cell_of_row _ _ 7 _ _ _ hh0)
  have HY0 : Arr7 w1 (w.heap.size + 1) (fun j => [y0, y1, y2, y3, y4, y5, y6].getD j 0) := by
    intro j hj
    refine ⟨keepc hb1 ?_, keepf hb1 (by exact lt_of_heap hh1) (frozen_of_row _ _ j _ _ hh1)⟩
    rw [cell_of_row _ _ _ _ _ _ hh1]
    match j, hj with
    | 0, _ => rfl
    | 1, _ => rfl
    | 2, _ => rfl
    | 3, _ => rfl
    | 4, _ => rfl
    | 5, _ => rfl
    | 6, _ => rfl
  have HZ0 : Arr7 w1 (w.heap.size + 1 + 1) (fun j => [z0, z1, z2, z3, z4, z5, z6].getD j 0) := by
    intro j hj
    refine ⟨keepc hb1 ?_, keepf hb1 (by exact lt_of_heap hh2) (frozen_of_row _ _ j _ _ hh2)⟩
    rw [cell_of_row _ _ _ _ _ _ hh2]
    match j, hj with
    | 0, _ => rfl
    | 1, _ => rfl
    | 2, _ => rfl
    | 3, _ => rfl
    | 4, _ => rfl
    | 5, _ => rfl
    | 6, _ => rfl
  generalize (fun j => [y0, y1, y2, y3, y4, y5, y6].getD j 0) = fy at *
  generalize (fun j => [z0, z1, z2, z3, z4, z5, z6].getD j 0) = fz at *
  have HY0 := Lib.hid HY0
  have HZ0 := Lib.hid HZ0
  go_wp2_with fail
  refine Calls.mono (mk_good x0 x1 x2 x3 x4 x5 x6 x7 _) ?_
  rintro e w2 ⟨F, L, a, cap, HG, rfl, hO, hb2⟩
  have hlen := goodC_len HG.out
  have hf0 := hlen.1
  have hf2 := hlen.2.1
  have hl7 : L.length ≤ 7 := by have := hlen.2.2; omega
  have hl1 : 1 ≤ L.length := by have := hlen.2.2; omega
  obtain ⟨c0, c1⟩ := crew_box (w := w2) (F := F) (v := .slice a L.length cap)
  have HI := Lib.hid ((Own.ints hO (by omega)).alloc (.cells #[.int .i64 F, .slice a L.length cap] 24))
  have HN := Lib.hid (Own.nocap hO)
  have HB := Lib.hid (Below.step (Below.step (Below.step hbb hb1) hb2) (Below.new w2 (.cells #[.int .i64 F, .slice a L.length cap] 24)))
  have hb23 := Below.step hb2 (Below.new w2 (.cells #[.int .i64 F, .slice a L.length cap] 24))
  have HY := Lib.hid (HY0.out.below hb23)
  have HZ := Lib.hid (HZ0.out.below hb23)
  have HLT : Hid (w.heap.size + 1 + 1 < w2.heap.size) := Lib.hid (by have := block_lt_of_cell (keepc hb2 (HZ0.out 0 (by omega)).1); simpa using this)
  have p0 := (HY.out 0 (by omega)).1
  have p1 := (HY.out 1 (by omega)).1
  have p2 := (HY.out 2 (by omega)).1
  have p3 := (HY.out 3 (by omega)).1
  have p4 := (HY.out 4 (by omega)).1
  have p5 := (HY.out 5 (by omega)).1
  have p6 := (HY.out 6 (by omega)).1
  have HBA : Hid (∀ ad : Addr, a = some ad → ad.block ≠ w.heap.size + 1 ∧ ad.block ≠ w2.heap.size + 1) := Lib.hid (fun ad had => by
    have h1 := hO.base_le had
    have h2 := hO.block_lt had
    have h3 : w.heap.size + 1 < w1.heap.size := block_lt_of_cell (HY0.out 0 (by omega)).1
    omega)
  clear hb23 HY0 HZ0
  clear hh1 hh2 hlen hO hb1 hb2 hbb hh0 q0 q1 q2 q3 q4 q5 q6 q7
  have HW3 : Hid (w2.heap.size < (w2.alloc (.cells #[.int .i64 F, .slice a L.length cap] 24)).heap.size) := Lib.hid (by simp)
  have HW3e : Hid ((w2.alloc (.cells #[.int .i64 F, .slice a L.length cap] 24)).heap.size = w2.heap.size + 1) := Lib.hid (by simp)
  go_wp2_with fail
  generalize (w2.alloc (.cells #[.int .i64 F, .slice a L.length cap] 24)) = w3 at *
  obtain ⟨w4, hw4⟩ : ∃ w4 : World, w4 = w3.alloc (.cells #[.int .i64 (fy 0), .int .i64 (fy 1), .int .i64 (fy 2), .int .i64 (fy 3), .int .i64 (fy 4), .int .i64 (fy 5), .int .i64 (fy 6)] 135) := ⟨_, rfl⟩
  rw [← hw4]
  have hb34 : Below w3.heap.size w3 w4 := by rw [hw4]; exact Below.new _ _
  have HU : Hid (Arr7 w4 w3.heap.size fy) := Lib.hid (by
    rw [hw4]
    intro j hj
    refine ⟨?_, frozen_of_row _ _ _ _ _ (heap_alloc_new _ _)⟩
    rw [cell_of_row _ _ _ _ _ _ (heap_alloc_new _ _)]
    match j, hj with
    | 0, _ => rfl
    | 1, _ => rfl
    | 2, _ => rfl
    | 3, _ => rfl
    | 4, _ => rfl
    | 5, _ => rfl
    | 6, _ => rfl)
  have HS4 : Hid (w4.heap.size = w3.heap.size + 1) := Lib.hid (by rw [hw4]; simp)
  have c0 := keepc hb34 c0
  have c1 := keepc hb34 c1
  have HI := Lib.hid (HI.out.below hb34)
  have HY := Lib.hid (HY.out.below hb34)
  have HZ := Lib.hid (HZ.out.below hb34)
  have HB := Lib.hid (Below.step HB.out hb34)
  clear hw4 hb34 p0 p1 p2 p3 p4 p5 p6
  have HU : Hid (Arr7 w4 (w2.heap.size + 1) fy) := Lib.hid (by have := HU.out; rw [HW3e.out] at this; exact this)
  have n1 : ¬ w2.heap.size + 1 = w.heap.size + 1 := by have := HLT.out; omega
  have n2 : ¬ w2.heap.size + 1 = w.heap.size + 1 + 1 := by have := HLT.out; omega
  have n3 : ¬ w.heap.size + 1 = w2.heap.size + 1 := by have := HLT.out; omega
  have n4 : ¬ w.heap.size + 1 + 1 = w2.heap.size + 1 := by have := HLT.out; omega
  have n5 : ¬ w2.heap.size = w.heap.size + 1 := by have := HLT.out; omega
  have n6 : ¬ w2.heap.size = w2.heap.size + 1 := by omega
  have n7 : ¬ w.heap.size = w2.heap.size := by have := HLT.out; omega
  have n8 : ¬ w2.heap.size = w.heap.size := by have := HLT.out; omega
  have n9 : ¬ w2.heap.size = w.heap.size + 1 := by have := HLT.out; omega
  have n10 : ¬ w.heap.size + 1 = w2.heap.size := by have := HLT.out; omega
  go_loopw [10] (fun i wr => ∃ k : Nat, k ≤ 7 ∧ i = .int .i64 k ∧ Hid (Arr7 wr (w.heap.size + 1) (fun j => if j < k then bY fy j else fy j)) ∧ Hid (Arr7 wr (w.heap.size + 1 + 1) fz) ∧ Hid (Arr7 wr (w2.heap.size + 1) (fun j => if j < k then bU fy fz j else fy j)) ∧
    wr.cell? ⟨w2.heap.size, 0, none⟩ = some (.int .i64 F) ∧ wr.cell? ⟨w2.heap.size, 1, none⟩ = some (.slice a L.length cap) ∧ Hid (Ints wr a L) ∧ Hid (Below w.heap.size w wr)) (fun i _ => 7 - (intOf i).toNat)
  case atStart => exact ⟨0, by omega, rfl, Lib.hid (HY.out.congr (fun j _ => by simp)), HZ, Lib.hid (HU.out.congr (fun j _ => by simp)), c0, c1, HI, HB⟩
  case round =>
    obtain ⟨k, hk, rfl, HYk, HZk, HUk, c0, c1, HI, HB⟩ := hrel
    by_cases hlt : k < 7
    · have p0 : wr.cell? ⟨w.heap.size + 1, k, none⟩ = some (.int .i64 (fy k)) := by have := (HYk.out k hlt).1; simpa using this
      have p1 := (HYk.out k hlt).2
      have q0 := (HZk.out k hlt).1
      have r0 : wr.cell? ⟨w2.heap.size + 1, k, none⟩ = some (.int .i64 (fy k)) := by have := (HUk.out k hlt).1; simpa using this
      have r1 := (HUk.out k hlt).2
      have hk7 : (k : Int) < 7 := by omega
      have hk0 : (0 : Int) ≤ (k : Int) := by omega
      go_wp2_with fail
      refine Calls.mono (bring_any (fy k) 1125899906842624 _ (by omega) (by omega)) ?_
      rintro e w' ⟨rfl, rfl⟩
      have hb1 := bringI_small (fy k)
      have hb2 := bringI_small (fz k)
      obtain ⟨b, hb⟩ : ∃ b, b = bringI (fy k) 1125899906842624 := ⟨_, rfl⟩
      obtain ⟨d, hd⟩ : ∃ d, d = bringI (fz k) 1125899906842624 := ⟨_, rfl⟩
      rw [← hb] at hb1
      rw [← hd] at hb2
      rw [← hb]
      have HBB := Lib.hid hb
      have HDD := Lib.hid hd.symm
      have u1 : IntKind.i64.wrap (b + d) = b + d := IntWalk.i64_in _ (by omega)
      have HYn : Hid (Arr7 (wr.setCell ⟨w.heap.size + 1, k, none⟩ (.int .i64 b)) (w.heap.size + 1) (fun j => if j < k + 1 then bY fy j else fy j)) := Lib.hid ((HYk.out.set hlt b).congr (fun j _ => by
        by_cases e : j = k
        · subst e; simp [hb, bY]
        · by_cases e2 : j < k
          · simp [e, e2, show j < k + 1 by omega]
          · simp [e, e2, show ¬ j < k + 1 by omega]))
      have HZn := Lib.hid (HZk.out.other (g2 := w.heap.size + 1) (by omega) k (.int .i64 b))
      have HUn := Lib.hid (HUk.out.other (g2 := w.heap.size + 1) n1 k (.int .i64 b))
      have HIn := Lib.hid (HI.out.setCell (fun ad had => (HBA.out ad had).1) k (.int .i64 b))
      have HBn : Hid (Below w.heap.size w (wr.setCell ⟨w.heap.size + 1, k, none⟩ (.int .i64 b))) := Lib.hid (HB.out.setCell (by show w.heap.size ≤ w.heap.size + 1; omega) _)
      have s0 : (wr.setCell ⟨w.heap.size + 1, k, none⟩ (.int .i64 b)).cell? ⟨w.heap.size + 1, k, none⟩ = some (.int .i64 b) := World.cell?_setCell_same _ _ _ p0
      have s1 := (HZn.out k hlt).1
      have s2 : (wr.setCell ⟨w.heap.size + 1, k, none⟩ (.int .i64 b)).cell? ⟨w2.heap.size + 1, k, none⟩ = some (.int .i64 (fy k)) := by have := (HUn.out k hlt).1; simpa using this
      have s3 := (HUn.out k hlt).2
      have s4 : (wr.setCell ⟨w.heap.size + 1, k, none⟩ (.int .i64 b)).cell? ⟨w2.heap.size, 0, none⟩ = some (.int .i64 F) := by rw [World.cell?_setCell_other _ _ _ _ (by simp [n5])]; exact c0
      have s5 : (wr.setCell ⟨w.heap.size + 1, k, none⟩ (.int .i64 b)).cell? ⟨w2.heap.size, 1, none⟩ = some (.slice a L.length cap) := by rw [World.cell?_setCell_other _ _ _ _ (by simp [n5])]; exact c1
      clear hb hd
      go_wp2_with fail
      generalize (wr.setCell ⟨w.heap.size + 1, k, none⟩ (.int .i64 b)) = ws at *
      go_region_held3 (fun w' => w'.cell? ⟨w.heap.size + 1, k, none⟩ = some (.int .i64 b) ∧ w'.cell? ⟨w.heap.size + 1 + 1, k, none⟩ = some (.int .i64 (fz k)))
        (first | go_keep | assumption | exact ⟨(World.cell?_setCell_other _ _ _ _ (by simp [n7])).trans s0, (World.cell?_setCell_other _ _ _ _ (by simp [n10])).trans s1⟩)
        ((first | (go_at_call 32; refine Calls.mono (bring_is HDD.out _ (by decide) (by decide)) ?_; rintro e wc ⟨rfl, rfl⟩)))
      go_wp2
      go_roundw
      case rel =>
        refine ⟨k + 1, by omega, by go_num, Lib.hid (HYn.out.other n3 k _), Lib.hid (HZn.out.other n4 k _), Lib.hid ((HUn.out.set hlt (b + d)).congr (fun j _ => ?_)), ?_, ?_, Lib.hid (HIn.out.setCell (fun ad had => (HBA.out ad had).2) k _), Lib.hid ((HBn.out.setCell (by show w.heap.size ≤ w2.heap.size + 1; have := HLT.out; omega) _).drew)⟩
        · by_cases e : j = k
          · subst e; simp [HBB.out, ← HDD.out, bU]
          · by_cases e2 : j < k
            · simp [e, e2, show j < k + 1 by omega]
            · simp [e, e2, show ¬ j < k + 1 by omega]
        · simp [World.cell?_setCell_other, n6, s4]
        · simp [World.cell?_setCell_other, n6, s5]
      case measure => simp [intOf]; omega
    · obtain rfl : k = 7 := by omega
      have HY7 : Hid (Arr7 wr (w.heap.size + 1) (bY fy)) := Lib.hid (HYk.out.congr (fun j hj => by simp [hj]))
      have HU7 : Hid (Arr7 wr (w2.heap.size + 1) (bU fy fz)) := Lib.hid (HUk.out.congr (fun j hj => by simp [hj]))
      clear HYk HZk HUk
      obtain ⟨R, hR⟩ : ∃ R, R = lst7 (bY fy) L.length := ⟨_, rfl⟩
      obtain ⟨U, hU⟩ : ∃ U, U = lst7 (bU fy fz) L.length := ⟨_, rfl⟩
      have HRl : Hid (R.length = L.length) := Lib.hid (by rw [hR, lst7_len _ hl7])
      have HUl : Hid (U.length = L.length) := Lib.hid (by rw [hU, lst7_len _ hl7])
      have HRI : Hid (Ints wr (some ⟨w.heap.size + 1, 0, none⟩) R) := Lib.hid (by rw [hR]; exact HY7.out.ints _)
      have HUI : Hid (Ints wr (some ⟨w2.heap.size + 1, 0, none⟩) U) := Lib.hid (by rw [hU]; exact HU7.out.ints _)
      have HLE : Hid (∀ k, 1 ≤ k → k ≤ L.length → rankC R k ≤ rankC U k) := Lib.hid (fun k h1 h2 => rises_law (by rw [HRl.out, HUl.out]) (fun i g1 g2 => by
        subst hR; subst hU
        rw [lst7_get, lst7_get]; exact bYU fy fz i) h1 (by rw [HRl.out]; exact h2))
      have HFA : Hid (∀ k, 1 ≤ k → k + 1 ≤ L.length → rankC R (k + 1) ≤ rankC R k) := Lib.hid (fun k h1 h2 => falls_law R h1 (by rw [HRl.out]; exact h2))
      have hl7' : (L.length : Int) ≤ 7 := by omega
      have hl0' : (0 : Int) ≤ (L.length : Int) := by omega
      obtain ⟨V, hV⟩ : ∃ V, V = rankC R 1 := ⟨_, rfl⟩
      have HP : Hid (rankV F L R 1 = V ∧ rankE F L R 1 = 0) := Lib.hid (by have := rank_fine (many := 1) HG.out HRl.out (by omega) (by rw [HRl.out]; omega); rw [hV]; simpa using this)
      have HV := Lib.hid hV
      clear hR hU hV HY7 HU7
      go_wp2_with fail
      have hS : Below wr.heap.size wr wr := Below.refl _ _
      obtain ⟨w5, rfl⟩ : ∃ w5 : World, w5 = wr := ⟨_, rfl⟩
      go_region_held3 (fun w' => w'.cell? ⟨w2.heap.size, 0, none⟩ = some (.int .i64 F) ∧ w'.cell? ⟨w2.heap.size, 1, none⟩ = some (.slice a L.length cap))
        (first
          | go_keep | assumption | exact ⟨keepc hS c0, keepc hS c1⟩ | exact ⟨keepc (Below.step hS (Below.new _ _)) c0, keepc (Below.step hS (Below.new _ _)) c1⟩)
        ((first
          | (go_at_call 84; (with_reducible refine Calls.mono (rank_n HP.out L.length HRl.out a cap _ _ _ ?hI ?hJ ?hN) ?_); (case hI => exact (Ints.below HI.out (by first | exact hS | exact hS.drew | exact Below.step hS (Below.new _ _) | exact (Below.step hS (Below.new _ _)).drew))); (case hJ => exact (Ints.below HRI.out (by first | exact hS | exact hS.drew | exact Below.step hS (Below.new _ _) | exact (Below.step hS (Below.new _ _)).drew))); (case hN => exact (by intro h; cases h)); rintro e wc ⟨rfl, hb⟩; have hS : Below w5.heap.size w5 wc := (by first | exact Below.step hS hb | exact Below.stepD hS hb | exact Below.step (Below.step hS (Below.new _ _)) hb | exact Below.stepD (Below.step hS (Below.new _ _)) hb))))
      have c0 := keepc hS c0
      have c1 := keepc hS c1
      have HI := Lib.hid (HI.out.below hS)
      have HRI := Lib.hid (HRI.out.below hS)
      have HUI := Lib.hid (HUI.out.below hS)
      have HB := Lib.hid (Below.step HB.out hS)
      clear hS hb
      obtain ⟨w6, rfl⟩ : ∃ w6 : World, w6 = wc := ⟨_, rfl⟩
      go_wp2_with fail
      go_loopw [11, 13] (fun lv i wr => ∃ (k : Nat) (la : Int), 1 ≤ k ∧ k ≤ L.length + 1 ∧ i = .int .i64 k ∧ lv = .int .i64 la ∧ Hid (la = rankC R (if k = 1 then 1 else k - 1)) ∧ Below w6.heap.size w6 wr) (fun _ i _ => 8 - (intOf i).toNat)
      case atStart => exact ⟨1, V, by omega, by omega, rfl, rfl, Lib.hid HV.out, Below.refl _ _⟩
      case round =>
        obtain ⟨k, la, hk1, hk, rfl, rfl, HLA, hbr⟩ := hrel
        have c0 := keepc hbr c0
        have c1 := keepc hbr c1
        have HI := Lib.hid (HI.out.below hbr)
        have HRI := Lib.hid (HRI.out.below hbr)
        have HUI := Lib.hid (HUI.out.below hbr)
        by_cases hlt : k ≤ L.length
        · obtain ⟨r, hr⟩ : ∃ r, r = rankC R k := ⟨_, rfl⟩
          obtain ⟨s, hs⟩ : ∃ s, s = rankC U k := ⟨_, rfl⟩
          have HPR : Hid (rankV F L R (k : Int) = r ∧ rankE F L R (k : Int) = 0) := Lib.hid (by rw [hr]; exact rank_fine HG.out HRl.out hk1 (by rw [HRl.out]; omega))
          have HPU : Hid (rankV F L U (k : Int) = s ∧ rankE F L U (k : Int) = 0) := Lib.hid (by rw [hs]; exact rank_fine HG.out HUl.out hk1 (by rw [HUl.out]; omega))
          have h1 : ¬ s < r := by have := HLE.out k hk1 hlt; omega
          have h2 : ¬ la < r := by
            have e := HLA.out
            by_cases hk2 : k = 1
            · rw [if_pos hk2] at e; rw [e, hr, hk2]; omega
            · rw [if_neg hk2] at e
              have := HFA.out (k - 1) (by omega) (by omega)
              rw [show k - 1 + 1 = k by omega] at this
              rw [e, hr]; omega
          have HRR := Lib.hid hr
          clear hr hs
          obtain ⟨w7, rfl⟩ : ∃ w7 : World, w7 = wr := ⟨_, rfl⟩
          go_wp2_with fail
          have hS : Below w7.heap.size w7 w7 := Below.refl _ _
          go_region_held3 (fun w' => w'.cell? ⟨w2.heap.size, 0, none⟩ = some (.int .i64 F) ∧ w'.cell? ⟨w2.heap.size, 1, none⟩ = some (.slice a L.length cap))
            (first
              | go_keep | assumption | exact ⟨keepc hS c0, keepc hS c1⟩ | exact ⟨keepc (Below.step hS (Below.new _ _)) c0, keepc (Below.step hS (Below.new _ _)) c1⟩)
            ((first
              | (go_at_call 84; (with_reducible refine Calls.mono (rank_n HPR.out L.length HRl.out a cap _ _ _ ?hI ?hJ ?hN) ?_); (case hI => exact (Ints.below HI.out (by first | exact hS | exact hS.drew | exact Below.step hS (Below.new _ _) | exact (Below.step hS (Below.new _ _)).drew))); (case hJ => exact (Ints.below HRI.out (by first | exact hS | exact hS.drew | exact Below.step hS (Below.new _ _) | exact (Below.step hS (Below.new _ _)).drew))); (case hN => exact (by intro h; cases h)); rintro e wc ⟨rfl, hb⟩; have hS : Below w7.heap.size w7 wc := (by first | exact Below.step hS hb | exact Below.stepD hS hb | exact Below.step (Below.step hS (Below.new _ _)) hb | exact Below.stepD (Below.step hS (Below.new _ _)) hb))))
          have c0 := keepc hS c0
          have c1 := keepc hS c1
          have HI := Lib.hid (HI.out.below hS)
          have HUI := Lib.hid (HUI.out.below hS)
          have hbr := Below.step hbr hS
          clear hS hb
          obtain ⟨w8, rfl⟩ : ∃ w8 : World, w8 = wc := ⟨_, rfl⟩
          go_wp2_with fail
          have hS : Below w8.heap.size w8 w8 := Below.refl _ _
          go_region_held3 (fun w' => w'.cell? ⟨w2.heap.size, 0, none⟩ = some (.int .i64 F) ∧ w'.cell? ⟨w2.heap.size, 1, none⟩ = some (.slice a L.length cap))
            (first
              | go_keep | assumption | exact ⟨keepc hS c0, keepc hS c1⟩ | exact ⟨keepc (Below.step hS (Below.new _ _)) c0, keepc (Below.step hS (Below.new _ _)) c1⟩)
            ((first
              | (go_at_call 84; (with_reducible refine Calls.mono (rank_n HPU.out L.length HUl.out a cap _ _ _ ?hI ?hJ ?hN) ?_); (case hI => exact (Ints.below HI.out (by first | exact hS | exact hS.drew | exact Below.step hS (Below.new _ _) | exact (Below.step hS (Below.new _ _)).drew))); (case hJ => exact (Ints.below HUI.out (by first | exact hS | exact hS.drew | exact Below.step hS (Below.new _ _) | exact (Below.step hS (Below.new _ _)).drew))); (case hN => exact (by intro h; cases h)); rintro e wc ⟨rfl, hb⟩; have hS : Below w8.heap.size w8 wc := (by first | exact Below.step hS hb | exact Below.stepD hS hb | exact Below.step (Below.step hS (Below.new _ _)) hb | exact Below.stepD (Below.step hS (Below.new _ _)) hb))))
          have hbr := Below.step hbr hS
          clear hS hb
          go_wp2
          go_roundw
          case rel => exact ⟨k + 1, r, by omega, by omega, by go_num, rfl, Lib.hid (by rw [HRR.out, if_neg (by omega)]; rfl), hbr⟩
          case measure => simp [intOf]; omega
        · go_wp2
          go_ret
          exact ⟨rfl, Below.step HB.out hbr⟩
end Go.Proofs.Ytldcpnabgpjgiaa.Walks
