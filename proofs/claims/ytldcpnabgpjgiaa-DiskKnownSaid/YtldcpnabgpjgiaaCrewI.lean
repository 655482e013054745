/-
  The walk of crew.Make.
-/
import Derived.Test.YtldcpnabgpjgiaaCrewH
namespace Go.Proofs.Ytldcpnabgpjgiaa.Walks
open Go.RowKit Plain
set_option linter.unusedVariables false

theorem ownsRow_below {w w' : World} {base : Nat} {e : TypeId} {size : Nat} {v : Value} {n : Nat} {xs : List Value} (h : w.ownsRow base e size v n xs) (hb : Below w.heap.size w w') : w'.ownsRow base e size v n xs := by
  obtain ⟨h1, h2⟩ := h
  refine ⟨h1, ?_⟩
  rcases h2 with h2 | ⟨g, cap, cur, hv, hg, hh, r⟩
  · exact .inl h2
  · exact .inr ⟨g, cap, cur, hv, hg, by rw [hb.block g (lt_of_heap hh)]; exact hh, r⟩

theorem Own.block_lt {w : World} {base : Nat} {a : Option Addr} {l : List Int} {cap : Nat} (h : Own w base a l cap) {x : Addr} (hx : a = some x) : x.block < w.heap.size := by
  obtain ⟨_, ⟨h1, h0⟩ | ⟨g, cap', cur, h1, hb, hg, _⟩⟩ := h
  · simp only [Value.slice.injEq] at h1; rw [h1.1] at hx; cases hx
  · simp only [Value.slice.injEq] at h1; rw [h1.1] at hx; cases hx; exact lt_of_heap hg

theorem put2_load {w : World} {g : Nat} {x y u v : Value} (c0 : w.cell? ⟨g, 0, none⟩ = some u) (c1 : w.cell? ⟨g, 1, none⟩ = some v) :
    (loadVar 24 ⟨g, 0, none⟩).run Try.prog ((w.setCell ⟨g, 0, none⟩ x).setCell ⟨g, 1, none⟩ y) = .ok (.agg #[x, y]) ((w.setCell ⟨g, 0, none⟩ x).setCell ⟨g, 1, none⟩ y) :=
  load24 (by simp [World.cell?_setCell_other, World.cell?_setCell_same _ _ _ c0]) (World.cell?_setCell_same _ _ _ (by rw [World.cell?_setCell_other _ _ _ _ (by simp)]; exact c1))
theorem put2_below {w0 w : World} {g : Nat} {x y : Value} (h : Below w0.heap.size w0 w) (hg : w0.heap.size ≤ g) : Below w0.heap.size w0 ((w.setCell ⟨g, 0, none⟩ x).setCell ⟨g, 1, none⟩ y) := (h.setCell (by exact hg) _).setCell (by exact hg) _

/-- What a maker of crews answers. -/
def CrewPost (F : Int) (L : List Int) (E : Int) (w : World) (e : Ending) (w' : World) : Prop :=
  ∃ a' cap', e = .returned (.tuple #[.agg #[.int .i64 F, .slice a' L.length cap'], .int .i64 E]) ∧ Own w' w.heap.size a' L cap' ∧ Below w.heap.size w w'

set_option maxHeartbeats 1000000 in
theorem make_any (f : Int) (a : Option Addr) (cap : Nat) (l : List Int) (w : World) (hI : Ints w a l) (hn : a = none → cap = 0) (hr : l.length ≤ 17592186044416) :
    Calls Try.prog 67 #[.int .i64 f, .slice a l.length cap] w (CrewPost (makeF f l) (makeL f l) (makeE f l) w) := by
  have HI := Lib.hid hI
  have HN := Lib.hid hn
  clear hI hn
  go_enter Try.func67, Try.ntmps67
  go_wp2_with fail
  have hb0 := Below.new w (.cells #[.int .i64 0, .slice none 0 0] 24)
  have q0 : (w.alloc (.cells #[.int .i64 0, .slice none 0 0] 24)).cell? ⟨w.heap.size, 0, none⟩ = some (.int .i64 0) := cell_of_row _ _ _ _ _ _ (heap_alloc_new _ _)
  have q1 : (w.alloc (.cells #[.int .i64 0, .slice none 0 0] 24)).cell? ⟨w.heap.size, 1, none⟩ = some (.slice none 0 0) := cell_of_row _ _ _ _ _ _ (heap_alloc_new _ _)
  have q2 : (w.alloc (.cells #[.int .i64 0, .slice none 0 0] 24)).frozen? ⟨w.heap.size, 0, none⟩ = false := frozen_of_row _ _ _ _ _ (heap_alloc_new _ _)
  have q3 : (w.alloc (.cells #[.int .i64 0, .slice none 0 0] 24)).frozen? ⟨w.heap.size, 1, none⟩ = false := frozen_of_row _ _ _ _ _ (heap_alloc_new _ _)
  have A0 := Lib.hid (HI.out.alloc (.cells #[.int .i64 0, .slice none 0 0] 24))
  have hs0 : (w.alloc (.cells #[.int .i64 0, .slice none 0 0] 24)).heap.size = w.heap.size + 1 := by simp
  generalize (w.alloc (.cells #[.int .i64 0, .slice none 0 0] 24)) = w0 at *
  refine Calls.mono (clone_any a cap l _ A0.out HN.out hr) ?_
  rintro e w1 ⟨a', cap', rfl, hO, hb, _⟩
  have hs1 := hb.size
  have HB1 := Lib.hid (Below.step hb0 hb)
  have HO := Lib.hid hO
  have d0 := keepc hb q0
  have d1 := keepc hb q1
  have d2 := keepf hb (by simp; omega) q2
  have d3 := keepf hb (by simp; omega) q3
  clear hb hO q0 q1 q2 q3 hb0
  go_wp2_with fail
  have hO1 := ownsRow_below HO.out (Below.new w1 (.cells #[.int .i64 f, .slice a' l.length cap'] 24))
  have HB2 := Lib.hid (Below.step HB1.out (Below.new w1 (.cells #[.int .i64 f, .slice a' l.length cap'] 24)))
  have e0 := keepc (Below.new w1 (.cells #[.int .i64 f, .slice a' l.length cap'] 24)) d0
  have e1 := keepc (Below.new w1 (.cells #[.int .i64 f, .slice a' l.length cap'] 24)) d1
  have e2 := keepf (Below.new w1 (.cells #[.int .i64 f, .slice a' l.length cap'] 24)) (by simp; omega) d2
  have e3 := keepf (Below.new w1 (.cells #[.int .i64 f, .slice a' l.length cap'] 24)) (by simp; omega) d3
  have r0 : (w1.alloc (.cells #[.int .i64 f, .slice a' l.length cap'] 24)).cell? ⟨w1.heap.size, 0, none⟩ = some (.int .i64 f) := cell_of_row _ _ _ _ _ _ (heap_alloc_new _ _)
  have r1 : (w1.alloc (.cells #[.int .i64 f, .slice a' l.length cap'] 24)).cell? ⟨w1.heap.size, 1, none⟩ = some (.slice a' l.length cap') := cell_of_row _ _ _ _ _ _ (heap_alloc_new _ _)
  have hs2 : (w1.alloc (.cells #[.int .i64 f, .slice a' l.length cap'] 24)).heap.size = w1.heap.size + 1 := by simp
  have HA : Hid (∀ ad, a' = some ad → ad.block < w1.heap.size) := Lib.hid (fun ad had => HO.out.block_lt had)
  generalize (w1.alloc (.cells #[.int .i64 f, .slice a' l.length cap'] 24)) = w2 at *
  refine Calls.mono (sort_any w0.heap.size a' cap' l _ hO1 hr (by omega)) ?_
  rintro e w3 ⟨rfl, hO3, hg3, hb3⟩
  have f0 := keepb hb3 (by simp; omega) e0
  have f1 := keepb hb3 (by simp; omega) e1
  have f2 := keepf hb3 (by simp; omega) e2
  have f3 := keepf hb3 (by simp; omega) e3
  have hbl := hg3.block w1.heap.size (by omega) (by
    intro hh
    rcases Option.eq_none_or_eq_some a' with h | ⟨ad, h⟩
    · rw [h] at hh; simp at hh
    · rw [h] at hh; simp at hh; have := HA.out ad h; omega)
  have s0 : w3.cell? ⟨w1.heap.size, 0, none⟩ = some (.int .i64 f) := (World.cell?_of_block (a := ⟨w1.heap.size, 0, none⟩) hbl).trans r0
  have s1 : w3.cell? ⟨w1.heap.size, 1, none⟩ = some (.slice a' l.length cap') := (World.cell?_of_block (a := ⟨w1.heap.size, 1, none⟩) hbl).trans r1
  have HB3 := Lib.hid (HB2.out.trans (hb3.mono (by omega)))
  have hs3 := hb3.size
  have HO3 := Lib.hid hO3
  have I3 := Lib.hid (hO3.ints (by rw [sortI_len]; omega))
  clear hO1 d0 d1 d2 d3 e0 e1 e2 e3 r0 r1 hO3 hg3 hb3 hbl HO
  go_wp2_with fail
  have hck := check_any f a' cap' (sortI l) w3 I3.out
  rw [sortI_len] at hck
  refine Calls.mono hck ?_
  rintro e w4 ⟨rfl, hb4⟩
  have g0 := keepc hb4 f0
  have g1 := keepc hb4 f1
  have g2 := keepf hb4 (by simp; omega) f2
  have g3 := keepf hb4 (by simp; omega) f3
  have t0 := keepc hb4 s0
  have t1 := keepc hb4 s1
  have HB4 := Lib.hid (Below.step HB3.out hb4)
  have HO4 := Lib.hid (ownsRow_below HO3.out hb4)
  clear hck f0 f1 f2 f3 s0 s1 hb4
  cases hg : goodC f (sortI l) with
  | true =>
    have HG := Lib.hid hg
    rw [errC_good hg]
    clear hg
    go_wp2
    have r1 := put2_load (x := .int .i64 f) (y := .slice a' l.length cap') g0 g1
    have hown := ownsRow_setCell_below (ownsRow_setCell_below HO4.out (a := ⟨w.heap.size, 0, none⟩) (by simp; omega) (.int .i64 f)) (a := ⟨w.heap.size, 1, none⟩) (by simp; omega) (.slice a' l.length cap')
    refine bodyPost_ret (v := .tuple #[.agg #[.int .i64 f, .slice a' l.length cap'], .int .i64 0]) (by simp [results, Try.results67, asAddr, r1, Result.andThen]) rfl ?_
    refine ⟨a', cap', ?_, ?_, put2_below HB4.out (Nat.le_refl _)⟩
    · simp [makeF, makeL, makeE, HG.out, sortI_len]
    · rw [show makeL f l = sortI l by simp [makeL, HG.out]]
      exact ownsRow_base (by omega) hown
  | false =>
    have HG := Lib.hid hg
    rw [errC_bad hg]
    clear hg
    go_wp2
    have r1 := put2_load (x := .int .i64 0) (y := .slice none 0 0) g0 g1
    refine bodyPost_ret (v := .tuple #[.agg #[.int .i64 0, .slice none 0 0], .int .i64 2]) (by simp [results, Try.results67, asAddr, r1, Result.andThen]) rfl ?_
    refine ⟨none, 0, ?_, ?_, put2_below HB4.out (Nat.le_refl _)⟩
    · simp [makeF, makeL, makeE, HG.out]
    · rw [show makeL f l = [] by simp [makeL, HG.out]]
      exact World.ownsRow_nil _ _ _ _
end Go.Proofs.Ytldcpnabgpjgiaa.Walks
