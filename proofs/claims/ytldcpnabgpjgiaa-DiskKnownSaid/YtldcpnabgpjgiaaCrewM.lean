/-
  The walk of bastideref08.Replace.
-/
import Derived.Test.YtldcpnabgpjgiaaCrewL
namespace Go.Proofs.Ytldcpnabgpjgiaa.Walks
open Go.RowKit Plain
set_option linter.unusedVariables false

theorem refOf_n (f : Int) (a : Option Addr) (cap n : Nat) (l : List Int) (hl : l.length = n) (w : World) (hI : Ints w a l) :
    Calls Try.prog 105 #[.int .i64 f, .slice a n cap] w fun e w' => ∃ a' cap', e = .returned (.agg #[.int .i64 f, .slice a' (ofC l).length cap']) ∧ Own w' w.heap.size a' (ofC l) cap' ∧ Below w.heap.size w w' := by
  subst hl; exact refOf_any f a cap l w hI

theorem rep_rest2 {f : Int} {l : List Int} {old next : Int} (h : goodC f l = true) (hn : (decide (1 ≤ next) && decide (next ≤ 28)) = true) (ho : old ∈ l) (hx : next ∉ l) :
    f = repF f l old next ∧ ofC (dels old l ++ [next]) = repL f l old next ∧ 0 = repE f l old next := by
  have hm : mayC f l old next = true := by
    unfold mayC
    rw [h, hn]; simp [ho, hx]
  have hg := rep_good hm
  refine ⟨by simp [repF, hm], by rw [repL, if_pos hm]; exact ((make_same f _).2 hg).symm, ?_⟩
  unfold repE
  rw [h, hn]; simp [ho, hx]

set_option maxRecDepth 100000 in
set_option maxHeartbeats 4000000 in
theorem refReplace_any (f : Int) (a : Option Addr) (cap : Nat) (l : List Int) (old next : Int) (w : World) (hI : Ints w a l) :
    Calls Try.prog 83 #[.agg #[.int .i64 f, .slice a l.length cap], .int .i64 old, .int .i64 next] w (CrewPost (repF f l old next) (repL f l old next) (repE f l old next) w) := by
  have HI := Lib.hid hI
  clear hI
  have bad : ∀ (E : Int) (w' : World), repE f l old next = E → mayC f l old next = false → Below w.heap.size w w' → CrewPost (repF f l old next) (repL f l old next) (repE f l old next) w (.returned (.tuple #[.agg #[.int .i64 0, .slice none 0 0], .int .i64 E])) w' := by
    intro E w' h1 h2 h3
    rw [h1, show repF f l old next = 0 by simp [repF, h2], show repL f l old next = [] by simp [repL, h2]]
    exact ⟨none, 0, rfl, World.ownsRow_nil _ _ _ _, h3⟩
  have BAD := Lib.hid bad
  clear bad
  go_enter Try.func83, Try.ntmps83
  go_wp2_with fail
  obtain ⟨c0, c1, d0, d1, fz0, fz1, hsz⟩ := two_crews w (.int .i64 f) (.slice a l.length cap) (.int .i64 0) (.slice none 0 0)
  have HB := Lib.hid ((Below.new w (.cells #[.int .i64 f, .slice a l.length cap] 24)).alloc (by simp) (.cells #[.int .i64 0, .slice none 0 0] 24))
  have HA := Lib.hid ((HI.out.alloc (.cells #[.int .i64 f, .slice a l.length cap] 24)).alloc (.cells #[.int .i64 0, .slice none 0 0] 24))
  generalize ((w.alloc (.cells #[.int .i64 f, .slice a l.length cap] 24)).alloc (.cells #[.int .i64 0, .slice none 0 0] 24)) = wa at *
  have hszl := Nat.le_of_eq hsz.symm
  clear hsz
  refine Calls.mono (refCheck_any f a cap l _ HA.out) ?_
  rintro e w1 ⟨rfl, hb⟩
  have c0 := keepc hb c0
  have c1 := keepc hb c1
  have d0 := keepc hb d0
  have d1 := keepc hb d1
  have fz0 := keepf hb (by simp; omega) fz0
  have fz1 := keepf hb (by simp; omega) fz1
  have hs1 := hb.size
  have HB1 := Lib.hid (Below.step HB.out hb)
  have HA1 := Lib.hid (HA.out.below hb)
  clear hb
  cases hg : goodC f l with
  | false =>
    have HG := Lib.hid hg
    rw [errC_bad hg]
    clear hg
    go_wp2
    have r1 := put2_load (x := .int .i64 0) (y := .slice none 0 0) d0 d1
    exact bodyPost_ret (v := .tuple #[.agg #[.int .i64 0, .slice none 0 0], .int .i64 110]) (by simp [results, Try.results83, asAddr, r1, Result.andThen]) rfl
      (BAD.out _ _ (by simp [repE, HG.out]) (by simp [mayC, HG.out]) ((HB1.out.setCell (by simp) _).setCell (by simp) _))
  | true =>
    have HG := Lib.hid hg
    rw [errC_good hg]
    clear hg
    go_wp2_with fail
    refine Calls.mono (refNode_any next _) ?_
    rintro e w' ⟨rfl, rfl⟩
    cases hq : (decide (1 ≤ next) && decide (next ≤ 28)) with
    | false =>
      have HQ := Lib.hid hq
      clear hq
      go_wp2
      have r1 := put2_load (x := .int .i64 0) (y := .slice none 0 0) d0 d1
      exact bodyPost_ret (v := .tuple #[.agg #[.int .i64 0, .slice none 0 0], .int .i64 2]) (by simp [results, Try.results83, asAddr, r1, Result.andThen]) rfl
        (BAD.out _ _ (by unfold repE; rw [HG.out, HQ.out]; rfl) (by unfold mayC; rw [HG.out, HQ.out]; rfl) ((HB1.out.setCell (by simp) _).setCell (by simp) _))
    | true =>
      have HQ := Lib.hid hq
      clear hq
      go_wp2_with fail
      refine Calls.mono (in_any a cap l old _ HA1.out) ?_
      rintro e w2 ⟨rfl, rfl⟩
      by_cases ho : old ∈ l
      · have hd : decide (old ∈ l) = true := by simp [ho]
        rw [hd]
        have HO := Lib.hid ho
        clear ho hd
        go_wp2_with fail
        refine Calls.mono (in_any a cap l next _ HA1.out) ?_
        rintro e w3 ⟨rfl, rfl⟩
        by_cases hx : next ∈ l
        · have hd : decide (next ∈ l) = true := by simp [hx]
          rw [hd]
          have HX := Lib.hid hx
          clear hx hd
          go_wp2
          have r1 := put2_load (x := .int .i64 0) (y := .slice none 0 0) d0 d1
          exact bodyPost_ret (v := .tuple #[.agg #[.int .i64 0, .slice none 0 0], .int .i64 110]) (by simp [results, Try.results83, asAddr, r1, Result.andThen]) rfl
            (BAD.out _ _ (by unfold repE; rw [HG.out, HQ.out]; simp [HX.out]) (by unfold mayC; simp [HX.out]) ((HB1.out.setCell (by simp) _).setCell (by simp) _))
        · have hd : decide (next ∈ l) = false := by simp [hx]
          rw [hd]
          have HX := Lib.hid hx
          clear hx hd
          go_wp2_with fail
          have hoth : othersC f l old = dels old l := by simp [othersC, HG.out]
          have hdl : (dels old l).length + 1 ≤ 17592186044416 := by have := dels_len old l; have := (goodC_len HG.out).2; omega
          have HOTH := Lib.hid hoth
          have HDL := Lib.hid hdl
          clear hoth hdl
          have HHL : Hid ((othersC f l old).length + 1 ≤ 17592186044416) := Lib.hid (by rw [HOTH.out]; exact HDL.out)
          have HHM : Hid ((othersC f l old ++ [next]).length = (othersC f l old).length + 1) := Lib.hid (by simp)
          go_region_held3 (fun w' => w'.cell? ⟨w.heap.size, 0, none⟩ = some (.int .i64 f) ∧ w'.cell? ⟨w.heap.size, 1, none⟩ = some (.slice a l.length cap))
            (first
              | go_keep | assumption | exact ⟨keepc h36 c0, keepc h36 c1⟩ | exact ⟨keepc h35 c0, keepc h35 c1⟩ | exact ⟨keepc h34 c0, keepc h34 c1⟩)
            ((first
              | (go_at_call 81; refine Calls.mono (refOthers_any f a cap l old _ HA1.out.drew (by have := goodC_len HG.out; omega)) ?_; rintro e w4 ⟨a4, cap4, rfl, hO4, hb4⟩; have h34 := hb4)
              | (go_at_call 81; refine Calls.mono (refOthers_any f a cap l old _ (HA1.out.drew.alloc _) (by have := goodC_len HG.out; omega)) ?_; rintro e w4 ⟨a4, cap4, rfl, hO4, hb4⟩; have h34 : Below w1.drew.heap.size w1.drew w4 := Below.step (Below.new w1.drew (.cells #[.int .i64 next] 3)) hb4)
              | (refine step_append1 (by rfl) _ _ (by rfl) w1.drew.heap.size a4 cap4 (othersC f l old) (by rfl) (ownsRow_below hO4 (Below.new _ _)) w4.heap.size next (by rfl) (heap_alloc_new _ _) HHL.out (Nat.le_trans hb4.size (by simp)) ?_; intro g5 cap5 w5 hO5 hb5; have h35 := chainA hb4 hb5)
              | (refine step_append1 (by rfl) _ _ (by rfl) (w1.drew.alloc (.cells #[.int .i64 next] 3)).heap.size a4 cap4 (othersC f l old) (by rfl) hO4 w1.heap.size next (by rfl) ((hb4.block w1.heap.size (by simp)).trans (heap_alloc_new w1.drew _)) HHL.out hb4.size ?_; intro g5 cap5 w5 hO5 hb5; have h35 : Below w1.drew.heap.size w1.drew w5 := chainB (w3 := w1.drew) (o := .cells #[.int .i64 next] 3) hb4 hb5)
              | (go_at_call 105; refine Calls.mono (refOf_n f (some ⟨g5, 0, none⟩) cap5 _ (othersC f l old ++ [next]) HHM.out _ (Own.ints hO5 (by rw [HHM.out]; have := HHL.out; omega))) ?_; rintro e w6 ⟨a6, cap6, rfl, hO6, hb6⟩; have h36 := Below.step h35 hb6
                 have k0 := keepc h36 c0
                 have k1 := keepc h36 c1
                 have d0 := keepc h36 d0
                 have d1 := keepc h36 d1
                 have fz0 := keepf h36 (by show w.heap.size + 1 < w1.heap.size; omega) fz0
                 have fz1 := keepf h36 (by show w.heap.size + 1 < w1.heap.size; omega) fz1
                 have HB6 : Hid (Below w.heap.size w w6) := Lib.hid (Below.step HB1.out.drew h36)
                 have HO6 := Lib.hid hO6
                 have HS6 : Hid (w.heap.size + 2 ≤ w5.heap.size) := Lib.hid (by have h : w1.heap.size ≤ w5.heap.size := h35.size; omega))))
          all_goals
            go_wp2
            obtain ⟨m1, m2, m3⟩ := rep_rest2 HG.out HQ.out HO.out HX.out
            have r1 := put2_load (x := .int .i64 f) (y := .slice a6 (ofC (othersC f l old ++ [next])).length cap6) d0 d1
            refine bodyPost_ret (v := .tuple #[.agg #[.int .i64 f, .slice a6 (ofC (othersC f l old ++ [next])).length cap6], .int .i64 0]) (by simp [results, Try.results83, asAddr, r1, Result.andThen]) rfl ?_
            have hown := ownsRow_setCell_below (ownsRow_setCell_below HO6.out (a := ⟨w.heap.size + 1, 0, none⟩) (by have := HS6.out; show w.heap.size + 1 < w5.heap.size; omega) (.int .i64 f)) (a := ⟨w.heap.size + 1, 1, none⟩) (by have := HS6.out; show w.heap.size + 1 < w5.heap.size; omega) (.slice a6 (ofC (othersC f l old ++ [next])).length cap6)
            rw [← m1, ← m2, ← m3, ← HOTH.out]
            exact ⟨a6, cap6, rfl, ownsRow_base (by have := HS6.out; omega) hown, put2_below HB6.out (by omega)⟩
      · have hd : decide (old ∈ l) = false := by simp [ho]
        rw [hd]
        have HO := Lib.hid ho
        clear ho hd
        go_wp2
        have r1 := put2_load (x := .int .i64 0) (y := .slice none 0 0) d0 d1
        exact bodyPost_ret (v := .tuple #[.agg #[.int .i64 0, .slice none 0 0], .int .i64 110]) (by simp [results, Try.results83, asAddr, r1, Result.andThen]) rfl
          (BAD.out _ _ (by unfold repE; rw [HG.out, HQ.out]; simp [HO.out]) (by unfold mayC; simp [HO.out]) ((HB1.out.setCell (by simp) _).setCell (by simp) _))
end Go.Proofs.Ytldcpnabgpjgiaa.Walks
