/-
  The walk of crew.Replace.
-/
import Derived.Test.YtldcpnabgpjgiaaCrewK
import Derived.Deep.AppendLies
import Derived.Deep.DrawnRows
namespace Go.Proofs.Ytldcpnabgpjgiaa.Walks
open Go.RowKit Plain
set_option linter.unusedVariables false

/-- append of one int onto a slice of the call's own: at a step of a region that draws its order. -/
theorem step_append1 {ops : Array Oper} {o : Oper} {a : Act} {w : World} {K : Act → World → Prop} {Q : Exit → Act → World → Prop} {E : Prop} (hgd : o.guard = none) (s x : Operand)
    (ho : o.op = .call { callee := .builtin .append, args := #[s, x], argTypes := #[22, 22] }) (base : Nat) (a0 : Option Addr) (cap0 : Nat) (l0 : List Int) (hs : a.eval s = .slice a0 l0.length cap0) (hown : Own w base a0 l0 cap0)
    (B : Nat) (n : Int) (hx : a.eval x = .slice (some ⟨B, 0, none⟩) 1 1) (hB : w.heap[B]? = some (.cells #[iv n] 3 (0, 0))) (hl : l0.length + 1 ≤ 17592186044416) (hbase : base ≤ w.heap.size)
    (h : ∀ g cap w', Own w' base (some ⟨g, 0, none⟩) (l0 ++ [n]) cap → Below base w w' → K (a.put o.dst (.slice (some ⟨g, 0, none⟩) (l0.length + 1) cap)) w') :
    if Region.wanted o (yielded ops a.tmps) = true then Oper.wp Try.prog o a w K Q else E := by
  obtain ⟨i0, hi, hz0, hz1, hz2⟩ := info_parts info3
  refine step_append_lies w hgd s x 22 ho base 3 i0 (.int .i64 0) 1 8 Try.underlying22 hi hz0 hz1 hz2 rfl (by decide) (.slice a0 l0.length cap0) l0.length (l0.map iv) hs hown ⟨B, 0, none⟩ 1 1 [iv n] hx rfl
    (World.news_of_block hB) (by intro u hu; simp at hu; subst hu; rfl) (by omega) (by unfold maxLen; omega) (by omega) hbase _ rfl ?_
  intro g cap w' h1 h2 _ _
  refine h g cap w' ?_ ((Below.refl _ _).grown h2 hbase (by
    intro k hk
    rcases Option.eq_none_or_eq_some a0 with e | ⟨ad, e⟩
    · subst e; cases hk
    · subst e; cases hk; exact hown.base_le rfl))
  unfold Own
  rw [List.map_append, List.length_append]
  exact h1

theorem make_n (f : Int) (a : Option Addr) (cap n : Nat) (l : List Int) (hl : l.length = n) (w : World) (hI : Ints w a l) (hn : a = none → cap = 0) (hr : l.length ≤ 17592186044416) :
    Calls Try.prog 67 #[.int .i64 f, .slice a n cap] w (CrewPost (makeF f l) (makeL f l) (makeE f l) w) := by
  subst hl; exact make_any f a cap l w hI hn hr

theorem rep_rest {f : Int} {l : List Int} {old next : Int} (h : goodC f l = true) (hn : (decide (1 ≤ next) && decide (next ≤ 28)) = true) (ho : old ∈ l) (hx : next ∉ l) :
    makeF f (dels old l ++ [next]) = repF f l old next ∧ makeL f (dels old l ++ [next]) = repL f l old next ∧ makeE f (dels old l ++ [next]) = repE f l old next := by
  have hm : mayC f l old next = true := by
    unfold mayC
    rw [h, hn]; simp [ho, hx]
  have hg := rep_good hm
  refine ⟨by simp [makeF, hg, repF, hm], by simp [makeL, hg, repL, hm], ?_⟩
  unfold makeE repE
  rw [hg, h, hn]; simp [ho, hx]

theorem chainA {w3 w4 w5 : World} {o : Obj} (hb4 : Below w3.heap.size w3 w4) (hb5 : Below w3.heap.size (w4.alloc o) w5) : Below w3.heap.size w3 w5 := (hb4.alloc hb4.size o).trans hb5
theorem chainB {w3 w4 w5 : World} {o : Obj} (hb4 : Below (w3.alloc o).heap.size (w3.alloc o) w4) (hb5 : Below (w3.alloc o).heap.size w4 w5) : Below w3.heap.size w3 w5 :=
  ((Below.new w3 o).trans (hb4.mono (by simp))).trans (hb5.mono (by simp))

set_option maxRecDepth 100000 in
set_option maxHeartbeats 4000000 in
theorem replace_any (f : Int) (a : Option Addr) (cap : Nat) (l : List Int) (old next : Int) (w : World) (hI : Ints w a l) (hn : a = none → cap = 0) (hr : l.length ≤ 140737488351232) :
    Calls Try.prog 82 #[.agg #[.int .i64 f, .slice a l.length cap], .int .i64 old, .int .i64 next] w (CrewPost (repF f l old next) (repL f l old next) (repE f l old next) w) := by
  have HI := Lib.hid hI
  have HN := Lib.hid hn
  clear hI hn
  have bad : ∀ (E : Int) (w' : World), repE f l old next = E → mayC f l old next = false → Below w.heap.size w w' → CrewPost (repF f l old next) (repL f l old next) (repE f l old next) w (.returned (.tuple #[.agg #[.int .i64 0, .slice none 0 0], .int .i64 E])) w' := by
    intro E w' h1 h2 h3
    rw [h1, show repF f l old next = 0 by simp [repF, h2], show repL f l old next = [] by simp [repL, h2]]
    exact ⟨none, 0, rfl, World.ownsRow_nil _ _ _ _, h3⟩
  have BAD := Lib.hid bad
  clear bad
  go_enter Try.func82, Try.ntmps82
  go_wp2_with fail
  obtain ⟨c0, c1, d0, d1, fz0, fz1, hsz⟩ := two_crews w (.int .i64 f) (.slice a l.length cap) (.int .i64 0) (.slice none 0 0)
  have HB := Lib.hid ((Below.new w (.cells #[.int .i64 f, .slice a l.length cap] 24)).alloc (by simp) (.cells #[.int .i64 0, .slice none 0 0] 24))
  have HA := Lib.hid ((HI.out.alloc (.cells #[.int .i64 f, .slice a l.length cap] 24)).alloc (.cells #[.int .i64 0, .slice none 0 0] 24))
  generalize ((w.alloc (.cells #[.int .i64 f, .slice a l.length cap] 24)).alloc (.cells #[.int .i64 0, .slice none 0 0] 24)) = wa at *
  have hszl := Nat.le_of_eq hsz.symm
  clear hsz
  refine Calls.mono (check_any f a cap l _ HA.out) ?_
  rintro e w1 ⟨rfl, hb⟩
  have c0 := keepc hb c0
  have c1 := keepc hb c1
  have d0 := keepc hb d0
  have d1 := keepc hb d1
  have fz0 := keepf hb (by simp; omega) fz0
  have fz1 := keepf hb (by simp; omega) fz1
  have hs1 := hb.size
  have HB1 := Lib.hid (Below.step HB.out hb)
  have HA1 := Lib.hid (HA.out.below hb)
  clear hb
  cases hg : goodC f l with
  | false =>
    have HG := Lib.hid hg
    rw [errC_bad hg]
    clear hg
    go_wp2
    have r1 := put2_load (x := .int .i64 0) (y := .slice none 0 0) d0 d1
    exact bodyPost_ret (v := .tuple #[.agg #[.int .i64 0, .slice none 0 0], .int .i64 110]) (by simp [results, Try.results82, asAddr, r1, Result.andThen]) rfl
      (BAD.out _ _ (by simp [repE, HG.out]) (by simp [mayC, HG.out]) ((HB1.out.setCell (by simp) _).setCell (by simp) _))
  | true =>
    have HG := Lib.hid hg
    rw [errC_good hg]
    clear hg
    go_wp2_with fail
    refine Calls.mono (node_any next _) ?_
    rintro e w' ⟨rfl, rfl⟩
    cases hq : (decide (1 ≤ next) && decide (next ≤ 28)) with
    | false =>
      have HQ := Lib.hid hq
      clear hq
      go_wp2
      have r1 := put2_load (x := .int .i64 0) (y := .slice none 0 0) d0 d1
      exact bodyPost_ret (v := .tuple #[.agg #[.int .i64 0, .slice none 0 0], .int .i64 2]) (by simp [results, Try.results82, asAddr, r1, Result.andThen]) rfl
        (BAD.out _ _ (by unfold repE; rw [HG.out, HQ.out]; rfl) (by unfold mayC; rw [HG.out, HQ.out]; rfl) ((HB1.out.setCell (by simp) _).setCell (by simp) _))
    | true =>
      have HQ := Lib.hid hq
      clear hq
      go_wp2_with fail
      refine Calls.mono (has_any f a cap l old _ HA1.out hr) ?_
      rintro e w2 ⟨rfl, hb⟩
      have c0 := keepc hb c0
      have c1 := keepc hb c1
      have d0 := keepc hb d0
      have d1 := keepc hb d1
      have fz0 := keepf hb (by simp; omega) fz0
      have fz1 := keepf hb (by simp; omega) fz1
      have hs2 := hb.size
      have HB2 := Lib.hid (Below.step HB1.out hb)
      have HA2 := Lib.hid (HA1.out.below hb)
      clear hb
      rw [show hasC f l old = decide (old ∈ l) by simp [hasC, HG.out]]
      by_cases ho : old ∈ l
      · have hd : decide (old ∈ l) = true := by simp [ho]
        rw [hd]
        have HO := Lib.hid ho
        clear ho hd
        go_wp2_with fail
        refine Calls.mono (has_any f a cap l next _ HA2.out hr) ?_
        rintro e w3 ⟨rfl, hb⟩
        have c0 := keepc hb c0
        have c1 := keepc hb c1
        have d0 := keepc hb d0
        have d1 := keepc hb d1
        have fz0 := keepf hb (by simp; omega) fz0
        have fz1 := keepf hb (by simp; omega) fz1
        have hs3 := hb.size
        have HB3 := Lib.hid (Below.step HB2.out hb)
        have HA3 := Lib.hid (HA2.out.below hb)
        clear hb
        rw [show hasC f l next = decide (next ∈ l) by simp [hasC, HG.out]]
        by_cases hx : next ∈ l
        · have hd : decide (next ∈ l) = true := by simp [hx]
          rw [hd]
          have HX := Lib.hid hx
          clear hx hd
          go_wp2
          have r1 := put2_load (x := .int .i64 0) (y := .slice none 0 0) d0 d1
          exact bodyPost_ret (v := .tuple #[.agg #[.int .i64 0, .slice none 0 0], .int .i64 110]) (by simp [results, Try.results82, asAddr, r1, Result.andThen]) rfl
            (BAD.out _ _ (by unfold repE; rw [HG.out, HQ.out]; simp [HX.out]) (by unfold mayC; simp [HX.out]) ((HB3.out.setCell (by simp) _).setCell (by simp) _))
        · have hd : decide (next ∈ l) = false := by simp [hx]
          rw [hd]
          have HX := Lib.hid hx
          clear hx hd
          go_wp2_with fail
          have hoth : othersC f l old = dels old l := by simp [othersC, HG.out]
          have hdl : (dels old l).length + 1 ≤ 17592186044416 := by have := dels_len old l; have := (goodC_len HG.out).2; omega
          have HOTH := Lib.hid hoth
          have HDL := Lib.hid hdl
          clear hoth hdl
          have HHL : Hid ((othersC f l old).length + 1 ≤ 17592186044416) := Lib.hid (by rw [HOTH.out]; exact HDL.out)
          have HHM : Hid ((othersC f l old ++ [next]).length = (othersC f l old).length + 1) := Lib.hid (by simp)
          go_region_held3 (fun w' => w'.cell? ⟨w.heap.size, 0, none⟩ = some (.int .i64 f) ∧ w'.cell? ⟨w.heap.size, 1, none⟩ = some (.slice a l.length cap))
            (first
              | go_keep | assumption | exact ⟨keepc h36 c0, keepc h36 c1⟩ | exact ⟨keepc h35 c0, keepc h35 c1⟩ | exact ⟨keepc h34 c0, keepc h34 c1⟩)
            ((first
              | (go_at_call 72; refine Calls.mono (others_any f a cap l old _ HA3.out.drew HN.out) ?_; rintro e w4 ⟨a4, cap4, rfl, hO4, hb4⟩; have h34 := hb4)
              | (go_at_call 72; refine Calls.mono (others_any f a cap l old _ (HA3.out.drew.alloc _) HN.out) ?_; rintro e w4 ⟨a4, cap4, rfl, hO4, hb4⟩; have h34 : Below w3.drew.heap.size w3.drew w4 := Below.step (Below.new w3.drew (.cells #[.int .i64 next] 3)) hb4)
              | (refine step_append1 (by rfl) _ _ (by rfl) w3.drew.heap.size a4 cap4 (othersC f l old) (by rfl) (ownsRow_below hO4 (Below.new _ _)) w4.heap.size next (by rfl) (heap_alloc_new _ _) HHL.out (Nat.le_trans hb4.size (by simp)) ?_; intro g5 cap5 w5 hO5 hb5; have h35 := chainA hb4 hb5)
              | (refine step_append1 (by rfl) _ _ (by rfl) (w3.drew.alloc (.cells #[.int .i64 next] 3)).heap.size a4 cap4 (othersC f l old) (by rfl) hO4 w3.heap.size next (by rfl) ((hb4.block w3.heap.size (by simp)).trans (heap_alloc_new w3.drew _)) HHL.out hb4.size ?_; intro g5 cap5 w5 hO5 hb5; have h35 : Below w3.drew.heap.size w3.drew w5 := chainB (w3 := w3.drew) (o := .cells #[.int .i64 next] 3) hb4 hb5)
              | (go_at_call 67; refine Calls.mono (make_n f (some ⟨g5, 0, none⟩) cap5 _ (othersC f l old ++ [next]) HHM.out _ (Own.ints hO5 (by rw [HHM.out]; have := HHL.out; omega)) (by intro h; cases h) (by rw [HHM.out]; exact HHL.out)) ?_; rintro e w6 ⟨a6, cap6, rfl, hO6, hb6⟩; have h36 := Below.step h35 hb6
                 have k0 := keepc h36 c0
                 have k1 := keepc h36 c1
                 have d0 := keepc h36 d0
                 have d1 := keepc h36 d1
                 have fz0 := keepf h36 (by show w.heap.size + 1 < w3.heap.size; omega) fz0
                 have fz1 := keepf h36 (by show w.heap.size + 1 < w3.heap.size; omega) fz1
                 have HB6 : Hid (Below w.heap.size w w6) := Lib.hid (Below.step HB3.out.drew h36)
                 have HO6 := Lib.hid hO6
                 have HS6 : Hid (w.heap.size + 2 ≤ w5.heap.size) := Lib.hid (by have h : w3.heap.size ≤ w5.heap.size := h35.size; omega))))
          all_goals
            go_wp2
            obtain ⟨m1, m2, m3⟩ := rep_rest HG.out HQ.out HO.out HX.out
            have r1 := put2_load (x := .int .i64 (makeF f (othersC f l old ++ [next]))) (y := .slice a6 (makeL f (othersC f l old ++ [next])).length cap6) d0 d1
            refine bodyPost_ret (v := .tuple #[.agg #[.int .i64 (makeF f (othersC f l old ++ [next])), .slice a6 (makeL f (othersC f l old ++ [next])).length cap6], .int .i64 (makeE f (othersC f l old ++ [next]))]) (by simp [results, Try.results82, asAddr, r1, Result.andThen]) rfl ?_
            have hown := ownsRow_setCell_below (ownsRow_setCell_below HO6.out (a := ⟨w.heap.size + 1, 0, none⟩) (by have := HS6.out; show w.heap.size + 1 < w5.heap.size; omega) (.int .i64 (makeF f (othersC f l old ++ [next])))) (a := ⟨w.heap.size + 1, 1, none⟩) (by have := HS6.out; show w.heap.size + 1 < w5.heap.size; omega) (.slice a6 (makeL f (othersC f l old ++ [next])).length cap6)
            rw [← m1, ← m2, ← m3, ← HOTH.out]
            exact ⟨a6, cap6, rfl, ownsRow_base (by have := HS6.out; omega) hown, put2_below HB6.out (by omega)⟩
      · have hd : decide (old ∈ l) = false := by simp [ho]
        rw [hd]
        have HO := Lib.hid ho
        clear ho hd
        go_wp2
        have r1 := put2_load (x := .int .i64 0) (y := .slice none 0 0) d0 d1
        exact bodyPost_ret (v := .tuple #[.agg #[.int .i64 0, .slice none 0 0], .int .i64 110]) (by simp [results, Try.results82, asAddr, r1, Result.andThen]) rfl
          (BAD.out _ _ (by unfold repE; rw [HG.out, HQ.out]; simp [HO.out]) (by unfold mayC; simp [HO.out]) ((HB2.out.setCell (by simp) _).setCell (by simp) _))
end Go.Proofs.Ytldcpnabgpjgiaa.Walks
