/-
  The walk of the law CrewKnown.
-/
import Derived.Test.YtldcpnabgpjgiaaCrewZB
namespace Go.Proofs.Ytldcpnabgpjgiaa.Walks
open Go.RowKit Plain
set_option linter.unusedVariables false

theorem kn_bad {f : Int} {l : List Int} (h : (goodC f (ofC l) && decide ((ofC l).length = l.length)) = false) : makeF f l = 0 ∧ makeL f l = [] ∧ makeE f l = 2 := make_case_bad h
theorem kn1 : makeF 1 [1, 2, 3] = 0 ∧ makeL 1 [1, 2, 3] = [] ∧ makeE 1 [1, 2, 3] = 2 := kn_bad (by decide +kernel)
theorem kn2 : makeF 1 [1, 1, 2, 3] = 0 ∧ makeL 1 [1, 1, 2, 3] = [] ∧ makeE 1 [1, 1, 2, 3] = 2 := kn_bad (by decide +kernel)
theorem kn3 : makeF 0 [9] = 0 ∧ makeL 0 [9] = [9] ∧ makeE 0 [9] = 0 := by
  obtain ⟨h1, h2, h3⟩ := make_case_good (f := 0) (l := [9]) (by decide +kernel) (by decide +kernel)
  exact ⟨h1, h2.trans (by decide +kernel), h3⟩
theorem kn4 : makeF 0 [29] = 0 ∧ makeL 0 [29] = [] ∧ makeE 0 [29] = 2 := kn_bad (by decide +kernel)
theorem kn5 : makeF 3 [1, 2, 3, 4, 5, 6, 7, 8, 9, 10] = 0 ∧ makeL 3 [1, 2, 3, 4, 5, 6, 7, 8, 9, 10] = [] ∧ makeE 3 [1, 2, 3, 4, 5, 6, 7, 8, 9, 10] = 2 := kn_bad (by decide +kernel)
theorem kn6 : makeF (-1) [] = 0 ∧ makeL (-1) [] = [] ∧ makeE (-1) [] = 2 := kn_bad (by decide +kernel)
theorem kn7 : makeF 2 [28, 27, 26, 25, 24, 23, 22] = 2 ∧ makeL 2 [28, 27, 26, 25, 24, 23, 22] = [22, 23, 24, 25, 26, 27, 28] ∧ makeE 2 [28, 27, 26, 25, 24, 23, 22] = 0 := by
  obtain ⟨h1, h2, h3⟩ := make_case_good (f := 2) (l := [28, 27, 26, 25, 24, 23, 22]) (by decide +kernel) (by decide +kernel)
  exact ⟨h1, h2.trans (by decide +kernel), h3⟩
theorem kn_most9 : mostC 0 [9] = 1 := by decide
theorem kn_some9 : someC 0 [9] = 1 := by decide
theorem kn_lead9 : leadC 0 [9] 4611686018427387904 = 9 := by decide +kernel
theorem kn_most7 : mostC 2 [22, 23, 24, 25, 26, 27, 28] = 5 := by decide

theorem kn_rep {old next E : Int} (h : mayC 1 [2, 3, 5, 7] old next = false) (hE : repE 1 [2, 3, 5, 7] old next = E) : repF 1 [2, 3, 5, 7] old next = 0 ∧ repL 1 [2, 3, 5, 7] old next = [] ∧ repE 1 [2, 3, 5, 7] old next = E := ⟨by simp [repF, h], by simp [repL, h], hE⟩
theorem kn_r1 : repF 1 [2, 3, 5, 7] 4 6 = 0 ∧ repL 1 [2, 3, 5, 7] 4 6 = [] ∧ repE 1 [2, 3, 5, 7] 4 6 = 110 := kn_rep (by decide) (by decide)
theorem kn_r2 : repF 1 [2, 3, 5, 7] 3 5 = 0 ∧ repL 1 [2, 3, 5, 7] 3 5 = [] ∧ repE 1 [2, 3, 5, 7] 3 5 = 110 := kn_rep (by decide) (by decide)
theorem kn_r3 : repF 1 [2, 3, 5, 7] 9 0 = 0 ∧ repL 1 [2, 3, 5, 7] 9 0 = [] ∧ repE 1 [2, 3, 5, 7] 9 0 = 2 := kn_rep (by decide) (by decide)
theorem kn_r4 : repF 1 [2, 3, 5, 7] 3 29 = 0 ∧ repL 1 [2, 3, 5, 7] 3 29 = [] ∧ repE 1 [2, 3, 5, 7] 3 29 = 2 := kn_rep (by decide) (by decide)
theorem kn_r5 : repF 1 [2, 3, 5, 7] 3 3 = 0 ∧ repL 1 [2, 3, 5, 7] 3 3 = [] ∧ repE 1 [2, 3, 5, 7] 3 3 = 110 := kn_rep (by decide) (by decide)
theorem kn_rk {r : List Int} {many : Int} (h : rankOk 1 [2, 3, 5, 7] r many = false) : rankV 1 [2, 3, 5, 7] r many = 0 ∧ rankE 1 [2, 3, 5, 7] r many = 2 := ⟨(rankE_arg good4 h).2, (rankE_arg good4 h).1⟩
theorem kn_k1 : rankV 1 [2, 3, 5, 7] [1, 2, 3] 1 = 0 ∧ rankE 1 [2, 3, 5, 7] [1, 2, 3] 1 = 2 := kn_rk (by decide)
theorem kn_k2 : rankV 1 [2, 3, 5, 7] [1, 2, 3, 4] 0 = 0 ∧ rankE 1 [2, 3, 5, 7] [1, 2, 3, 4] 0 = 2 := kn_rk (by decide)
theorem kn_k3 : rankV 1 [2, 3, 5, 7] [1, 2, 3, 4] 5 = 0 ∧ rankE 1 [2, 3, 5, 7] [1, 2, 3, 4] 5 = 2 := kn_rk (by decide)
theorem kn_sort : sortI [-5, -5, -7, -6] = [-7, -6, -5, -5] := sorted_perm_eq (sortI_sorted _) (by decide) ((sortI_perm _).trans (by decide))
theorem kn_k4 : rankV 1 [2, 3, 5, 7] [-5, -5, -7, -6] 4 = -7 ∧ rankE 1 [2, 3, 5, 7] [-5, -5, -7, -6] 4 = 0 := by
  have h : rankOk 1 [2, 3, 5, 7] [-5, -5, -7, -6] 4 = true := by decide
  obtain ⟨h1, h2⟩ := rankE_ok good4 h
  refine ⟨h2.trans ?_, h1⟩
  unfold rankC; rw [show (4 : Int).toNat = 4 from rfl, kn_sort]; rfl
theorem kn_l1 : leadC 1 [2, 3, 5, 7] (-1) = 0 := by decide
theorem kn_l2 : leadC 1 [2, 3, 5, 7] 0 = 2 := by decide
theorem kn_o : othersC 1 [2, 3, 5, 7] 4 = [2, 3, 5, 7] := by decide
theorem kn_v : votesC 1 [2, 3, 5, 7] [] = 0 := by decide
theorem kn_h : hasC 1 [2, 3, 5, 7] 4 = false := by decide
/-- Crews that may not be answer so. -/
theorem bad_rep {f : Int} {l : List Int} (h : goodC f l = false) (old next : Int) : repF f l old next = 0 ∧ repL f l old next = [] ∧ repE f l old next = 110 := by
  have hm : mayC f l old next = false := by simp [mayC, h]
  exact ⟨by simp [repF, hm], by simp [repL, hm], by simp [repE, h]⟩
theorem bad_rank {f : Int} {l r : List Int} {many : Int} (h : goodC f l = false) : rankV f l r many = 0 ∧ rankE f l r many = 110 := ⟨(rankE_bad h).2, (rankE_bad h).1⟩
def badF : List Int := [0, 1, 1, 1, 0, 0, -1, 3, 4611686018427387904]
def badL : List (List Int) := [[], [1, 2, 3], [1, 2, 4, 3], [1, 2, 2, 3], [0], [29], [], [1, 2, 3, 4, 5, 6, 7, 8, 9, 10], []]
theorem bad_all : ∀ k, k < 9 → goodC (badF.getD k 0) (badL.getD k []) = false ∧ (badL.getD k []).length ≤ 10 := by decide
def BadAt (w : World) (B : Nat) : Prop := ∀ k, k < 9 → ∃ (a : Option Addr) (c : Nat), w.cell? ⟨B, k * 2, none⟩ = some (.int .i64 (badF.getD k 0)) ∧ w.cell? ⟨B, k * 2 + 1, none⟩ = some (.slice a (badL.getD k []).length c) ∧ Ints w a (badL.getD k []) ∧ (a = none → c = 0)
theorem ints_block {w : World} {g : Nat} {cs : Array Value} {l : List Int} {fr : Nat × Nat} (h : w.heap[g]? = some (.cells cs 3 fr)) (hc : cs = (l.map iv).toArray) (hm : l.length ≤ 9223372036854775807) : Ints w (some ⟨g, 0, none⟩) l :=
  ⟨hm, .inr ⟨g, 0, rfl, fun i hi => by
    rw [cell_of_row _ _ _ _ _ _ h, hc]
    simp [hi, iv]⟩⟩

set_option maxRecDepth 100000 in
set_option maxHeartbeats 16000000 in
theorem crewKnown_walk (w : World) : Calls Try.prog 27 #[] w fun e w' => e = .returned (.bool true) ∧ Below w.heap.size w w' := by
  go_enter Try.func27, Try.ntmps27
  go_wp2_with fail
  have HB := Lib.hid (Below.refl w.heap.size w)
  refine Calls.mono (make_is kn1 (some ⟨w.heap.size, 0, none⟩) 3 _ (ints_lit w rfl (by decide)) (by intro h; cases h) (by decide)) ?_
  rintro e w1 ⟨a1, cap1, rfl, hO1, hb1⟩
  have hbb := Below.step (Below.step (Below.new w _) hb1) (Below.new w1 (.cells #[.int .i64 0, .slice a1 0 cap1] 24))
  have HB := Lib.hid (Below.step HB.out hbb)
  clear hbb hO1 hb1
  go_wp2_with fail
  have hz1 : (w1.alloc (.cells #[.int .i64 0, .slice a1 0 cap1] 24)).heap.size = w1.heap.size + 1 := by simp
  generalize (w1.alloc (.cells #[.int .i64 0, .slice a1 0 cap1] 24)) = v1 at *
  refine Calls.mono (make_is kn2 (some ⟨w1.heap.size + 1, 0, none⟩) 4 _ (by rw [← hz1]; exact ints_lit v1 rfl (by decide)) (by intro h; cases h) (by decide)) ?_
  rintro e w2 ⟨a2, cap2, rfl, hO2, hb2⟩
  have hbb := Below.step (Below.step (Below.new v1 _) hb2) (Below.new w2 (.cells #[.int .i64 0, .slice a2 0 cap2] 24))
  have HB := Lib.hid (Below.step HB.out hbb)
  clear hbb hO2 hb2
  go_wp2_with fail
  have hz2 : (w2.alloc (.cells #[.int .i64 0, .slice a2 0 cap2] 24)).heap.size = w2.heap.size + 1 := by simp
  generalize (w2.alloc (.cells #[.int .i64 0, .slice a2 0 cap2] 24)) = v2 at *
  refine Calls.mono (make_is kn3 (some ⟨w2.heap.size + 1, 0, none⟩) 1 _ (by rw [← hz2]; exact ints_lit v2 rfl (by decide)) (by intro h; cases h) (by decide)) ?_
  rintro e w3 ⟨a3, cap3, rfl, hO3, hb3⟩
  have hbb := Below.step (Below.step (Below.new v2 _) hb3) (Below.new w3 (.cells #[.int .i64 0, .slice a3 1 cap3] 24))
  have HB := Lib.hid (Below.step HB.out hbb)
  have p0 := (crew_box (w := w3) (F := 0) (v := .slice a3 1 cap3)).1
  have p1 := (crew_box (w := w3) (F := 0) (v := .slice a3 1 cap3)).2
  have Hp := Lib.hid ((Own.ints (l := [9]) hO3 (by decide)).alloc (.cells #[.int .i64 0, .slice a3 1 cap3] 24))
  clear hbb hO3 hb3
  go_wp2_with fail
  have hz3 : (w3.alloc (.cells #[.int .i64 0, .slice a3 1 cap3] 24)).heap.size = w3.heap.size + 1 := by simp
  generalize (w3.alloc (.cells #[.int .i64 0, .slice a3 1 cap3] 24)) = v3 at *
  refine Calls.mono (make_is kn4 (some ⟨w3.heap.size + 1, 0, none⟩) 1 _ (by rw [← hz3]; exact ints_lit v3 rfl (by decide)) (by intro h; cases h) (by decide)) ?_
  rintro e w4 ⟨a4, cap4, rfl, hO4, hb4⟩
  have hbb := Below.step (Below.step (Below.new v3 _) hb4) (Below.new w4 (.cells #[.int .i64 0, .slice a4 0 cap4] 24))
  have p0 := keepc hbb p0
  have p1 := keepc hbb p1
  have Hp := Lib.hid (Hp.out.below hbb)
  have HB := Lib.hid (Below.step HB.out hbb)
  clear hbb hO4 hb4
  go_wp2_with fail
  have hz4 : (w4.alloc (.cells #[.int .i64 0, .slice a4 0 cap4] 24)).heap.size = w4.heap.size + 1 := by simp
  generalize (w4.alloc (.cells #[.int .i64 0, .slice a4 0 cap4] 24)) = v4 at *
  refine Calls.mono (make_is kn5 (some ⟨w4.heap.size + 1, 0, none⟩) 10 _ (by rw [← hz4]; exact ints_lit v4 rfl (by decide)) (by intro h; cases h) (by decide)) ?_
  rintro e w5 ⟨a5, cap5, rfl, hO5, hb5⟩
  have hbb := Below.step (Below.step (Below.new v4 _) hb5) (Below.new w5 (.cells #[.int .i64 0, .slice a5 0 cap5] 24))
  have p0 := keepc hbb p0
  have p1 := keepc hbb p1
  have Hp := Lib.hid (Hp.out.below hbb)
  have HB := Lib.hid (Below.step HB.out hbb)
  clear hbb hO5 hb5
  go_wp2_with fail
  have hz5 : (w5.alloc (.cells #[.int .i64 0, .slice a5 0 cap5] 24)).heap.size = w5.heap.size + 1 := by simp
  generalize (w5.alloc (.cells #[.int .i64 0, .slice a5 0 cap5] 24)) = v5 at *
  refine Calls.mono (make_is kn6 none 0 _ (Ints.nil _ _) (fun _ => rfl) (by decide)) ?_
  rintro e w6 ⟨a6, cap6, rfl, hO6, hb6⟩
  have hbb := Below.step (Below.step (Below.refl _ v5) hb6) (Below.new w6 (.cells #[.int .i64 0, .slice a6 0 cap6] 24))
  have p0 := keepc hbb p0
  have p1 := keepc hbb p1
  have Hp := Lib.hid (Hp.out.below hbb)
  have HB := Lib.hid (Below.step HB.out hbb)
  clear hbb hO6 hb6
  go_wp2_with fail
  have hz6 : (w6.alloc (.cells #[.int .i64 0, .slice a6 0 cap6] 24)).heap.size = w6.heap.size + 1 := by simp
  generalize (w6.alloc (.cells #[.int .i64 0, .slice a6 0 cap6] 24)) = v6 at *
  refine Calls.mono (make_is kn7 (some ⟨w6.heap.size + 1, 0, none⟩) 7 _ (by rw [← hz6]; exact ints_lit v6 rfl (by decide)) (by intro h; cases h) (by decide)) ?_
  rintro e w7 ⟨a7, cap7, rfl, hO7, hb7⟩
  have hbb := Below.step (Below.step (Below.new v6 _) hb7) (Below.new w7 (.cells #[.int .i64 2, .slice a7 7 cap7] 24))
  have p0 := keepc hbb p0
  have p1 := keepc hbb p1
  have Hp := Lib.hid (Hp.out.below hbb)
  have HB := Lib.hid (Below.step HB.out hbb)
  obtain ⟨gq, curq, hgq, _⟩ := Own.len_pos_some (l := [22, 23, 24, 25, 26, 27, 28]) hO7 (by decide)
  obtain ⟨bq, offq, hqq, _, hcq⟩ := (Own.ints (l := [22, 23, 24, 25, 26, 27, 28]) hO7 (by decide)).at_lt (k := 0) (by decide)
  subst hgq
  cases hqq
  have q2 : (w7.alloc (.cells #[.int .i64 2, .slice (some ⟨gq, 0, none⟩) 7 cap7] 24)).cell? ⟨gq, 0, none⟩ = some (.int .i64 22) := keepc (Below.new w7 (.cells #[.int .i64 2, .slice (some ⟨gq, 0, none⟩) 7 cap7] 24)) (hcq 0 (by decide))
  clear hcq
  have q0 := (crew_box (w := w7) (F := 2) (v := .slice (some ⟨gq, 0, none⟩) 7 cap7)).1
  have q1 := (crew_box (w := w7) (F := 2) (v := .slice (some ⟨gq, 0, none⟩) 7 cap7)).2
  have Hq := Lib.hid ((Own.ints (l := [22, 23, 24, 25, 26, 27, 28]) hO7 (by decide)).alloc (.cells #[.int .i64 2, .slice (some ⟨gq, 0, none⟩) 7 cap7] 24))
  clear hbb hO7 hb7
  go_wp2_with fail
  have hz7 : (w7.alloc (.cells #[.int .i64 2, .slice (some ⟨gq, 0, none⟩) 7 cap7] 24)).heap.size = w7.heap.size + 1 := by simp
  generalize (w7.alloc (.cells #[.int .i64 2, .slice (some ⟨gq, 0, none⟩) 7 cap7] 24)) = v7 at *
  refine Calls.mono (most_is (l := [9]) kn_most9 a3 cap3 _ Hp.out) ?_
  rintro e u1 ⟨rfl, hb⟩
  have p0 := keepc hb p0
  have p1 := keepc hb p1
  have q2 := keepc hb q2
  have q0 := keepc hb q0
  have q1 := keepc hb q1
  have Hp := Lib.hid (Hp.out.below hb)
  have Hq := Lib.hid (Hq.out.below hb)
  have HB := Lib.hid (Below.step HB.out hb)
  clear hb
  go_wp2_with fail
  refine Calls.mono (some_is (l := [9]) kn_some9 a3 cap3 _ Hp.out) ?_
  rintro e u2 ⟨rfl, hb⟩
  have p0 := keepc hb p0
  have p1 := keepc hb p1
  have q2 := keepc hb q2
  have q0 := keepc hb q0
  have q1 := keepc hb q1
  have Hp := Lib.hid (Hp.out.below hb)
  have Hq := Lib.hid (Hq.out.below hb)
  have HB := Lib.hid (Below.step HB.out hb)
  clear hb
  go_wp2_with fail
  refine Calls.mono (lead_is (l := [9]) kn_lead9 a3 cap3 _ Hp.out) ?_
  rintro e u3 ⟨rfl, hb⟩
  have p0 := keepc hb p0
  have p1 := keepc hb p1
  have q2 := keepc hb q2
  have q0 := keepc hb q0
  have q1 := keepc hb q1
  have Hp := Lib.hid (Hp.out.below hb)
  have Hq := Lib.hid (Hq.out.below hb)
  have HB := Lib.hid (Below.step HB.out hb)
  clear hb
  go_wp2_with fail
  refine Calls.mono (most_is (l := [22, 23, 24, 25, 26, 27, 28]) kn_most7 _ cap7 _ Hq.out) ?_
  rintro e u4 ⟨rfl, hb⟩
  have q2 := keepc hb q2
  have q0 := keepc hb q0
  have q1 := keepc hb q1
  have Hq := Lib.hid (Hq.out.below hb)
  have HB := Lib.hid (Below.step HB.out hb)
  clear hb
  go_wp2_with fail
  obtain ⟨wb, hwb⟩ : ∃ wb : World, wb = (((((((u4.alloc (.cells #[.int .i64 1, .int .i64 2, .int .i64 3] 3)).alloc (.cells #[.int .i64 1, .int .i64 2, .int .i64 4, .int .i64 3] 3)).alloc (.cells #[.int .i64 1, .int .i64 2, .int .i64 2, .int .i64 3] 3)).alloc (.cells #[.int .i64 0] 3)).alloc (.cells #[.int .i64 29] 3)).alloc (.cells #[.int .i64 1, .int .i64 2, .int .i64 3, .int .i64 4, .int .i64 5, .int .i64 6, .int .i64 7, .int .i64 8, .int .i64 9, .int .i64 10] 3)).alloc (.cells #[.int .i64 0, .slice none 0 0, .int .i64 1, .slice (some ⟨u4.heap.size, 0, none⟩) 3 3, .int .i64 1, .slice (some ⟨u4.heap.size + 1, 0, none⟩) 4 4, .int .i64 1, .slice (some ⟨u4.heap.size + 1 + 1, 0, none⟩) 4 4, .int .i64 0, .slice (some ⟨u4.heap.size + 1 + 1 + 1, 0, none⟩) 1 1, .int .i64 0, .slice (some ⟨u4.heap.size + 1 + 1 + 1 + 1, 0, none⟩) 1 1, .int .i64 (-1), .slice none 0 0, .int .i64 3, .slice (some ⟨u4.heap.size + 1 + 1 + 1 + 1 + 1, 0, none⟩) 10 10, .int .i64 4611686018427387904, .slice none 0 0] 24)) := ⟨_, rfl⟩
  have hbb : Below u4.heap.size u4 wb := by
    rw [hwb]; exact ((((((Below.new u4 _).alloc (by simp <;> omega) _).alloc (by simp <;> omega) _).alloc (by simp <;> omega) _).alloc (by simp <;> omega) _).alloc (by simp <;> omega) _).alloc (by simp <;> omega) _
  have hh0 : wb.heap[u4.heap.size]? = some (.cells #[.int .i64 1, .int .i64 2, .int .i64 3] 3 (0, 0)) := by
    rw [hwb, heap_alloc_lt (by simp <;> omega), heap_alloc_lt (by simp <;> omega), heap_alloc_lt (by simp <;> omega), heap_alloc_lt (by simp <;> omega), heap_alloc_lt (by simp <;> omega), heap_alloc_lt (by simp <;> omega)]
    have := heap_alloc_new u4 (.cells #[.int .i64 1, .int .i64 2, .int .i64 3] 3)
    simpa using this
  have hh1 : wb.heap[u4.heap.size + 1]? = some (.cells #[.int .i64 1, .int .i64 2, .int .i64 4, .int .i64 3] 3 (0, 0)) := by
    rw [hwb, heap_alloc_lt (by simp <;> omega), heap_alloc_lt (by simp <;> omega), heap_alloc_lt (by simp <;> omega), heap_alloc_lt (by simp <;> omega), heap_alloc_lt (by simp <;> omega)]
    have := heap_alloc_new (u4.alloc (.cells #[.int .i64 1, .int .i64 2, .int .i64 3] 3)) (.cells #[.int .i64 1, .int .i64 2, .int .i64 4, .int .i64 3] 3)
    simpa using this
  have hh2 : wb.heap[u4.heap.size + 1 + 1]? = some (.cells #[.int .i64 1, .int .i64 2, .int .i64 2, .int .i64 3] 3 (0, 0)) := by
    rw [hwb, heap_alloc_lt (by simp <;> omega), heap_alloc_lt (by simp <;> omega), heap_alloc_lt (by simp <;> omega), heap_alloc_lt (by simp <;> omega)]
    have := heap_alloc_new ((u4.alloc (.cells #[.int .i64 1, .int .i64 2, .int .i64 3] 3)).alloc (.cells #[.int .i64 1, .int .i64 2, .int .i64 4, .int .i64 3] 3)) (.cells #[.int .i64 1, .int .i64 2, .int .i64 2, .int .i64 3] 3)
    simpa using this
  have hh3 : wb.heap[u4.heap.size + 1 + 1 + 1]? = some (.cells #[.int .i64 0] 3 (0, 0)) := by
    rw [hwb, heap_alloc_lt (by simp <;> omega), heap_alloc_lt (by simp <;> omega), heap_alloc_lt (by simp <;> omega)]
    have := heap_alloc_new (((u4.alloc (.cells #[.int .i64 1, .int .i64 2, .int .i64 3] 3)).alloc (.cells #[.int .i64 1, .int .i64 2, .int .i64 4, .int .i64 3] 3)).alloc (.cells #[.int .i64 1, .int .i64 2, .int .i64 2, .int .i64 3] 3)) (.cells #[.int .i64 0] 3)
    simpa using this
  have hh4 : wb.heap[u4.heap.size + 1 + 1 + 1 + 1]? = some (.cells #[.int .i64 29] 3 (0, 0)) := by
    rw [hwb, heap_alloc_lt (by simp <;> omega), heap_alloc_lt (by simp <;> omega)]
    have := heap_alloc_new ((((u4.alloc (.cells #[.int .i64 1, .int .i64 2, .int .i64 3] 3)).alloc (.cells #[.int .i64 1, .int .i64 2, .int .i64 4, .int .i64 3] 3)).alloc (.cells #[.int .i64 1, .int .i64 2, .int .i64 2, .int .i64 3] 3)).alloc (.cells #[.int .i64 0] 3)) (.cells #[.int .i64 29] 3)
    simpa using this
  have hh5 : wb.heap[u4.heap.size + 1 + 1 + 1 + 1 + 1]? = some (.cells #[.int .i64 1, .int .i64 2, .int .i64 3, .int .i64 4, .int .i64 5, .int .i64 6, .int .i64 7, .int .i64 8, .int .i64 9, .int .i64 10] 3 (0, 0)) := by
    rw [hwb, heap_alloc_lt (by simp <;> omega)]
    have := heap_alloc_new (((((u4.alloc (.cells #[.int .i64 1, .int .i64 2, .int .i64 3] 3)).alloc (.cells #[.int .i64 1, .int .i64 2, .int .i64 4, .int .i64 3] 3)).alloc (.cells #[.int .i64 1, .int .i64 2, .int .i64 2, .int .i64 3] 3)).alloc (.cells #[.int .i64 0] 3)).alloc (.cells #[.int .i64 29] 3)) (.cells #[.int .i64 1, .int .i64 2, .int .i64 3, .int .i64 4, .int .i64 5, .int .i64 6, .int .i64 7, .int .i64 8, .int .i64 9, .int .i64 10] 3)
    simpa using this
  have hh6 : wb.heap[u4.heap.size + 1 + 1 + 1 + 1 + 1 + 1]? = some (.cells #[.int .i64 0, .slice none 0 0, .int .i64 1, .slice (some ⟨u4.heap.size, 0, none⟩) 3 3, .int .i64 1, .slice (some ⟨u4.heap.size + 1, 0, none⟩) 4 4, .int .i64 1, .slice (some ⟨u4.heap.size + 1 + 1, 0, none⟩) 4 4, .int .i64 0, .slice (some ⟨u4.heap.size + 1 + 1 + 1, 0, none⟩) 1 1, .int .i64 0, .slice (some ⟨u4.heap.size + 1 + 1 + 1 + 1, 0, none⟩) 1 1, .int .i64 (-1), .slice none 0 0, .int .i64 3, .slice (some ⟨u4.heap.size + 1 + 1 + 1 + 1 + 1, 0, none⟩) 10 10, .int .i64 4611686018427387904, .slice none 0 0] 24 (0, 0)) := by
    rw [hwb]
    have := heap_alloc_new ((((((u4.alloc (.cells #[.int .i64 1, .int .i64 2, .int .i64 3] 3)).alloc (.cells #[.int .i64 1, .int .i64 2, .int .i64 4, .int .i64 3] 3)).alloc (.cells #[.int .i64 1, .int .i64 2, .int .i64 2, .int .i64 3] 3)).alloc (.cells #[.int .i64 0] 3)).alloc (.cells #[.int .i64 29] 3)).alloc (.cells #[.int .i64 1, .int .i64 2, .int .i64 3, .int .i64 4, .int .i64 5, .int .i64 6, .int .i64 7, .int .i64 8, .int .i64 9, .int .i64 10] 3)) (.cells #[.int .i64 0, .slice none 0 0, .int .i64 1, .slice (some ⟨u4.heap.size, 0, none⟩) 3 3, .int .i64 1, .slice (some ⟨u4.heap.size + 1, 0, none⟩) 4 4, .int .i64 1, .slice (some ⟨u4.heap.size + 1 + 1, 0, none⟩) 4 4, .int .i64 0, .slice (some ⟨u4.heap.size + 1 + 1 + 1, 0, none⟩) 1 1, .int .i64 0, .slice (some ⟨u4.heap.size + 1 + 1 + 1 + 1, 0, none⟩) 1 1, .int .i64 (-1), .slice none 0 0, .int .i64 3, .slice (some ⟨u4.heap.size + 1 + 1 + 1 + 1 + 1, 0, none⟩) 10 10, .int .i64 4611686018427387904, .slice none 0 0] 24)
    simpa using this
  rw [← hwb]
  clear hwb
  have HBad : Hid (BadAt wb (u4.heap.size + 1 + 1 + 1 + 1 + 1 + 1)) := Lib.hid (by
    intro k hk
    match k, hk with
    | 0, _ => exact ⟨none, 0, cell_of_row _ _ 0 _ _ _ hh6, cell_of_row _ _ 1 _ _ _ hh6, Ints.nil _ _, fun _ => rfl⟩
    | 1, _ => exact ⟨some ⟨u4.heap.size, 0, none⟩, 3, cell_of_row _ _ 2 _ _ _ hh6, cell_of_row _ _ 3 _ _ _ hh6, ints_block (l := [1, 2, 3]) hh0 rfl (by decide), by intro h; cases h⟩
    | 2, _ => exact ⟨some ⟨u4.heap.size + 1, 0, none⟩, 4, cell_of_row _ _ 4 _ _ _ hh6, cell_of_row _ _ 5 _ _ _ hh6, ints_block (l := [1, 2, 4, 3]) hh1 rfl (by decide), by intro h; cases h⟩
    | 3, _ => exact ⟨some ⟨u4.heap.size + 1 + 1, 0, none⟩, 4, cell_of_row _ _ 6 _ _ _ hh6, cell_of_row _ _ 7 _ _ _ hh6, ints_block (l := [1, 2, 2, 3]) hh2 rfl (by decide), by intro h; cases h⟩
    | 4, _ => exact ⟨some ⟨u4.heap.size + 1 + 1 + 1, 0, none⟩, 1, cell_of_row _ _ 8 _ _ _ hh6, cell_of_row _ _ 9 _ _ _ hh6, ints_block (l := [0]) hh3 rfl (by decide), by intro h; cases h⟩
    | 5, _ => exact ⟨some ⟨u4.heap.size + 1 + 1 + 1 + 1, 0, none⟩, 1, cell_of_row _ _ 10 _ _ _ hh6, cell_of_row _ _ 11 _ _ _ hh6, ints_block (l := [29]) hh4 rfl (by decide), by intro h; cases h⟩
    | 6, _ => exact ⟨none, 0, cell_of_row _ _ 12 _ _ _ hh6, cell_of_row _ _ 13 _ _ _ hh6, Ints.nil _ _, fun _ => rfl⟩
    | 7, _ => exact ⟨some ⟨u4.heap.size + 1 + 1 + 1 + 1 + 1, 0, none⟩, 10, cell_of_row _ _ 14 _ _ _ hh6, cell_of_row _ _ 15 _ _ _ hh6, ints_block (l := [1, 2, 3, 4, 5, 6, 7, 8, 9, 10]) hh5 rfl (by decide), by intro h; cases h⟩
    | 8, _ => exact ⟨none, 0, cell_of_row _ _ 16 _ _ _ hh6, cell_of_row _ _ 17 _ _ _ hh6, Ints.nil _ _, fun _ => rfl⟩)
  have HB := Lib.hid (Below.step HB.out hbb)
  clear hbb hh0 hh1 hh2 hh3 hh4 hh5 hh6 q0 q1 q2
  go_loopw [17] (fun i wr => ∃ k : Nat, k ≤ 9 ∧ i = .int .i64 k ∧ Below wb.heap.size wb wr) (fun i _ => 9 - (intOf i).toNat)
  case atStart => exact ⟨0, by omega, rfl, Below.refl _ _⟩
  case round =>
    obtain ⟨k, hk, rfl, hbr⟩ := hrel
    by_cases hlt : k < 9
    · obtain ⟨a, c, x0, x1, hI, hn⟩ := HBad.out k hlt
      obtain ⟨hg, hl10⟩ := bad_all k hlt
      generalize badF.getD k 0 = f at *
      generalize badL.getD k [] = l at *
      have HG := Lib.hid hg
      have HN := Lib.hid hn
      have x0 := keepc hbr x0
      have x1 := keepc hbr x1
      have HI := Lib.hid (hI.below hbr)
      clear hI hn hg
      go_wp2_with fail
      refine Calls.mono (rep_is (bad_rep HG.out 1 29) a c _ HI.out HN.out (by omega)) ?_
      rintro e t1 ⟨ar, capr, rfl, hOr, hb1⟩
      have hbb := Below.step hb1 (Below.new t1 (.cells #[.int .i64 0, .slice ar 0 capr] 24))
      have x0 := keepc hbb x0
      have x1 := keepc hbb x1
      have HI := Lib.hid (HI.out.below hbb)
      have hbr := Below.step hbr hbb
      clear hbb hOr hb1
      go_wp2_with fail
      generalize (t1.alloc (.cells #[.int .i64 0, .slice ar 0 capr] 24)) = t2 at *
      have hS : Below t2.heap.size t2 t2 := Below.refl _ _
      go_region_held3 (fun w' => w'.cell? ⟨u4.heap.size + 1 + 1 + 1 + 1 + 1 + 1, k * 2, none⟩ = some (.int .i64 f) ∧ w'.cell? ⟨u4.heap.size + 1 + 1 + 1 + 1 + 1 + 1, k * 2 + 1, none⟩ = some (.slice a l.length c))
        (first
          | go_keep | assumption | exact ⟨keepc hS x0, keepc hS x1⟩ | exact ⟨keepc (Below.step hS (Below.new _ _)) x0, keepc (Below.step hS (Below.new _ _)) x1⟩)
        ((first
          | (go_at_call 84; (with_reducible refine Calls.mono (rank_is (bad_rank (r := l) (many := 0) HG.out) a c a c _ ?hI ?hJ HN.out) ?_); (case hI => exact (Ints.below HI.out (by first | exact hS | exact hS.drew | exact Below.step hS (Below.new _ _) | exact (Below.step hS (Below.new _ _)).drew))); (case hJ => exact (Ints.below HI.out (by first | exact hS | exact hS.drew | exact Below.step hS (Below.new _ _) | exact (Below.step hS (Below.new _ _)).drew))); rintro e wc ⟨rfl, hb⟩; have hS : Below t2.heap.size t2 wc := (by first | exact Below.step hS hb | exact Below.stepD hS hb | exact Below.step (Below.step hS (Below.new _ _)) hb | exact Below.stepD (Below.step hS (Below.new _ _)) hb))))
      have x0 := keepc hS x0
      have x1 := keepc hS x1
      have HI := Lib.hid (HI.out.below hS)
      have hbr := Below.step hbr hS
      clear hS hb
      go_wp2_with fail
      refine Calls.mono (check_is (errC_bad HG.out) a c _ HI.out) ?_
      rintro e t3 ⟨rfl, hb⟩
      have x0 := keepc hb x0
      have x1 := keepc hb x1
      have HI := Lib.hid (HI.out.below hb)
      have hbr := Below.step hbr hb
      clear hb
      go_wp2_with fail
      refine Calls.mono (most_is (M := 0) (by simp [mostC, HG.out]) a c _ HI.out) ?_
      rintro e t4 ⟨rfl, hb⟩
      have x0 := keepc hb x0
      have x1 := keepc hb x1
      have HI := Lib.hid (HI.out.below hb)
      have hbr := Below.step hbr hb
      clear hb
      go_wp2_with fail
      refine Calls.mono (some_is (M := 0) (by simp [someC, HG.out]) a c _ HI.out) ?_
      rintro e t5 ⟨rfl, hb⟩
      have x0 := keepc hb x0
      have x1 := keepc hb x1
      have HI := Lib.hid (HI.out.below hb)
      have hbr := Below.step hbr hb
      clear hb
      go_wp2_with fail
      refine Calls.mono (lead_is (M := 0) (v := 0) (by simp [leadC, HG.out]) a c _ HI.out) ?_
      rintro e t6 ⟨rfl, hb⟩
      have x0 := keepc hb x0
      have x1 := keepc hb x1
      have HI := Lib.hid (HI.out.below hb)
      have hbr := Below.step hbr hb
      clear hb
      go_wp2_with fail
      refine Calls.mono (has_is (q := false) (n := 1) (by simp [hasC, HG.out]) a c _ HI.out (by omega)) ?_
      rintro e t7 ⟨rfl, hb⟩
      have x0 := keepc hb x0
      have x1 := keepc hb x1
      have HI := Lib.hid (HI.out.below hb)
      have hbr := Below.step hbr hb
      clear hb
      go_wp2_with fail
      refine Calls.mono (others_is (L := []) (x := 0) (by simp [othersC, HG.out]) a c _ HI.out HN.out) ?_
      rintro e t8 ⟨ao, capo, rfl, _, hb⟩
      have x0 := keepc hb x0
      have x1 := keepc hb x1
      have HI := Lib.hid (HI.out.below hb)
      have hbr := Below.step hbr hb
      clear hb
      go_wp2_with fail
      refine Calls.mono (votes_is (m := [1, 2]) (M := 0) (by simp [votesC, HG.out]) a c (some ⟨t8.heap.size, 0, none⟩) 2 _ (HI.out.alloc _) (ints_lit t8 rfl (by decide))) ?_
      rintro e t9 ⟨rfl, hb⟩
      have hbr := Below.step (Below.step hbr (Below.new t8 _)) hb
      clear hb
      go_wp2
      go_roundw
      case rel => exact ⟨k + 1, by omega, by go_num, hbr⟩
      case measure => simp [intOf]; omega
    · obtain rfl : k = 9 := by omega
      have HB := Lib.hid (Below.step HB.out hbr)
      clear hbr HBad
      obtain ⟨s0, rfl⟩ : ∃ s0 : World, s0 = wr := ⟨_, rfl⟩
      go_wp2_with fail
      refine Calls.mono (chapter_any _) ?_
      rintro e s1 ⟨ax, capx, rfl, hOx, hb⟩
      have x0 := (crew_box (w := s1) (F := 1) (v := .slice ax 4 capx)).1
      have x1 := (crew_box (w := s1) (F := 1) (v := .slice ax 4 capx)).2
      have HX := Lib.hid ((Own.ints (l := [2, 3, 5, 7]) hOx (by decide)).alloc (.cells #[.int .i64 1, .slice ax 4 capx] 24))
      have HNX := Lib.hid (Own.nocap hOx)
      have HB := Lib.hid (Below.step HB.out (Below.step hb (Below.new s1 (.cells #[.int .i64 1, .slice ax 4 capx] 24))))
      clear hOx hb
      go_wp2_with fail
      generalize (s1.alloc (.cells #[.int .i64 1, .slice ax 4 capx] 24)) = s2 at *
      refine Calls.mono (rep_is (l := [2, 3, 5, 7]) kn_r1 ax capx _ HX.out HNX.out (by decide)) ?_
      rintro e r1 ⟨b1, capb1, rfl, _, hb⟩
      have hbb := Below.step hb (Below.new r1 (.cells #[.int .i64 0, .slice b1 0 capb1] 24))
      have x0 := keepc hbb x0
      have x1 := keepc hbb x1
      have HX := Lib.hid (HX.out.below hbb)
      have HB := Lib.hid (Below.step HB.out hbb)
      clear hbb hb
      go_wp2_with fail
      have hz5 : (r1.alloc (.cells #[.int .i64 0, .slice b1 0 capb1] 24)).heap.size = r1.heap.size + 1 := by simp
      generalize (r1.alloc (.cells #[.int .i64 0, .slice b1 0 capb1] 24)) = q1 at *
      refine Calls.mono (rep_is (l := [2, 3, 5, 7]) kn_r2 ax capx _ HX.out HNX.out (by decide)) ?_
      rintro e r2 ⟨b2, capb2, rfl, _, hb⟩
      have hbb := Below.step hb (Below.new r2 (.cells #[.int .i64 0, .slice b2 0 capb2] 24))
      have x0 := keepc hbb x0
      have x1 := keepc hbb x1
      have HX := Lib.hid (HX.out.below hbb)
      have HB := Lib.hid (Below.step HB.out hbb)
      clear hbb hb
      go_wp2_with fail
      have hz5 : (r2.alloc (.cells #[.int .i64 0, .slice b2 0 capb2] 24)).heap.size = r2.heap.size + 1 := by simp
      generalize (r2.alloc (.cells #[.int .i64 0, .slice b2 0 capb2] 24)) = q2 at *
      refine Calls.mono (rep_is (l := [2, 3, 5, 7]) kn_r3 ax capx _ HX.out HNX.out (by decide)) ?_
      rintro e r3 ⟨b3, capb3, rfl, _, hb⟩
      have hbb := Below.step hb (Below.new r3 (.cells #[.int .i64 0, .slice b3 0 capb3] 24))
      have x0 := keepc hbb x0
      have x1 := keepc hbb x1
      have HX := Lib.hid (HX.out.below hbb)
      have HB := Lib.hid (Below.step HB.out hbb)
      clear hbb hb
      go_wp2_with fail
      have hz5 : (r3.alloc (.cells #[.int .i64 0, .slice b3 0 capb3] 24)).heap.size = r3.heap.size + 1 := by simp
      generalize (r3.alloc (.cells #[.int .i64 0, .slice b3 0 capb3] 24)) = q3 at *
      refine Calls.mono (rep_is (l := [2, 3, 5, 7]) kn_r4 ax capx _ HX.out HNX.out (by decide)) ?_
      rintro e r4 ⟨b4, capb4, rfl, _, hb⟩
      have hbb := Below.step hb (Below.new r4 (.cells #[.int .i64 0, .slice b4 0 capb4] 24))
      have x0 := keepc hbb x0
      have x1 := keepc hbb x1
      have HX := Lib.hid (HX.out.below hbb)
      have HB := Lib.hid (Below.step HB.out hbb)
      clear hbb hb
      go_wp2_with fail
      have hz5 : (r4.alloc (.cells #[.int .i64 0, .slice b4 0 capb4] 24)).heap.size = r4.heap.size + 1 := by simp
      generalize (r4.alloc (.cells #[.int .i64 0, .slice b4 0 capb4] 24)) = q4 at *
      refine Calls.mono (rep_is (l := [2, 3, 5, 7]) kn_r5 ax capx _ HX.out HNX.out (by decide)) ?_
      rintro e r5 ⟨b5, capb5, rfl, _, hb⟩
      have hbb := Below.step hb (Below.new r5 (.cells #[.int .i64 0, .slice b5 0 capb5] 24))
      have x0 := keepc hbb x0
      have x1 := keepc hbb x1
      have HX := Lib.hid (HX.out.below hbb)
      have HB := Lib.hid (Below.step HB.out hbb)
      clear hbb hb
      go_wp2_with fail
      have hz5 : (r5.alloc (.cells #[.int .i64 0, .slice b5 0 capb5] 24)).heap.size = r5.heap.size + 1 := by simp
      generalize (r5.alloc (.cells #[.int .i64 0, .slice b5 0 capb5] 24)) = q5 at *
      refine Calls.mono (rank_is (l := [2, 3, 5, 7]) (r := [1, 2, 3]) kn_k1 ax capx (some ⟨r5.heap.size + 1, 0, none⟩) 3 _ (HX.out.alloc _) (by rw [← hz5]; exact ints_lit q5 rfl (by decide)) (by intro h; cases h)) ?_
      rintro e k1 ⟨rfl, hb⟩
      have hbb := Below.step (Below.new q5 _) hb
      have x0 := keepc hbb x0
      have x1 := keepc hbb x1
      have HX := Lib.hid (HX.out.below hbb)
      have HB := Lib.hid (Below.step HB.out hbb)
      clear hbb hb
      go_wp2_with fail
      refine Calls.mono (rank_is (l := [2, 3, 5, 7]) (r := [1, 2, 3, 4]) kn_k2 ax capx (some ⟨k1.heap.size, 0, none⟩) 4 _ (HX.out.alloc _) (ints_lit k1 rfl (by decide)) (by intro h; cases h)) ?_
      rintro e k2 ⟨rfl, hb⟩
      have hbb := Below.step (Below.new k1 _) hb
      have x0 := keepc hbb x0
      have x1 := keepc hbb x1
      have HX := Lib.hid (HX.out.below hbb)
      have HB := Lib.hid (Below.step HB.out hbb)
      clear hbb hb
      go_wp2_with fail
      refine Calls.mono (rank_is (l := [2, 3, 5, 7]) (r := [1, 2, 3, 4]) kn_k3 ax capx (some ⟨k2.heap.size, 0, none⟩) 4 _ (HX.out.alloc _) (ints_lit k2 rfl (by decide)) (by intro h; cases h)) ?_
      rintro e k3 ⟨rfl, hb⟩
      have hbb := Below.step (Below.new k2 _) hb
      have x0 := keepc hbb x0
      have x1 := keepc hbb x1
      have HX := Lib.hid (HX.out.below hbb)
      have HB := Lib.hid (Below.step HB.out hbb)
      clear hbb hb
      go_wp2_with fail
      refine Calls.mono (rank_is (l := [2, 3, 5, 7]) (r := [(-5), (-5), (-7), (-6)]) kn_k4 ax capx (some ⟨k3.heap.size, 0, none⟩) 4 _ (HX.out.alloc _) (ints_lit k3 rfl (by decide)) (by intro h; cases h)) ?_
      rintro e k4 ⟨rfl, hb⟩
      have hbb := Below.step (Below.new k3 _) hb
      have x0 := keepc hbb x0
      have x1 := keepc hbb x1
      have HX := Lib.hid (HX.out.below hbb)
      have HB := Lib.hid (Below.step HB.out hbb)
      clear hbb hb
      go_wp2_with fail
      refine Calls.mono (works_any _) ?_
      rintro e m1 ⟨rfl, hb⟩
      have x0 := keepc hb x0
      have x1 := keepc hb x1
      have HX := Lib.hid (HX.out.below hb)
      have HB := Lib.hid (Below.step HB.out hb)
      clear hb
      go_wp2_with fail
      refine Calls.mono (lead_is (l := [2, 3, 5, 7]) kn_l1 ax capx _ HX.out) ?_
      rintro e m2 ⟨rfl, hb⟩
      have x0 := keepc hb x0
      have x1 := keepc hb x1
      have HX := Lib.hid (HX.out.below hb)
      have HB := Lib.hid (Below.step HB.out hb)
      clear hb
      go_wp2_with fail
      refine Calls.mono (lead_is (l := [2, 3, 5, 7]) kn_l2 ax capx _ HX.out) ?_
      rintro e m3 ⟨rfl, hb⟩
      have x0 := keepc hb x0
      have x1 := keepc hb x1
      have HX := Lib.hid (HX.out.below hb)
      have HB := Lib.hid (Below.step HB.out hb)
      clear hb
      go_wp2_with fail
      refine Calls.mono (others_is (l := [2, 3, 5, 7]) kn_o ax capx _ HX.out HNX.out) ?_
      rintro e m4 ⟨bo, capbo, rfl, _, hb⟩
      have x0 := keepc hb x0
      have x1 := keepc hb x1
      have HX := Lib.hid (HX.out.below hb)
      have HB := Lib.hid (Below.step HB.out hb)
      clear hb
      go_wp2_with fail
      refine Calls.mono (votes_is (l := [2, 3, 5, 7]) (m := []) kn_v ax capx none 0 _ HX.out (Ints.nil _ _)) ?_
      rintro e m5 ⟨rfl, hb⟩
      have x0 := keepc hb x0
      have x1 := keepc hb x1
      have HX := Lib.hid (HX.out.below hb)
      have HB := Lib.hid (Below.step HB.out hb)
      clear hb
      go_wp2_with fail
      refine Calls.mono (has_is (l := [2, 3, 5, 7]) kn_h ax capx _ HX.out (by decide)) ?_
      rintro e m6 ⟨rfl, hb⟩
      go_wp2
      go_ret
      exact ⟨rfl, Below.step HB.out hb⟩
end Go.Proofs.Ytldcpnabgpjgiaa.Walks
