/-
  The walks of bastideref08.of and Make.
-/
import Derived.Test.YtldcpnabgpjgiaaCrewJ
namespace Go.Proofs.Ytldcpnabgpjgiaa.Walks
open Go.RowKit Plain
set_option linter.unusedVariables false

def ofK (l : List Int) (k : Nat) : List Int := ((List.range k).map fun i : Nat => (i : Int) + 1).filter fun n => decide (n ∈ l)
theorem ofK_all (l : List Int) : ofK l 28 = ofC l := rfl
theorem ofK_len (l : List Int) (k : Nat) : (ofK l k).length ≤ k := Nat.le_trans (List.length_filter_le _ _) (by simp)
theorem ofK_succ (l : List Int) (k : Nat) : ofK l (k + 1) = ofK l k ++ (if ((k : Int) + 1) ∈ l then [(k : Int) + 1] else []) := by
  unfold ofK
  rw [List.range_succ, List.map_append, List.filter_append]
  by_cases h : ((k : Int) + 1) ∈ l <;> simp [h]

set_option maxHeartbeats 1000000 in
theorem refOf_any (f : Int) (a : Option Addr) (cap : Nat) (l : List Int) (w : World) (hI : Ints w a l) :
    Calls Try.prog 105 #[.int .i64 f, .slice a l.length cap] w fun e w' => ∃ a' cap', e = .returned (.agg #[.int .i64 f, .slice a' (ofC l).length cap']) ∧ Own w' w.heap.size a' (ofC l) cap' ∧ Below w.heap.size w w' := by
  have HI := Lib.hid hI
  clear hI
  go_enter Try.func105, Try.ntmps105
  go_wp2_with fail
  obtain ⟨c0, c1, d0, d1, fz0, fz1, hsz⟩ := two_crews w (.int .i64 0) (.slice none 0 0) (.int .i64 f) (.slice none 0 0)
  have ho := heap_alloc2_old w (.cells #[.int .i64 0, .slice none 0 0] 24) (.cells #[.int .i64 f, .slice none 0 0] 24)
  have z0 := frozen_of_row _ w.heap.size 0 _ _ ho
  have z1 := frozen_of_row _ w.heap.size 1 _ _ ho
  have hb := (Below.new w (.cells #[.int .i64 0, .slice none 0 0] 24)).alloc (by simp) (.cells #[.int .i64 f, .slice none 0 0] 24)
  clear ho
  generalize ((w.alloc (.cells #[.int .i64 0, .slice none 0 0] 24)).alloc (.cells #[.int .i64 f, .slice none 0 0] 24)) = wa at *
  have HB := Lib.hid hb
  have HSZ := Lib.hid hsz
  clear hb hsz
  go_loopw [6] (fun i wr => ∃ (k : Nat) (m : List Int) (a' : Option Addr) (cap' : Nat), 1 ≤ k ∧ k ≤ 29 ∧ i = .int .i64 k ∧ Hid (m = ofK l (k - 1)) ∧ Hid (Own wr (w.heap.size + 2) a' m cap') ∧ Hid (Below w.heap.size w wr) ∧ w.heap.size + 2 ≤ wr.heap.size ∧
    wr.cell? ⟨w.heap.size, 0, none⟩ = some (.int .i64 0) ∧ wr.cell? ⟨w.heap.size, 1, none⟩ = some (.slice none 0 0) ∧ wr.cell? ⟨w.heap.size + 1, 0, none⟩ = some (.int .i64 f) ∧ wr.cell? ⟨w.heap.size + 1, 1, none⟩ = some (.slice a' m.length cap') ∧
    wr.frozen? ⟨w.heap.size, 0, none⟩ = false ∧ wr.frozen? ⟨w.heap.size, 1, none⟩ = false ∧ wr.frozen? ⟨w.heap.size + 1, 1, none⟩ = false) (fun i _ => 29 - (intOf i).toNat)
  case atStart => exact ⟨1, [], none, 0, by omega, by omega, rfl, Lib.hid rfl, Lib.hid (World.ownsRow_nil _ _ _ _), HB, Nat.le_of_eq HSZ.out.symm, c0, c1, d0, d1, z0, z1, fz1⟩
  case round =>
    obtain ⟨k, m, a', cap', hk1, hk, rfl, HM, HO, HBr, hsr, e0, e1, e2, e3, z0, z1, z3⟩ := hrel
    clear c0 c1 d0 d1 fz0 fz1
    by_cases hlt : k ≤ 28
    · go_wp2_with fail
      refine Calls.mono (in_any a cap l k _ (HI.out.below HBr.out)) ?_
      rintro e w1 ⟨rfl, rfl⟩
      have HN : Hid (ofK l k = m ++ (if (k : Int) ∈ l then [(k : Int)] else [])) := Lib.hid (by
        obtain ⟨j, rfl⟩ : ∃ j, k = j + 1 := ⟨k - 1, by omega⟩
        rw [HM.out]
        have := ofK_succ l j
        simpa using this)
      have hml : m.length ≤ k := by rw [HM.out]; exact Nat.le_trans (ofK_len _ _) (by omega)
      by_cases hm : (k : Int) ∈ l
      · have hd : decide ((k : Int) ∈ l) = true := by simp [hm]
        rw [hd]
        have HQ := Lib.hid hm
        clear hm hd
        go_wp2_with (first | (at_builtin; go_loud (refine wp_append_ints rfl (.tmp 17) (.tmp 19) rfl (w.heap.size + 2) (.slice a' m.length cap') m rfl (ownsRow_below HO.out (Below.new _ _)) _ 1 [(k : Int)] 1 rfl rfl (ints_one_new wr k) (by intro h; cases h) (by simp; omega) (by simp; omega) ?_)))
        intro a2 cap2 w2 hown hgr _
        have hb2 := ((Below.refl (w.heap.size + 2) wr).alloc hsr (.cells #[.int .i64 k] 3)).grown hgr (by simp; omega) (by
              intro g hg
              rcases Option.eq_none_or_eq_some a' with h | ⟨ad, h⟩
              · subst h; cases hg
              · subst h; cases hg; exact Own.base_le HO.out rfl)
        have g0 := keepb hb2 (by simp) e0
        have g1 := keepb hb2 (by simp) e1
        have g2 := keepb hb2 (by simp) e2
        have g3 := keepb hb2 (by simp) e3
        have y0 := keepf hb2 (by simp) z0
        have y1 := keepf hb2 (by simp) z1
        have y3 := keepf hb2 (by simp) z3
        have HO2 : Hid (Own w2 (w.heap.size + 2) a2 (m ++ [(k : Int)]) cap2) := Lib.hid hown
        have HB2 := Lib.hid (HBr.out.trans (hb2.mono (by omega)))
        have hs2 := Nat.le_trans hsr hb2.size
        clear hown hgr hb2 e0 e1 e2 e3 z0 z1 z3
        go_wp2
        go_roundw
        case rel =>
          refine ⟨k + 1, m ++ [(k : Int)], a2, cap2, by omega, by omega, by go_num, Lib.hid (by rw [Nat.add_sub_cancel, HN.out, if_pos HQ.out]), Lib.hid (ownsRow_setCell_below HO2.out (by simp) _), Lib.hid (HB2.out.setCell (by simp) _), by simpa [World.setCell] using hs2, ?_, ?_, ?_, ?_, ?_, ?_, ?_⟩
          · rw [World.cell?_setCell_other _ _ _ _ (by simp)]; exact g0
          · rw [World.cell?_setCell_other _ _ _ _ (by simp)]; exact g1
          · rw [World.cell?_setCell_other _ _ _ _ (by simp)]; exact g2
          · rw [World.cell?_setCell_same _ _ _ g3]; simp
          all_goals simp [y0, y1, y3]
        case measure => simp [intOf]; omega
      · have hd : decide ((k : Int) ∈ l) = false := by simp [hm]
        rw [hd]
        have HQ := Lib.hid hm
        clear hm hd
        go_wp2
        go_roundw
        case rel => exact ⟨k + 1, m, a', cap', by omega, by omega, by go_num, Lib.hid (by rw [Nat.add_sub_cancel, HN.out, if_neg HQ.out, List.append_nil]), HO, HBr, hsr, e0, e1, e2, e3, z0, z1, z3⟩
        case measure => simp [intOf]; omega
    · obtain rfl : k = 29 := by omega
      go_wp2
      have hm : m = ofC l := HM.out
      have r1 := put2_load (x := .int .i64 f) (y := .slice a' m.length cap') e0 e1
      refine bodyPost_ret (v := .agg #[.int .i64 f, .slice a' m.length cap']) (by simp [results, Try.results105, asAddr, r1]) rfl ?_
      have hown := ownsRow_setCell_below (ownsRow_setCell_below HO.out (a := ⟨w.heap.size, 0, none⟩) (by simp) (.int .i64 f)) (a := ⟨w.heap.size, 1, none⟩) (by simp) (.slice a' m.length cap')
      rw [← hm]
      exact ⟨a', cap', rfl, ownsRow_base (by omega) hown, put2_below HBr.out (Nat.le_refl _)⟩
theorem make_case_good {f : Int} {l : List Int} (h : goodC f (ofC l) = true) (hl : (ofC l).length = l.length) : makeF f l = f ∧ makeL f l = ofC l ∧ makeE f l = 0 := by
  obtain ⟨h1, h2⟩ := make_same f l
  have hg : goodC f (sortI l) = true := by rw [h1, h]; simp [hl]
  exact ⟨by simp [makeF, hg], by rw [makeL, if_pos hg]; exact h2 hg, by simp [makeE, hg]⟩
theorem make_case_bad {f : Int} {l : List Int} (h : (goodC f (ofC l) && decide ((ofC l).length = l.length)) = false) : makeF f l = 0 ∧ makeL f l = [] ∧ makeE f l = 2 := by
  obtain ⟨h1, h2⟩ := make_same f l
  have hg : goodC f (sortI l) = false := by rw [h1, h]
  exact ⟨by simp [makeF, hg], by simp [makeL, hg], by simp [makeE, hg]⟩

set_option maxHeartbeats 1000000 in
theorem refMake_any (f : Int) (a : Option Addr) (cap : Nat) (l : List Int) (w : World) (hI : Ints w a l) :
    Calls Try.prog 68 #[.int .i64 f, .slice a l.length cap] w (CrewPost (makeF f l) (makeL f l) (makeE f l) w) := by
  have hm := hI.1
  have HI := Lib.hid hI
  clear hI
  go_enter Try.func68, Try.ntmps68
  go_wp2_with fail
  have hb0 := Below.new w (.cells #[.int .i64 0, .slice none 0 0] 24)
  have q0 : (w.alloc (.cells #[.int .i64 0, .slice none 0 0] 24)).cell? ⟨w.heap.size, 0, none⟩ = some (.int .i64 0) := cell_of_row _ _ _ _ _ _ (heap_alloc_new _ _)
  have q1 : (w.alloc (.cells #[.int .i64 0, .slice none 0 0] 24)).cell? ⟨w.heap.size, 1, none⟩ = some (.slice none 0 0) := cell_of_row _ _ _ _ _ _ (heap_alloc_new _ _)
  have q2 : (w.alloc (.cells #[.int .i64 0, .slice none 0 0] 24)).frozen? ⟨w.heap.size, 0, none⟩ = false := frozen_of_row _ _ _ _ _ (heap_alloc_new _ _)
  have q3 : (w.alloc (.cells #[.int .i64 0, .slice none 0 0] 24)).frozen? ⟨w.heap.size, 1, none⟩ = false := frozen_of_row _ _ _ _ _ (heap_alloc_new _ _)
  have A0 := Lib.hid (HI.out.alloc (.cells #[.int .i64 0, .slice none 0 0] 24))
  have hs0 : (w.alloc (.cells #[.int .i64 0, .slice none 0 0] 24)).heap.size = w.heap.size + 1 := by simp
  generalize (w.alloc (.cells #[.int .i64 0, .slice none 0 0] 24)) = w0 at *
  refine Calls.mono (refOf_any f a cap l _ A0.out) ?_
  rintro e w1 ⟨a', cap', rfl, hO, hb⟩
  have hs1 := hb.size
  have HB1 := Lib.hid (Below.step hb0 hb)
  have HO := Lib.hid hO
  have d0 := keepc hb q0
  have d1 := keepc hb q1
  have d2 := keepf hb (by simp; omega) q2
  have d3 := keepf hb (by simp; omega) q3
  have hol : (ofC l).length ≤ 28 := ofK_len l 28
  obtain ⟨m, hmm⟩ : ∃ m, m = ofC l := ⟨_, rfl⟩
  rw [← hmm] at HO hol ⊢
  have HM := Lib.hid hmm
  clear hb hO q0 q1 q2 q3 hb0 hmm
  go_wp2_with fail
  have hO1 := ownsRow_below HO.out (Below.new w1 (.cells #[.int .i64 f, .slice a' m.length cap'] 24))
  have HB2 := Lib.hid (Below.step HB1.out (Below.new w1 (.cells #[.int .i64 f, .slice a' m.length cap'] 24)))
  have e0 := keepc (Below.new w1 (.cells #[.int .i64 f, .slice a' m.length cap'] 24)) d0
  have e1 := keepc (Below.new w1 (.cells #[.int .i64 f, .slice a' m.length cap'] 24)) d1
  have e2 := keepf (Below.new w1 (.cells #[.int .i64 f, .slice a' m.length cap'] 24)) (by simp; omega) d2
  have e3 := keepf (Below.new w1 (.cells #[.int .i64 f, .slice a' m.length cap'] 24)) (by simp; omega) d3
  have r0 : (w1.alloc (.cells #[.int .i64 f, .slice a' m.length cap'] 24)).cell? ⟨w1.heap.size, 0, none⟩ = some (.int .i64 f) := cell_of_row _ _ _ _ _ _ (heap_alloc_new _ _)
  have r1 : (w1.alloc (.cells #[.int .i64 f, .slice a' m.length cap'] 24)).cell? ⟨w1.heap.size, 1, none⟩ = some (.slice a' m.length cap') := cell_of_row _ _ _ _ _ _ (heap_alloc_new _ _)
  have hs2 : (w1.alloc (.cells #[.int .i64 f, .slice a' m.length cap'] 24)).heap.size = w1.heap.size + 1 := by simp
  generalize (w1.alloc (.cells #[.int .i64 f, .slice a' m.length cap'] 24)) = w2 at *
  have HO1 := Lib.hid hO1
  refine Calls.mono (refCheck_any f a' cap' m _ (Own.ints HO1.out (by omega))) ?_
  rintro e w4 ⟨rfl, hb4⟩
  have g0 := keepc hb4 e0
  have g1 := keepc hb4 e1
  have g2 := keepf hb4 (by simp; omega) e2
  have g3 := keepf hb4 (by simp; omega) e3
  have t0 := keepc hb4 r0
  have t1 := keepc hb4 r1
  have HB4 := Lib.hid (Below.step HB2.out hb4)
  have HO4 := Lib.hid (ownsRow_below HO1.out hb4)
  clear hO1 d0 d1 d2 d3 e0 e1 e2 e3 r0 r1 hb4 HO
  have fin : ∀ {E : Int}, (goodC f (ofC l) && decide ((ofC l).length = l.length)) = false → CrewPost (makeF f l) (makeL f l) (makeE f l) w (.returned (.tuple #[.agg #[.int .i64 0, .slice none 0 0], .int .i64 2])) ((w4.setCell ⟨w.heap.size, 0, none⟩ (.int .i64 0)).setCell ⟨w.heap.size, 1, none⟩ (.slice none 0 0)) := by
    intro _ hbad
    obtain ⟨k1, k2, k3⟩ := make_case_bad hbad
    rw [k1, k2, k3]
    exact ⟨none, 0, rfl, World.ownsRow_nil _ _ _ _, put2_below HB4.out (Nat.le_refl _)⟩
  have FIN := Lib.hid (fin (E := 0))
  clear fin
  cases hg : goodC f m with
  | true =>
    have HG := Lib.hid hg
    rw [errC_good hg]
    clear hg
    by_cases hl : m.length = l.length
    · have hl' : ((m.length : Int) != (l.length : Int)) = false := by simp [hl]
      have HL := Lib.hid hl
      clear hl
      go_wp2
      have r1 := put2_load (x := .int .i64 f) (y := .slice a' m.length cap') g0 g1
      have hown := ownsRow_setCell_below (ownsRow_setCell_below HO4.out (a := ⟨w.heap.size, 0, none⟩) (by simp; omega) (.int .i64 f)) (a := ⟨w.heap.size, 1, none⟩) (by simp; omega) (.slice a' m.length cap')
      refine bodyPost_ret (v := .tuple #[.agg #[.int .i64 f, .slice a' m.length cap'], .int .i64 0]) (by simp [results, Try.results68, asAddr, r1, Result.andThen]) rfl ?_
      obtain ⟨k1, k2, k3⟩ := make_case_good (f := f) (l := l) (by rw [← HM.out]; exact HG.out) (by rw [← HM.out]; exact HL.out)
      rw [k1, k2, k3, ← HM.out]
      exact ⟨a', cap', rfl, ownsRow_base (by omega) hown, put2_below HB4.out (Nat.le_refl _)⟩
    · have hl' : ((m.length : Int) != (l.length : Int)) = true := by simp; omega
      have HL := Lib.hid hl
      clear hl
      go_wp2
      have r1 := put2_load (x := .int .i64 0) (y := .slice none 0 0) g0 g1
      exact bodyPost_ret (v := .tuple #[.agg #[.int .i64 0, .slice none 0 0], .int .i64 2]) (by simp [results, Try.results68, asAddr, r1, Result.andThen]) rfl (FIN.out (by rw [← HM.out]; simp [HL.out]))
  | false =>
    have HG := Lib.hid hg
    rw [errC_bad hg]
    clear hg
    go_wp2
    have r1 := put2_load (x := .int .i64 0) (y := .slice none 0 0) g0 g1
    exact bodyPost_ret (v := .tuple #[.agg #[.int .i64 0, .slice none 0 0], .int .i64 2]) (by simp [results, Try.results68, asAddr, r1, Result.andThen]) rfl (FIN.out (by rw [← HM.out]; simp [HG.out]))
end Go.Proofs.Ytldcpnabgpjgiaa.Walks
