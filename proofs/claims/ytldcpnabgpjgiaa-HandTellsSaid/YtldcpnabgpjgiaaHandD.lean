/-
  The walks of hand.New and Hand.Crew.
-/
import Derived.Test.YtldcpnabgpjgiaaHandC
import Derived.Test.YtldcpnabgpjgiaaCrewI
namespace Go.Proofs.Ytldcpnabgpjgiaa.Walks
open Go.RowKit Plain
set_option linter.unusedVariables false

def NewPost (f : Int) (l : List Int) (w : World) (e : Ending) (w' : World) : Prop :=
  ∃ q, e = .returned (.tuple #[.pointer (some ⟨HLoc.p q, 0, none⟩), .int .i64 0]) ∧ HandAt w' q 0 f l [] [] ∧ Below w.heap.size w w' ∧ (∀ r ∈ q.R, w.heap.size ≤ r) ∧ w.heap.size ≤ q.p

theorem new_at {w1 : World} {f : Int} {l : List Int} {a : Option Addr} {cap : Nat} (hg : goodC f l = true) (hI : Ints w1 a l)
    {wf : World} (hwf : wf = (((((w1.alloc (.map #[] 0)).alloc (.map #[] 0)).alloc (.map #[] 0)).alloc (.map #[] 0)).alloc (.map #[] 0)).alloc
      (.cells #[.int .i64 f, .slice a l.length cap, .map (some w1.heap.size), .map (some (w1.heap.size + 1)), .map (some (w1.heap.size + 2)), .map (some (w1.heap.size + 3)), .map (some (w1.heap.size + 4))] 66)) :
    HandAt wf ⟨w1.heap.size + 5, w1.heap.size, w1.heap.size + 1, w1.heap.size + 2, w1.heap.size + 3, w1.heap.size + 4⟩ 0 f l [] [] ∧ Below w1.heap.size w1 wf := by
  obtain ⟨x1, h1⟩ : ∃ x, x = w1.alloc (.map #[] 0) := ⟨_, rfl⟩
  obtain ⟨x2, h2⟩ : ∃ x, x = x1.alloc (.map #[] 0) := ⟨_, rfl⟩
  obtain ⟨x3, h3⟩ : ∃ x, x = x2.alloc (.map #[] 0) := ⟨_, rfl⟩
  obtain ⟨x4, h4⟩ : ∃ x, x = x3.alloc (.map #[] 0) := ⟨_, rfl⟩
  obtain ⟨x5, h5⟩ : ∃ x, x = x4.alloc (.map #[] 0) := ⟨_, rfl⟩
  rw [← h1, ← h2, ← h3, ← h4, ← h5] at hwf
  have z1 : x1.heap.size = w1.heap.size + 1 := by rw [h1]; simp
  have z2 : x2.heap.size = w1.heap.size + 2 := by rw [h2]; simp [z1]
  have z3 : x3.heap.size = w1.heap.size + 3 := by rw [h3]; simp [z2]
  have z4 : x4.heap.size = w1.heap.size + 4 := by rw [h4]; simp [z3]
  have z5 : x5.heap.size = w1.heap.size + 5 := by rw [h5]; simp [z4]
  have b5 : Below x5.heap.size x5 wf := by rw [hwf]; exact Below.new _ _
  have b4 : Below x4.heap.size x4 wf := Below.step (by rw [h5]; exact Below.new _ _) b5
  have b3 : Below x3.heap.size x3 wf := Below.step (by rw [h4]; exact Below.new _ _) b4
  have b2 : Below x2.heap.size x2 wf := Below.step (by rw [h3]; exact Below.new _ _) b3
  have b1 : Below x1.heap.size x1 wf := Below.step (by rw [h2]; exact Below.new _ _) b2
  have b0 : Below w1.heap.size w1 wf := Below.step (by rw [h1]; exact Below.new _ _) b1
  have hh : wf.heap[w1.heap.size + 5]? = some (.cells #[.int .i64 f, .slice a l.length cap, .map (some w1.heap.size), .map (some (w1.heap.size + 1)), .map (some (w1.heap.size + 2)), .map (some (w1.heap.size + 3)), .map (some (w1.heap.size + 4))] 66 (0, 0)) := by
    rw [hwf, ← z5]; exact heap_alloc_new _ _
  have v1 : VM wf 144 w1.heap.size 0 (fun _ => none) := by have := (VM.new w1 144); rw [← h1] at this; exact this.below b1
  have v2 : VM wf 144 (w1.heap.size + 1) 0 (fun _ => none) := by have := (VM.new x1 144); rw [← h2, z1] at this; exact this.below b2
  have v3 : VM wf 3 (w1.heap.size + 2) 0 (fun _ => none) := by have := (VM.new x2 3); rw [← h3, z2] at this; exact this.below b3
  have v4 : VM wf 3 (w1.heap.size + 3) 0 (fun _ => none) := by have := (VM.new x3 3); rw [← h4, z3] at this; exact this.below b4
  have v5 : VM wf 3 (w1.heap.size + 4) 0 (fun _ => none) := by have := (VM.new x4 3); rw [← h5, z4] at this; exact this.below b5
  refine ⟨⟨?_, ⟨a, cap, ?_, hI.below b0⟩, ?_, ?_, ?_, ?_, ?_, ?_, ⟨_, v1, ?_⟩, ⟨_, v2, ?_⟩, ⟨_, v3, ?_⟩, ⟨_, v4, ?_⟩, ⟨_, v5, ?_⟩, OInv.nil _ _, by simp, ?_, hg⟩, b0⟩
  · rw [cell_of_row _ _ _ _ _ _ hh]; rfl
  · rw [cell_of_row _ _ _ _ _ _ hh]; rfl
  · rw [cell_of_row _ _ _ _ _ _ hh]; rfl
  · rw [cell_of_row _ _ _ _ _ _ hh]; rfl
  · rw [cell_of_row _ _ _ _ _ _ hh]; rfl
  · rw [cell_of_row _ _ _ _ _ _ hh]; rfl
  · rw [cell_of_row _ _ _ _ _ _ hh]; rfl
  · simp only [HLoc.R, List.nodup_cons, List.mem_cons, List.not_mem_nil, or_false, not_or, List.nodup_nil, not_false_eq_true, and_true]
    omega
  · intro n e _ _; rfl
  · intro n e _ _; rfl
  · intro n _; rfl
  · intro n _; rfl
  · intro e _; rfl
  · intro n; simp [endN]

set_option maxRecDepth 100000 in
set_option maxHeartbeats 4000000 in
theorem new_good (f : Int) (a : Option Addr) (cap : Nat) (l : List Int) (c : Int) (w : World) (hI : Ints w a l) (hc : a = none → cap = 0) (hg : goodC f l = true) (h1 : 1 ≤ c) (h2 : c ≤ 2) :
    Calls Try.prog 29 #[.agg #[.int .i64 f, .slice a l.length cap], .int .i64 c] w (NewPost f l w) := by
  have hmm := @run_makeMap Try.prog
  have hl7 := good_short hg
  have he := errC_good hg
  have HI := Lib.hid hI
  have HC := Lib.hid hc
  have HG := Lib.hid hg
  clear hI hc hg
  go_enter Try.func29, Try.ntmps29
  go_wp2_with fail
  refine Calls.mono (check_any f a cap l _ (HI.out.alloc _)) ?_
  rintro e w1 ⟨rfl, hb⟩
  obtain ⟨c0, c1, hb1⟩ := boxed_crew hb
  have f1 := keepf hb (by simp) (crew_boxF (w := w) (x := .int .i64 f) (y := .slice a l.length cap)).2
  have HI1 := Lib.hid (HI.out.below hb1)
  rw [he]
  clear he hb
  go_wp2_with fail
  refine Calls.mono (clone_any a cap l _ HI1.out HC.out (by omega)) ?_
  rintro e w2 ⟨a', cap', rfl, hO, hb2, _⟩
  have d0 := keepc hb2 c0
  have d1 := keepc hb2 c1
  have g1 := keepf hb2 (by have := block_lt_of_cell c1; simpa using this) f1
  have HB2 := Lib.hid (Below.step hb1 hb2)
  have I2 := Own.ints hO (by omega)
  have I3 := Lib.hid (ints_setCell_far I2 (g := w.heap.size) (fun ad had => by have := hO.base_le had; have := block_lt_of_cell c1; simp at this; omega) 1 (.slice a' l.length cap'))
  have HB3 : Hid (Below w.heap.size w (w2.setCell ⟨w.heap.size, 1, none⟩ (.slice a' l.length cap'))) := Lib.hid (HB2.out.setCell (by simp) _)
  clear c0 c1 f1 hO hb1 hb2 I2
  go_wp2_with fail
  have e0 : (w2.setCell ⟨w.heap.size, 1, none⟩ (.slice a' l.length cap')).cell? ⟨w.heap.size, 0, none⟩ = some (.int .i64 f) := by rw [World.cell?_setCell_other _ _ _ _ (by simp)]; exact d0
  have e1 : (w2.setCell ⟨w.heap.size, 1, none⟩ (.slice a' l.length cap')).cell? ⟨w.heap.size, 1, none⟩ = some (.slice a' l.length cap') := World.cell?_setCell_same _ _ _ d1
  obtain ⟨hN, hB⟩ := new_at HG.out I3.out rfl
  have hsz : (w2.setCell ⟨w.heap.size, 1, none⟩ (.slice a' l.length cap')).heap.size = w2.heap.size := by simp
  rw [hsz] at hN hB
  have hzz := HB2.out.size
  go_ret2
  refine ⟨_, rfl, hN, HB3.out.trans (hB.mono hzz), ?_, ?_⟩
  · intro r hr
    simp only [HLoc.R, List.mem_cons, List.not_mem_nil, or_false] at hr
    omega
  · show w.heap.size ≤ w2.heap.size + 5
    omega

def NewBad (E : Int) (w : World) (e : Ending) (w' : World) : Prop := e = .returned (.tuple #[.pointer none, .int .i64 E]) ∧ Below w.heap.size w w'
set_option maxRecDepth 100000 in
set_option maxHeartbeats 4000000 in
theorem new_crew (f : Int) (a : Option Addr) (cap : Nat) (l : List Int) (c : Int) (w : World) (hI : Ints w a l) (hg : goodC f l = false) :
    Calls Try.prog 29 #[.agg #[.int .i64 f, .slice a l.length cap], .int .i64 c] w (NewBad 110 w) := by
  have he := errC_bad hg
  have HI := Lib.hid hI
  clear hI hg
  go_enter Try.func29, Try.ntmps29
  go_wp2_with fail
  refine Calls.mono (check_any f a cap l _ (HI.out.alloc _)) ?_
  rintro e w1 ⟨rfl, hb⟩
  obtain ⟨c0, c1, hb1⟩ := boxed_crew hb
  rw [he]
  clear he hb
  go_wp2
  go_ret2
  exact ⟨rfl, hb1⟩
set_option maxRecDepth 100000 in
set_option maxHeartbeats 4000000 in
theorem new_arg (f : Int) (a : Option Addr) (cap : Nat) (l : List Int) (c : Int) (w : World) (hI : Ints w a l) (hg : goodC f l = true) (hc : c < 1 ∨ 2 < c) :
    Calls Try.prog 29 #[.agg #[.int .i64 f, .slice a l.length cap], .int .i64 c] w (NewBad 2 w) := by
  have he := errC_good hg
  have HI := Lib.hid hI
  clear hI hg
  rcases hc with hc | hc
  · go_enter Try.func29, Try.ntmps29
    go_wp2_with fail
    refine Calls.mono (check_any f a cap l _ (HI.out.alloc _)) ?_
    rintro e w1 ⟨rfl, hb⟩
    obtain ⟨c0, c1, hb1⟩ := boxed_crew hb
    rw [he]
    clear he hb
    go_wp2
    go_ret2
    exact ⟨rfl, hb1⟩
  · have hc' : ¬ c < 1 := by omega
    go_enter Try.func29, Try.ntmps29
    go_wp2_with fail
    refine Calls.mono (check_any f a cap l _ (HI.out.alloc _)) ?_
    rintro e w1 ⟨rfl, hb⟩
    obtain ⟨c0, c1, hb1⟩ := boxed_crew hb
    rw [he]
    clear he hb
    go_wp2
    go_ret2
    exact ⟨rfl, hb1⟩

theorem HandX.look5f {w : World} {q : HLoc} {N : Nat} {f : Int} {l : List Int} {O1 O3 O5 : List (Int × Int × List Int)} {E2 E4 : List (Int × Int × Int × Int)} (h : HandX w q N f l O1 O3 O5 E2 E4) {e : Int} (he : Wf e) :
    ∃ a0 cap0, (Instr.lookup 64 (.map (some q.r5)) (.int .i64 e) true).run Try.prog w = .ok (.tuple #[.agg #[.int .i64 (if (crewOf f O5 e).isSome then f else 0), .slice a0 ((crewOf f O5 e).getD []).length cap0], .bool (crewOf f O5 e).isSome]) w ∧ Ints w a0 ((crewOf f O5 e).getD []) ∧ (a0 = none → cap0 = 0) := by
  obtain ⟨v, h1, h2⟩ := h.look5 he
  cases hc : crewOf f O5 e with
  | none =>
    rw [hc] at h2
    have h2' : v = none := h2
    subst h2'
    exact ⟨none, 0, h1, Ints.nil _ _, fun _ => rfl⟩
  | some m0 =>
    rw [hc] at h2
    obtain ⟨a0, cap0, rfl, hI⟩ := h2
    exact ⟨a0, cap0, h1, hI.1, hI.2⟩
theorem crewOf_short {f : Int} {l : List Int} {O : List (Int × Int × List Int)} (hf : 0 ≤ f) (hI : OInv f l O) {e : Int} : ((crewOf f O e).getD []).length ≤ 7 := by
  cases hc : crewOf f O e with
  | none => simp
  | some m =>
    have h1 := crew_some hc
    have : 0 < alike O e m := by omega
    unfold alike at this
    obtain ⟨o, ho⟩ := List.exists_mem_of_length_pos this
    simp at ho
    have := (hI.1 o ho.1).2.2
    rw [ho.2.2] at this
    exact good_short this
def CrewIs (f : Int) (m : Option (List Int)) (w : World) (e : Ending) (w' : World) : Prop :=
  ∃ a' cap', e = .returned (.tuple #[.agg #[.int .i64 (if m.isSome then f else 0), .slice a' (m.getD []).length cap'], .bool m.isSome]) ∧ Own w' w.heap.size a' (m.getD []) cap' ∧ Below w.heap.size w w'
set_option maxRecDepth 100000 in
set_option maxHeartbeats 4000000 in
theorem crew_any (q : HLoc) (N : Nat) (f : Int) (l : List Int) (O : List (Int × Int × List Int)) (E : List (Int × Int × Int × Int)) (e : Int) (w : World) (hH : HandAt w q N f l O E) (he : Wf e) :
    Calls Try.prog 39 #[.pointer (some ⟨q.p, 0, none⟩), .int .i64 e] w (CrewIs f (crewOf f O e) w) := by
  have hs := crewOf_short (goodC_len hH.good).1 hH.inv (e := e)
  have HH := Lib.hid hH
  clear hH
  go_enter Try.func39, Try.ntmps39
  go_wp2_with fail
  have hb0 := Below.new w (.cells #[.int .i64 0, .slice none 0 0] 24)
  have q0 : (w.alloc (.cells #[.int .i64 0, .slice none 0 0] 24)).cell? ⟨w.heap.size, 0, none⟩ = some (.int .i64 0) := crew_box2.1
  have q1 : (w.alloc (.cells #[.int .i64 0, .slice none 0 0] 24)).cell? ⟨w.heap.size, 1, none⟩ = some (.slice none 0 0) := crew_box2.2
  have q2 : (w.alloc (.cells #[.int .i64 0, .slice none 0 0] 24)).frozen? ⟨w.heap.size, 0, none⟩ = false := crew_boxF.1
  have q3 : (w.alloc (.cells #[.int .i64 0, .slice none 0 0] 24)).frozen? ⟨w.heap.size, 1, none⟩ = false := crew_boxF.2
  have hs0 : (w.alloc (.cells #[.int .i64 0, .slice none 0 0] 24)).heap.size = w.heap.size + 1 := by simp
  generalize (w.alloc (.cells #[.int .i64 0, .slice none 0 0] 24)) = w0 at *
  have H0 := Lib.hid (HH.out.below hb0)
  have c2 := H0.out.c2
  have c6 := H0.out.c6
  obtain ⟨a0, cap0, hlk, hI0, hn0⟩ := H0.out.look5f he
  refine Calls.mono (none_any q.p (some q.r1) _ c2) ?_
  rintro e0 w' ⟨rfl, rfl⟩
  obtain ⟨M, hM⟩ : ∃ M, M = crewOf f O e := ⟨_, rfl⟩
  rw [← hM] at hlk hI0 hs ⊢
  have HI0 := Lib.hid hI0
  have HN0 := Lib.hid hn0
  have HM := Lib.hid hM
  clear hM hI0 hn0
  obtain ⟨L, hL⟩ : ∃ L, L = M.getD [] := ⟨_, rfl⟩
  obtain ⟨F, hF⟩ : ∃ F : Int, F = if M.isSome then f else 0 := ⟨_, rfl⟩
  obtain ⟨B, hB⟩ : ∃ B, B = M.isSome := ⟨_, rfl⟩
  rw [← hL, ← hF, ← hB] at hlk
  rw [← hL] at hs HI0
  have HLL := Lib.hid hL
  have HFF := Lib.hid hF
  have HBB := Lib.hid hB
  clear hL hF hB
  go_wp2_with fail
  obtain ⟨x0, x1⟩ := crew_box2 (w := w0) (F := F) (v := .slice a0 L.length cap0)
  have xf := (crew_boxF (w := w0) (x := .int .i64 F) (y := .slice a0 L.length cap0)).2
  have hb1 := Below.new w0 (.cells #[.int .i64 F, .slice a0 L.length cap0] 24)
  have q0 := keepc hb1 q0
  have q1 := keepc hb1 q1
  have q2 := keepf hb1 (by simp; omega) q2
  have q3 := keepf hb1 (by simp; omega) q3
  have HI1 := Lib.hid (HI0.out.below hb1)
  have HB1 := Lib.hid (Below.step hb0 hb1)
  have hs1 : (w0.alloc (.cells #[.int .i64 F, .slice a0 L.length cap0] 24)).heap.size = w0.heap.size + 1 := by simp
  generalize (w0.alloc (.cells #[.int .i64 F, .slice a0 L.length cap0] 24)) = w1 at *
  rw [hs0] at x0 x1 xf hs1
  clear hb0 hb1 hlk c2 c6
  refine Calls.mono (clone_any a0 cap0 L _ HI1.out HN0.out (by omega)) ?_
  rintro e0 w2 ⟨a', cap', rfl, hO, hb2, _⟩
  have x0 := keepc hb2 x0
  have x1 := keepc hb2 x1
  have xf := keepf hb2 (by simp; omega) xf
  have q0 := keepc hb2 q0
  have q1 := keepc hb2 q1
  have q2 := keepf hb2 (by simp; omega) q2
  have q3 := keepf hb2 (by simp; omega) q3
  have hO1 := Lib.hid (ownsRow_setCell_below (ownsRow_setCell_below (ownsRow_setCell_below hO (a := ⟨w.heap.size + 1, 1, none⟩) (by simp; omega) (.slice a' L.length cap')) (a := ⟨w.heap.size, 0, none⟩) (by simp; omega) (.int .i64 F)) (a := ⟨w.heap.size, 1, none⟩) (by simp; omega) (.slice a' L.length cap'))
  have HB3 : Hid (Below w.heap.size w (w2.setCell ⟨w.heap.size + 1, 1, none⟩ (.slice a' L.length cap'))) := Lib.hid ((Below.step HB1.out hb2).setCell (by simp) _)
  have hz1 : w.heap.size ≤ w1.heap.size := by omega
  clear hb2 hO hs1 hs0
  go_wp2
  have y0 : (w2.setCell ⟨w.heap.size + 1, 1, none⟩ (.slice a' L.length cap')).cell? ⟨w.heap.size, 0, none⟩ = some (.int .i64 0) := by rw [World.cell?_setCell_other _ _ _ _ (by simp)]; exact q0
  have y1 : (w2.setCell ⟨w.heap.size + 1, 1, none⟩ (.slice a' L.length cap')).cell? ⟨w.heap.size, 1, none⟩ = some (.slice none 0 0) := by rw [World.cell?_setCell_other _ _ _ _ (by simp)]; exact q1
  have r1 := put2_load (x := .int .i64 F) (y := .slice a' L.length cap') y0 y1
  refine bodyPost_ret (v := .tuple #[.agg #[.int .i64 F, .slice a' L.length cap'], .bool B]) (by simp [results, Try.results39, asAddr, r1, Result.andThen]) rfl ?_
  rw [← HM.out]
  refine ⟨a', cap', ?_, ?_, put2_below HB3.out (Nat.le_refl _)⟩
  · rw [← HLL.out, ← HFF.out, ← HBB.out]
  · rw [← HLL.out]; exact ownsRow_base hz1 hO1.out
end Go.Proofs.Ytldcpnabgpjgiaa.Walks
