/-
  The walk of the crew laws' closed part, works.
-/
import Derived.Test.YtldcpnabgpjgiaaCrewO
namespace Go.Proofs.Ytldcpnabgpjgiaa.Walks
open Go.RowKit Plain
set_option linter.unusedVariables false

theorem sort4 : sortI [7, 2, 5, 3] = [2, 3, 5, 7] := sorted_perm_eq (sortI_sorted _) (by decide) ((sortI_perm _).trans (by decide))
theorem sort4b : sortI (dels 3 [2, 3, 5, 7] ++ [4]) = [2, 4, 5, 7] := sorted_perm_eq (sortI_sorted _) (by decide) ((sortI_perm _).trans (by decide))
theorem sort4c : sortI [4, 9, 1, 6] = [1, 4, 6, 9] := sorted_perm_eq (sortI_sorted _) (by decide) ((sortI_perm _).trans (by decide))
theorem good4 : goodC 1 [2, 3, 5, 7] = true := by decide
theorem make4 : makeF 1 [7, 2, 5, 3] = 1 ∧ makeL 1 [7, 2, 5, 3] = [2, 3, 5, 7] ∧ makeE 1 [7, 2, 5, 3] = 0 := by
  unfold makeF makeL makeE; rw [sort4]; decide
theorem rep4 : repF 1 [2, 3, 5, 7] 3 4 = 1 ∧ repL 1 [2, 3, 5, 7] 3 4 = [2, 4, 5, 7] ∧ repE 1 [2, 3, 5, 7] 3 4 = 0 := by
  have h : mayC 1 [2, 3, 5, 7] 3 4 = true := by decide
  refine ⟨by simp [repF, h], by rw [repL, if_pos h, sort4b], by decide⟩
theorem rank4 : rankV 1 [2, 3, 5, 7] [4, 9, 1, 6] 2 = 6 ∧ rankE 1 [2, 3, 5, 7] [4, 9, 1, 6] 2 = 0 := by
  have h : rankOk 1 [2, 3, 5, 7] [4, 9, 1, 6] 2 = true := by decide
  obtain ⟨h1, h2⟩ := rankE_ok good4 h
  refine ⟨h2.trans ?_, h1⟩
  unfold rankC; rw [show (2 : Int).toNat = 2 from rfl, sort4c]; rfl

/-- A list that a literal lays. -/
theorem ints_lit (w : World) {cs : Array Value} {l : List Int} (h : cs = (l.map iv).toArray) (hm : l.length ≤ 9223372036854775807) : Ints (w.alloc (.cells cs 3)) (some ⟨w.heap.size, 0, none⟩) l :=
  ⟨hm, .inr ⟨w.heap.size, 0, rfl, fun i hi => by
    rw [cell_of_row _ _ _ _ _ _ (heap_alloc_new _ _), h]
    simp [hi, iv]⟩⟩
theorem Below.stepD {w w1 w2 : World} (h : Below w.heap.size w w1) (h2 : Below w1.drew.heap.size w1.drew w2) : Below w.heap.size w w2 := Below.step h.drew h2

/-- A maker's answer, at what it is. -/
theorem make_is {f : Int} {l : List Int} {F E : Int} {L : List Int} (h : makeF f l = F ∧ makeL f l = L ∧ makeE f l = E) (a : Option Addr) (cap : Nat) (w : World) (hI : Ints w a l) (hn : a = none → cap = 0) (hr : l.length ≤ 17592186044416) :
    Calls Try.prog 67 #[.int .i64 f, .slice a l.length cap] w (CrewPost F L E w) := by
  obtain ⟨rfl, rfl, rfl⟩ := h; exact make_any f a cap l w hI hn hr
theorem rep_is {f : Int} {l : List Int} {old next : Int} {F E : Int} {L : List Int} (h : repF f l old next = F ∧ repL f l old next = L ∧ repE f l old next = E) (a : Option Addr) (cap : Nat) (w : World) (hI : Ints w a l) (hn : a = none → cap = 0) (hr : l.length ≤ 140737488351232) :
    Calls Try.prog 82 #[.agg #[.int .i64 f, .slice a l.length cap], .int .i64 old, .int .i64 next] w (CrewPost F L E w) := by
  obtain ⟨rfl, rfl, rfl⟩ := h; exact replace_any f a cap l old next w hI hn hr
theorem rank_is {f : Int} {l r : List Int} {many V E : Int} (h : rankV f l r many = V ∧ rankE f l r many = E) (a : Option Addr) (cap : Nat) (a2 : Option Addr) (cap2 : Nat) (w : World) (hI : Ints w a l) (hR : Ints w a2 r) (hn : a2 = none → cap2 = 0) :
    Calls Try.prog 84 #[.agg #[.int .i64 f, .slice a l.length cap], .slice a2 r.length cap2, .int .i64 many] w fun e w' => e = .returned (.tuple #[.int .i64 V, .int .i64 E]) ∧ Below w.heap.size w w' := by
  obtain ⟨rfl, rfl⟩ := h; exact rank_any f a cap l a2 cap2 r many w hI hR hn

theorem most_is {f : Int} {l : List Int} {M : Int} (h : mostC f l = M) (a : Option Addr) (cap : Nat) (w : World) (hI : Ints w a l) :
    Calls Try.prog 73 #[.agg #[.int .i64 f, .slice a l.length cap]] w fun e w' => e = .returned (.int .i64 M) ∧ Below w.heap.size w w' := by
  subst h; exact most_any f a cap l w hI
theorem some_is {f : Int} {l : List Int} {M : Int} (h : someC f l = M) (a : Option Addr) (cap : Nat) (w : World) (hI : Ints w a l) :
    Calls Try.prog 75 #[.agg #[.int .i64 f, .slice a l.length cap]] w fun e w' => e = .returned (.int .i64 M) ∧ Below w.heap.size w w' := by
  subst h; exact some_any f a cap l w hI
theorem check_is {f : Int} {l : List Int} {M : Int} (h : errC f l = M) (a : Option Addr) (cap : Nat) (w : World) (hI : Ints w a l) :
    Calls Try.prog 69 #[.agg #[.int .i64 f, .slice a l.length cap]] w fun e w' => e = .returned (.int .i64 M) ∧ Below w.heap.size w w' := by
  subst h; exact check_any f a cap l w hI
theorem refMost_is {f : Int} {l : List Int} {M : Int} (h : mostC f l = M) (a : Option Addr) (cap : Nat) (w : World) (hI : Ints w a l) :
    Calls Try.prog 74 #[.agg #[.int .i64 f, .slice a l.length cap]] w fun e w' => e = .returned (.int .i64 M) ∧ Below w.heap.size w w' := by
  subst h; exact refMost_any f a cap l w hI
theorem refSome_is {f : Int} {l : List Int} {M : Int} (h : someC f l = M) (a : Option Addr) (cap : Nat) (w : World) (hI : Ints w a l) :
    Calls Try.prog 76 #[.agg #[.int .i64 f, .slice a l.length cap]] w fun e w' => e = .returned (.int .i64 M) ∧ Below w.heap.size w w' := by
  subst h; exact refSome_any f a cap l w hI
theorem refCheck_is {f : Int} {l : List Int} {M : Int} (h : errC f l = M) (a : Option Addr) (cap : Nat) (w : World) (hI : Ints w a l) :
    Calls Try.prog 70 #[.agg #[.int .i64 f, .slice a l.length cap]] w fun e w' => e = .returned (.int .i64 M) ∧ Below w.heap.size w w' := by
  subst h; exact refCheck_any f a cap l w hI
theorem lead_is {f : Int} {l : List Int} {v M : Int} (h : leadC f l v = M) (a : Option Addr) (cap : Nat) (w : World) (hI : Ints w a l) :
    Calls Try.prog 77 #[.agg #[.int .i64 f, .slice a l.length cap], .int .i64 v] w fun e w' => e = .returned (.int .i64 M) ∧ Below w.heap.size w w' := by
  subst h; exact leader_any f a cap l v w hI
theorem refLead_is {f : Int} {l : List Int} {v M : Int} (h : leadC f l v = M) (a : Option Addr) (cap : Nat) (w : World) (hI : Ints w a l) :
    Calls Try.prog 78 #[.agg #[.int .i64 f, .slice a l.length cap], .int .i64 v] w fun e w' => e = .returned (.int .i64 M) ∧ Below w.heap.size w w' := by
  subst h; exact refLeader_any f a cap l v w hI
theorem has_is {f : Int} {l : List Int} {n : Int} {q : Bool} (h : hasC f l n = q) (a : Option Addr) (cap : Nat) (w : World) (hI : Ints w a l) (hr : l.length ≤ 140737488351232) :
    Calls Try.prog 79 #[.agg #[.int .i64 f, .slice a l.length cap], .int .i64 n] w fun e w' => e = .returned (.bool q) ∧ Below w.heap.size w w' := by
  subst h; exact has_any f a cap l n w hI hr
theorem refHas_is {f : Int} {l : List Int} {n : Int} {q : Bool} (h : hasC f l n = q) (a : Option Addr) (cap : Nat) (w : World) (hI : Ints w a l) :
    Calls Try.prog 80 #[.agg #[.int .i64 f, .slice a l.length cap], .int .i64 n] w fun e w' => e = .returned (.bool q) ∧ Below w.heap.size w w' := by
  subst h; exact refHas_any f a cap l n w hI
theorem votes_is {f : Int} {l m : List Int} {M : Int} (h : votesC f l m = M) (a : Option Addr) (cap : Nat) (a' : Option Addr) (cap' : Nat) (w : World) (hI : Ints w a l) (hI' : Ints w a' m) :
    Calls Try.prog 86 #[.agg #[.int .i64 f, .slice a l.length cap], .slice a' m.length cap'] w fun e w' => e = .returned (.int .i64 M) ∧ Below w.heap.size w w' := by
  subst h; exact votes_any f a cap l a' cap' m w hI hI'
theorem refVotes_is {f : Int} {l m : List Int} {M : Int} (h : votesC f l m = M) (a : Option Addr) (cap : Nat) (a' : Option Addr) (cap' : Nat) (w : World) (hI : Ints w a l) (hI' : Ints w a' m) :
    Calls Try.prog 87 #[.agg #[.int .i64 f, .slice a l.length cap], .slice a' m.length cap'] w fun e w' => e = .returned (.int .i64 M) ∧ Below w.heap.size w w' := by
  subst h; exact refVotes_any f a cap l a' cap' m w hI hI'
theorem others_is {f : Int} {l L : List Int} {x : Int} (h : othersC f l x = L) (a : Option Addr) (cap : Nat) (w : World) (hI : Ints w a l) (hn : a = none → cap = 0) :
    Calls Try.prog 72 #[.agg #[.int .i64 f, .slice a l.length cap], .int .i64 x] w fun e w' => ∃ a' cap', e = .returned (.slice a' L.length cap') ∧ Own w' w.heap.size a' L cap' ∧ Below w.heap.size w w' := by
  subst h; exact others_any f a cap l x w hI hn
theorem same_true {f f' : Int} {l l' : List Int} (hf : f = f') (hl : l = l') (a a' : Option Addr) (cap cap' : Nat) (w : World) (hB : Ints w a l) (hB' : Ints w a' l') :
    Calls Try.prog 31 #[.agg #[.int .i64 f, .slice a l.length cap], .agg #[.int .i64 f', .slice a' l'.length cap']] w fun e w' => e = .returned (.bool true) ∧ Below w.heap.size w w' := by
  refine Calls.mono (same_any f f' a a' cap cap' l l' w hB hB') ?_
  rintro e w' ⟨rfl, hb⟩
  exact ⟨ret_bool (by simp [hf, hl]), hb⟩
theorem eq_true {l l' : List Int} (hl : l = l') (a a' : Option Addr) (cap cap' : Nat) (w : World) (hB : Ints w a l) (hB' : Ints w a' l') :
    Calls Try.prog 36 #[.slice a l.length cap, .slice a' l'.length cap'] w fun e w' => e = .returned (.bool true) ∧ Below w.heap.size w w' := by
  refine Calls.mono (eqInts_any a a' cap cap' l l' w hB hB') ?_
  rintro e w' ⟨rfl, hb⟩
  exact ⟨ret_bool (by simp [hl]), hb⟩
theorem eq_n {l l' : List Int} (hl : l = l') (n n' : Nat) (h1 : l.length = n) (h2 : l'.length = n') (a a' : Option Addr) (cap cap' : Nat) (w : World) (hB : Ints w a l) (hB' : Ints w a' l') :
    Calls Try.prog 36 #[.slice a n cap, .slice a' n' cap'] w fun e w' => e = .returned (.bool true) ∧ Below w.heap.size w w' := by
  subst h1; subst h2; exact eq_true hl a a' cap cap' w hB hB'
theorem most4 : mostC 1 [2, 3, 5, 7] = 3 := by decide
theorem some4 : someC 1 [2, 3, 5, 7] = 2 := by decide
theorem lead4 : leadC 1 [2, 3, 5, 7] 6 = 5 := by decide
theorem others4 : othersC 1 [2, 3, 5, 7] 3 = [2, 5, 7] := by decide
theorem votes4 : votesC 1 [2, 3, 5, 7] [2, 2, 9, 7] = 2 := by decide

set_option maxRecDepth 100000 in
set_option maxHeartbeats 4000000 in
theorem works_any (w : World) : Calls Try.prog 71 #[] w fun e w' => e = .returned (.bool true) ∧ Below w.heap.size w w' := by
  go_enter Try.func71, Try.ntmps71
  go_wp2_with fail
  refine Calls.mono (make_is make4 (some ⟨w.heap.size, 0, none⟩) 4 _ (ints_lit w rfl (by decide)) (by intro h; cases h) (by decide)) ?_
  rintro e w1 ⟨a1, cap1, rfl, hO1, hb1⟩
  have c0 : (w1.alloc (.cells #[.int .i64 1, .slice a1 4 cap1] 24)).cell? ⟨w1.heap.size, 0, none⟩ = some (.int .i64 1) := cell_of_row _ _ _ _ _ _ (heap_alloc_new _ _)
  have c1 : (w1.alloc (.cells #[.int .i64 1, .slice a1 4 cap1] 24)).cell? ⟨w1.heap.size, 1, none⟩ = some (.slice a1 4 cap1) := cell_of_row _ _ _ _ _ _ (heap_alloc_new _ _)
  have HN1 := Lib.hid (Own.nocap hO1)
  have HI1 := Lib.hid ((Own.ints (l := [2, 3, 5, 7]) hO1 (by decide)).alloc (.cells #[.int .i64 1, .slice a1 4 cap1] 24))
  have HB1 := Lib.hid (Below.step (Below.step (Below.new w _) hb1) (Below.new w1 (.cells #[.int .i64 1, .slice a1 4 cap1] 24)))
  clear hO1 hb1
  go_wp2_with fail
  generalize (w1.alloc (.cells #[.int .i64 1, .slice a1 4 cap1] 24)) = v1 at *
  refine Calls.mono (chapter_any _) ?_
  rintro e w2 ⟨a2, cap2, rfl, hO2, hb2⟩
  have HO2 := Lib.hid hO2
  have HB2 := Lib.hid hb2
  clear hO2 hb2
  go_wp2_with fail
  refine Calls.mono (rep_is rep4 a2 cap2 _ (Own.ints (l := [2, 3, 5, 7]) HO2.out (by decide)) (Own.nocap HO2.out) (by decide)) ?_
  rintro e w3 ⟨a3, cap3, rfl, hO3, hb3⟩
  have d1 : (w3.alloc (.cells #[.int .i64 1, .slice a3 4 cap3] 24)).cell? ⟨w3.heap.size, 1, none⟩ = some (.slice a3 4 cap3) := cell_of_row _ _ _ _ _ _ (heap_alloc_new _ _)
  have HI3 := Lib.hid ((Own.ints (l := [2, 4, 5, 7]) hO3 (by decide)).alloc (.cells #[.int .i64 1, .slice a3 4 cap3] 24))
  have HB3 := Lib.hid (Below.step (Below.step HB2.out hb3) (Below.new w3 (.cells #[.int .i64 1, .slice a3 4 cap3] 24)))
  clear hO3 hb3
  go_wp2_with fail
  generalize (w3.alloc (.cells #[.int .i64 1, .slice a3 4 cap3] 24)) = v3 at *
  refine Calls.mono (chapter_any _) ?_
  rintro e w4 ⟨a4, cap4, rfl, hO4, hb4⟩
  have HO4 := Lib.hid hO4
  have HB4 := Lib.hid hb4
  clear hO4 hb4
  go_wp2_with fail
  refine Calls.mono (rank_is rank4 a4 cap4 (some ⟨w4.heap.size, 0, none⟩) 4 _ ((Own.ints (l := [2, 3, 5, 7]) HO4.out (by decide)).alloc _) (ints_lit w4 rfl (by decide)) (by intro h; cases h)) ?_
  rintro e w5 ⟨rfl, hb5⟩
  have HB5 := Lib.hid (Below.step (Below.step HB4.out (Below.new w4 _)) hb5)
  have d1 := keepc HB5.out d1
  have HI3 := Lib.hid (HI3.out.below HB5.out)
  have HB35 := Lib.hid (Below.step HB3.out HB5.out)
  have c0 := keepc HB35.out c0
  have c1 := keepc HB35.out c1
  have HI1 := Lib.hid (HI1.out.below HB35.out)
  have HB15 := Lib.hid (Below.step HB1.out HB35.out)
  clear hb5 HB5 HB35 HB1 HB2 HB3 HB4 HO2 HO4
  go_wp2_with fail
  have hS : Below w5.heap.size w5 w5 := Below.refl _ _
  go_region_held3 (fun w' => w'.cell? ⟨w1.heap.size, 0, none⟩ = some (.int .i64 1) ∧ w'.cell? ⟨w1.heap.size, 1, none⟩ = some (.slice a1 4 cap1) ∧ w'.cell? ⟨w3.heap.size, 1, none⟩ = some (.slice a3 4 cap3))
    (first
      | go_keep | assumption | exact ⟨keepc hS c0, keepc hS c1, keepc hS d1⟩)
    ((first
      | (go_at_call 90; refine Calls.mono (chapter_any _) ?_; rintro e wc ⟨a5, cap5, rfl, hO5, hb⟩; have hS : Below w5.heap.size w5 wc := (by first | exact Below.step hS hb | exact Below.stepD hS hb | exact Below.step (Below.step hS (Below.new _ _)) hb); have hI5 := Own.ints (l := [2, 3, 5, 7]) hO5 (by decide))
      | (go_at_call 31; refine Calls.mono (same_true (l := [2, 3, 5, 7]) (l' := [2, 3, 5, 7]) rfl rfl a1 a5 cap1 cap5 _ (Ints.below HI1.out (by first | exact hS | exact hS.drew | exact Below.step hS (Below.new _ _))) hI5) ?_; rintro e wc ⟨rfl, hb⟩; have hS : Below w5.heap.size w5 wc := (by first | exact Below.step hS hb | exact Below.stepD hS hb | exact Below.step (Below.step hS (Below.new _ _)) hb))
      | (go_at_call 73; refine Calls.mono (most_is most4 a1 cap1 _ (Ints.below HI1.out (by first | exact hS | exact hS.drew | exact Below.step hS (Below.new _ _)))) ?_; rintro e wc ⟨rfl, hb⟩; have hS : Below w5.heap.size w5 wc := (by first | exact Below.step hS hb | exact Below.stepD hS hb | exact Below.step (Below.step hS (Below.new _ _)) hb))
      | (go_at_call 75; refine Calls.mono (some_is some4 a1 cap1 _ (Ints.below HI1.out (by first | exact hS | exact hS.drew | exact Below.step hS (Below.new _ _)))) ?_; rintro e wc ⟨rfl, hb⟩; have hS : Below w5.heap.size w5 wc := (by first | exact Below.step hS hb | exact Below.stepD hS hb | exact Below.step (Below.step hS (Below.new _ _)) hb))
      | (go_at_call 77; refine Calls.mono (lead_is lead4 a1 cap1 _ (Ints.below HI1.out (by first | exact hS | exact hS.drew | exact Below.step hS (Below.new _ _)))) ?_; rintro e wc ⟨rfl, hb⟩; have hS : Below w5.heap.size w5 wc := (by first | exact Below.step hS hb | exact Below.stepD hS hb | exact Below.step (Below.step hS (Below.new _ _)) hb))
      | (go_at_call 72; refine Calls.mono (others_is others4 a1 cap1 _ (Ints.below HI1.out (by first | exact hS | exact hS.drew | exact Below.step hS (Below.new _ _))) HN1.out) ?_; rintro e wc ⟨a6, cap6, rfl, hO6, hb⟩; (try (have hL := Ints.below (ints_lit (l := [2, 5, 7]) _ rfl (by decide)) hb)); have hS : Below w5.heap.size w5 wc := (by first | exact Below.step hS hb | exact Below.stepD hS hb | exact Below.step (Below.step hS (Below.new _ _)) hb); have hI6 := Own.ints (l := [2, 5, 7]) hO6 (by decide))
      | (go_at_call 36; (with_reducible refine Calls.mono (eq_n (l := [2, 5, 7]) (l' := [2, 5, 7]) rfl 3 3 (by decide) (by decide) a6 _ cap6 _ _ ?hA ?hB) ?_); (case hA => first | exact hI6 | exact hI6.alloc _); (case hB => first | exact hL | exact ints_lit _ rfl (by decide)); rintro e wc ⟨rfl, hb⟩; have hS : Below w5.heap.size w5 wc := (by first | exact Below.step hS hb | exact Below.stepD hS hb | exact Below.step (Below.step hS (Below.new _ _)) hb))
      | (go_at_call 36; (with_reducible refine Calls.mono (eq_n (l := [2, 4, 5, 7]) (l' := [2, 4, 5, 7]) rfl 4 4 (by decide) (by decide) a3 _ cap3 _ _ ?hA ?hB) ?_); (case hA => exact (Ints.below HI3.out (by first | exact hS | exact hS.drew | exact Below.step hS (Below.new _ _)))); (case hB => exact ints_lit _ rfl (by decide)); rintro e wc ⟨rfl, hb⟩; have hS : Below w5.heap.size w5 wc := (by first | exact Below.step hS hb | exact Below.stepD hS hb | exact Below.step (Below.step hS (Below.new _ _)) hb))
      | (go_at_call 86; refine Calls.mono (votes_is (m := [2, 2, 9, 7]) votes4 a1 cap1 _ _ _ (Ints.below HI1.out (by first | exact hS | exact hS.drew | exact Below.step hS (Below.new _ _))) (ints_lit _ rfl (by decide))) ?_; rintro e wc ⟨rfl, hb⟩; have hS : Below w5.heap.size w5 wc := (by first | exact Below.step hS hb | exact Below.stepD hS hb | exact Below.step (Below.step hS (Below.new _ _)) hb))
      ))
  all_goals
    go_wp2
    go_ret
    exact ⟨rfl, Below.step HB15.out hS⟩
end Go.Proofs.Ytldcpnabgpjgiaa.Walks
