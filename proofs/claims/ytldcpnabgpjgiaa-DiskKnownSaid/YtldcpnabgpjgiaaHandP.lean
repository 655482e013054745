/-
  Plain mathematics of hands: what was told, in order; no program in sight.
-/
import Derived.Test.YtldcpnabgpjgiaaPlainC
namespace Go.Proofs.Ytldcpnabgpjgiaa.Plain
set_option linter.unusedVariables false

/-- What one ordered of an epoch: the first that was told. -/
def ordOf (O : List (Int × Int × List Int)) (n e : Int) : Option (List Int) := (O.find? fun o => decide (o.1 = n) && decide (o.2.1 = e)).map fun o => o.2.2
/-- Of how many epochs one has told. -/
def ordN (O : List (Int × Int × List Int)) (n : Int) : Nat := (O.filter fun o => decide (o.1 = n)).length
/-- How many told so of an epoch. -/
def alike (O : List (Int × Int × List Int)) (e : Int) (m : List Int) : Nat := (O.filter fun o => decide (o.2.1 = e) && decide (o.2.2 = m)).length
def crewStep (f e : Int) (s : List (Int × Int × List Int) × Option (List Int)) (o : Int × Int × List Int) : List (Int × Int × List Int) × Option (List Int) :=
  (s.1 ++ [o], match s.2 with
    | some r => some r
    | none => if o.2.1 = e ∧ (alike (s.1 ++ [o]) e o.2.2 : Int) = f + 1 then some o.2.2 else none)
/-- The crew of an epoch: the first that some have told alike. -/
def crewOf (f : Int) (O : List (Int × Int × List Int)) (e : Int) : Option (List Int) := (O.foldl (crewStep f e) ([], none)).2

theorem snocInd {α : Type} {P : List α → Prop} (h0 : P []) (h1 : ∀ l a, P l → P (l ++ [a])) (l : List α) : P l := by
  rw [← List.reverse_reverse l]
  induction l.reverse with
  | nil => exact h0
  | cons a l ih => rw [List.reverse_cons]; exact h1 _ _ ih
theorem crewFold (f e : Int) (O : List (Int × Int × List Int)) : ∀ s, (O.foldl (crewStep f e) s).1 = s.1 ++ O := by
  induction O with
  | nil => simp
  | cons o O ih => intro s; rw [List.foldl_cons, ih]; simp [crewStep]
theorem crewOf_snoc (f e : Int) (O : List (Int × Int × List Int)) (o : Int × Int × List Int) : crewOf f (O ++ [o]) e = (match crewOf f O e with
    | some r => some r
    | none => if o.2.1 = e ∧ (alike (O ++ [o]) e o.2.2 : Int) = f + 1 then some o.2.2 else none) := by
  unfold crewOf
  rw [List.foldl_append, List.foldl_cons, List.foldl_nil]
  have h := crewFold f e O ([], none)
  simp only [List.nil_append] at h
  generalize List.foldl (crewStep f e) ([], none) O = s at *
  subst h
  rfl
theorem alike_snoc (O : List (Int × Int × List Int)) (o : Int × Int × List Int) (e : Int) (m : List Int) : alike (O ++ [o]) e m = alike O e m + (if o.2.1 = e ∧ o.2.2 = m then 1 else 0) := by
  unfold alike
  rw [List.filter_append, List.length_append]
  by_cases h1 : o.2.1 = e <;> by_cases h2 : o.2.2 = m <;> simp [h1, h2]
theorem ordN_snoc (O : List (Int × Int × List Int)) (o : Int × Int × List Int) (n : Int) : ordN (O ++ [o]) n = ordN O n + (if o.1 = n then 1 else 0) := by
  unfold ordN
  rw [List.filter_append, List.length_append]
  by_cases h1 : o.1 = n <;> simp [h1]
theorem ordOf_snoc (O : List (Int × Int × List Int)) (o : Int × Int × List Int) (n e : Int) : ordOf (O ++ [o]) n e = (match ordOf O n e with
    | some r => some r
    | none => if o.1 = n ∧ o.2.1 = e then some o.2.2 else none) := by
  unfold ordOf
  rw [List.find?_append]
  cases h : List.find? (fun o => decide (o.1 = n) && decide (o.2.1 = e)) O with
  | some x => simp
  | none => by_cases h1 : o.1 = n <;> by_cases h2 : o.2.1 = e <;> simp [h1, h2]

/-- None yet: then no list was told by some. -/
theorem crew_none {f : Int} (hf : 0 ≤ f) (e : Int) (O : List (Int × Int × List Int)) : crewOf f O e = none → ∀ m, (alike O e m : Int) ≤ f := by
  refine snocInd (P := fun O => crewOf f O e = none → ∀ m, (alike O e m : Int) ≤ f) ?_ ?_ O
  · intro _ m; simp [alike, hf]
  · intro O o ih h m
    rw [crewOf_snoc] at h
    cases hc : crewOf f O e with
    | some r => rw [hc] at h; simp at h
    | none =>
      rw [hc] at h
      simp only at h
      have h0 := ih hc m
      rw [alike_snoc]
      by_cases h1 : o.2.1 = e ∧ o.2.2 = m
      · rw [if_pos h1]
        by_cases h2 : (alike (O ++ [o]) e o.2.2 : Int) = f + 1
        · rw [if_pos ⟨h1.1, h2⟩] at h; simp at h
        · rw [alike_snoc, if_pos ⟨h1.1, rfl⟩, h1.2] at h2
          omega
      · rw [if_neg h1]; omega
/-- A crew was told by some. -/
theorem crew_some {f : Int} {e : Int} {O : List (Int × Int × List Int)} {m : List Int} : crewOf f O e = some m → f + 1 ≤ (alike O e m : Int) := by
  refine snocInd (P := fun O => crewOf f O e = some m → f + 1 ≤ (alike O e m : Int)) ?_ ?_ O
  · intro h; simp [crewOf] at h
  · intro O o ih h
    rw [crewOf_snoc] at h
    rw [alike_snoc]
    cases hc : crewOf f O e with
    | some r =>
      rw [hc] at h
      simp only [Option.some.injEq] at h
      subst h
      have := ih hc
      omega
    | none =>
      rw [hc] at h
      simp only at h
      by_cases h2 : o.2.1 = e ∧ (alike (O ++ [o]) e o.2.2 : Int) = f + 1
      · rw [if_pos h2] at h
        simp only [Option.some.injEq] at h
        subst h
        have := h2.2
        rw [alike_snoc, if_pos ⟨h2.1, rfl⟩] at this
        rw [if_pos ⟨h2.1, rfl⟩]
        omega
      · rw [if_neg h2] at h; simp at h

/-- What was told of one directory. -/
def OInv (f : Int) (l : List Int) (O : List (Int × Int × List Int)) : Prop :=
  (∀ o ∈ O, o.1 ∈ l ∧ (1 ≤ o.2.1 ∧ o.2.1 ≤ 1048576) ∧ goodC f o.2.2 = true) ∧ O.Pairwise (fun a b => ¬ (a.1 = b.1 ∧ a.2.1 = b.2.1)) ∧ ∀ n, ordN O n ≤ 64
theorem OInv.nil (f : Int) (l : List Int) : OInv f l [] := ⟨by simp, List.Pairwise.nil, fun n => by simp [ordN]⟩
theorem ordOf_none {O : List (Int × Int × List Int)} {n e : Int} (h : ordOf O n e = none) : ∀ o ∈ O, ¬ (o.1 = n ∧ o.2.1 = e) := by
  unfold ordOf at h
  simp only [Option.map_eq_none_iff, List.find?_eq_none] at h
  intro o ho hh
  have := h o ho
  simp [hh] at this
theorem ordOf_some {O : List (Int × Int × List Int)} {n e : Int} {m : List Int} (h : ordOf O n e = some m) : (n, e, m) ∈ O := by
  unfold ordOf at h
  simp only [Option.map_eq_some_iff] at h
  obtain ⟨o, ho, rfl⟩ := h
  have h1 := List.mem_of_find?_eq_some ho
  have h2 := List.find?_some ho
  simp at h2
  obtain ⟨a, b, c⟩ := o
  simp at h2
  rw [← h2.1, ← h2.2]
  exact h1
theorem ordOf_mem {f : Int} {l : List Int} {O : List (Int × Int × List Int)} (hI : OInv f l O) {n e : Int} {m : List Int} (h : (n, e, m) ∈ O) : ordOf O n e = some m := by
  cases hq : ordOf O n e with
  | none => exact absurd ⟨rfl, rfl⟩ (ordOf_none hq _ h)
  | some m' =>
    have h' := ordOf_some hq
    by_cases hm : (n, e, m) = (n, e, m')
    · simp at hm; rw [hm]
    · exfalso
      have key : ∀ (L : List (Int × Int × List Int)), L.Pairwise (fun a b => ¬ (a.1 = b.1 ∧ a.2.1 = b.2.1)) → ∀ x ∈ L, ∀ y ∈ L, x.1 = y.1 → x.2.1 = y.2.1 → x = y := by
        intro L
        induction L with
        | nil => simp
        | cons a L ih =>
          intro hp x hx y hy e1 e2
          rw [List.pairwise_cons] at hp
          rcases List.mem_cons.1 hx with hx1 | hx1 <;> rcases List.mem_cons.1 hy with hy1 | hy1
          · rw [hx1, hy1]
          · subst hx1; exact absurd ⟨e1, e2⟩ (hp.1 y hy1)
          · subst hy1; exact absurd ⟨e1.symm, e2.symm⟩ (hp.1 x hx1)
          · exact ih hp.2 x hx1 y hy1 e1 e2
      exact hm (key O hI.2.1 _ h _ h' rfl rfl)
theorem OInv.snoc {f : Int} {l : List Int} {O : List (Int × Int × List Int)} (hI : OInv f l O) {n e : Int} {m : List Int} (hn : n ∈ l) (he : 1 ≤ e ∧ e ≤ 1048576) (hm : goodC f m = true) (hno : ordOf O n e = none) (hfull : ordN O n ≠ 64) : OInv f l (O ++ [(n, e, m)]) := by
  refine ⟨?_, ?_, ?_⟩
  · intro o ho
    rcases List.mem_append.1 ho with ho | ho
    · exact hI.1 o ho
    · simp at ho; subst ho; exact ⟨hn, he, hm⟩
  · rw [List.pairwise_append]
    refine ⟨hI.2.1, by simp, ?_⟩
    intro a ha b hb
    simp at hb
    subst hb
    intro hh
    exact ordOf_none hno a ha hh
  · intro n'
    rw [ordN_snoc]
    have h1 := hI.2.2 n'
    by_cases hq : n = n'
    · subst hq; simp; omega
    · simp [hq]; exact h1

/-- How many of a list of nodes have told so. -/
def tellers (O : List (Int × Int × List Int)) (l : List Int) (e : Int) (m : List Int) : Nat := (l.filter fun n => decide (ordOf O n e = some m)).length
theorem tellers_alike {f : Int} {l : List Int} {O : List (Int × Int × List Int)} (hl : l.Nodup) (hI : OInv f l O) (e : Int) (m : List Int) : tellers O l e m = alike O e m := by
  unfold tellers alike
  have h1 : ((O.filter fun o => decide (o.2.1 = e) && decide (o.2.2 = m)).map fun o => o.1).Nodup := by
    rw [List.Nodup, List.pairwise_map]
    refine List.Pairwise.imp_of_mem ?_ (List.Pairwise.filter _ hI.2.1)
    intro a b ha hb hab heq
    simp at ha hb
    exact hab ⟨heq, ha.2.1.trans hb.2.1.symm⟩
  have h2 : (l.filter fun n => decide (ordOf O n e = some m)).Nodup := List.Pairwise.filter _ hl
  have h3 : ∀ x, x ∈ ((O.filter fun o => decide (o.2.1 = e) && decide (o.2.2 = m)).map fun o => o.1) ↔ x ∈ (l.filter fun n => decide (ordOf O n e = some m)) := by
    intro x
    simp only [List.mem_map, List.mem_filter, Bool.and_eq_true, decide_eq_true_eq]
    constructor
    · rintro ⟨⟨n, e', m'⟩, ⟨ho, h4, h5⟩, rfl⟩
      simp only at h4 h5
      subst h4; subst h5
      exact ⟨(hI.1 _ ho).1, ordOf_mem hI ho⟩
    · rintro ⟨hx, hh⟩
      exact ⟨_, ⟨ordOf_some hh, rfl, rfl⟩, rfl⟩
  have hp := perm_of_nodup_subset_len h1 (fun x hx => (h3 x).1 hx)
  have hq := perm_of_nodup_subset_len h2 (fun x hx => (h3 x).2 hx)
  rw [List.length_map] at hp hq
  omega

/-- What Order answers, and what was told behind it. -/
def orderE (f : Int) (l : List Int) (O : List (Int × Int × List Int)) (n e : Int) (m : List Int) : Int :=
  if hasC f l n then (if 1 ≤ e ∧ e ≤ 1048576 then (if goodC f m then (if (ordOf O n e).isSome then 0 else if ordN O n = 64 then 7 else 0) else 2) else 171) else 110
def mayO (f : Int) (l : List Int) (O : List (Int × Int × List Int)) (n e : Int) (m : List Int) : Bool :=
  hasC f l n && (decide (1 ≤ e) && decide (e ≤ 1048576)) && goodC f m && !(ordOf O n e).isSome && !decide (ordN O n = 64)
def orderO (f : Int) (l : List Int) (O : List (Int × Int × List Int)) (n e : Int) (m : List Int) : List (Int × Int × List Int) :=
  if mayO f l O n e m then O ++ [(n, e, m)] else O
/-- The program's test of a new crew is the chapter's. -/
theorem crew_step {f n e : Int} {l m : List Int} {O : List (Int × Int × List Int)} (hg : goodC f l = true) (hI : OInv f l (O ++ [(n, e, m)])) (e' : Int) :
    crewOf f (O ++ [(n, e, m)]) e' = if e' = e ∧ crewOf f O e = none ∧ f + 1 ≤ (tellers (O ++ [(n, e, m)]) l e m : Int) then some m else crewOf f O e' := by
  rw [crewOf_snoc]
  have ht := tellers_alike (lt_nodup (good_sorted hg)) hI e m
  by_cases he : e' = e
  · subst he
    cases hc : crewOf f O e' with
    | some r => simp
    | none =>
      have h0 := crew_none (goodC_len hg).1 e' O hc m
      rw [ht]
      have h1 := alike_snoc O (n, e', m) e' m
      simp only [and_self, if_true] at h1
      simp only [true_and]
      by_cases h2 : (alike (O ++ [(n, e', m)]) e' m : Int) = f + 1
      · rw [if_pos h2, if_pos (by omega)]
      · rw [if_neg h2, if_neg (by omega)]
  · have he2 : ¬ e = e' := fun h => he h.symm
    simp only [he, he2, false_and, if_false]
    cases hc : crewOf f O e' <;> rfl

/-! ### Ends -/
def endOf (E : List (Int × Int × Int × Int)) (n e : Int) : Option (Int × Int) := (E.find? fun o => decide (o.1 = n) && decide (o.2.1 = e)).map fun o => o.2.2
def endN (E : List (Int × Int × Int × Int)) (n : Int) : Nat := (E.filter fun o => decide (o.1 = n)).length
theorem endN_snoc (E : List (Int × Int × Int × Int)) (o : Int × Int × Int × Int) (n : Int) : endN (E ++ [o]) n = endN E n + (if o.1 = n then 1 else 0) := by
  unfold endN
  rw [List.filter_append, List.length_append]
  by_cases h1 : o.1 = n <;> simp [h1]
theorem endOf_snoc (E : List (Int × Int × Int × Int)) (o : Int × Int × Int × Int) (n e : Int) : endOf (E ++ [o]) n e = (match endOf E n e with
    | some r => some r
    | none => if o.1 = n ∧ o.2.1 = e then some o.2.2 else none) := by
  unfold endOf
  rw [List.find?_append]
  cases h : List.find? (fun o => decide (o.1 = n) && decide (o.2.1 = e)) E with
  | some x => simp
  | none => by_cases h1 : o.1 = n <;> by_cases h2 : o.2.1 = e <;> simp [h1, h2]
def sealE (f : Int) (l : List Int) (E : List (Int × Int × Int × Int)) (n e s : Int) : Int :=
  if hasC f l n then (if 0 ≤ e ∧ e ≤ 1048576 then (if 1 ≤ s ∧ s ≤ 9007199254740991 then (if (endOf E n e).isSome then 0 else if endN E n = 64 then 7 else 0) else 2) else 171) else 110
def maySeal (f : Int) (l : List Int) (E : List (Int × Int × Int × Int)) (n e s : Int) : Bool :=
  hasC f l n && (decide (0 ≤ e) && decide (e ≤ 1048576)) && (decide (1 ≤ s) && decide (s ≤ 9007199254740991)) && !(endOf E n e).isSome && !decide (endN E n = 64)
def sealO (f : Int) (l : List Int) (E : List (Int × Int × Int × Int)) (n e s r : Int) : List (Int × Int × Int × Int) :=
  if maySeal f l E n e s then E ++ [(n, e, s, r)] else E
/-- How many of a list of nodes have told so. -/
def enders (E : List (Int × Int × Int × Int)) (l : List Int) (e : Int) (x : Int × Int) : Nat := (l.filter fun n => decide (endOf E n e = some x)).length
/-- The end, as the program looks for it among the first ones of a crew. -/
def endTo (E : List (Int × Int × Int × Int)) (l : List Int) (most e : Int) : List Int → Option (Int × Int)
  | [] => none
  | a :: r => match endOf E a e with
    | none => endTo E l most e r
    | some x => if most ≤ (enders E l e x : Int) then some x else endTo E l most e r
def endIs (E : List (Int × Int × Int × Int)) (f : Int) (l : List Int) (e : Int) : Option (Int × Int) := if goodC f l then endTo E l (2 * f + 1) e l else none
theorem enders_take_succ {E : List (Int × Int × Int × Int)} {l : List Int} {e : Int} {x : Int × Int} {k : Nat} (h : k < l.length) : enders E (l.take (k + 1)) e x = enders E (l.take k) e x + (if endOf E l[k] e = some x then 1 else 0) := by
  unfold enders
  rw [List.take_succ_eq_append_getElem h, List.filter_append, List.length_append]
  by_cases hm : endOf E l[k] e = some x <;> simp [hm]
theorem tellers_take_succ {O : List (Int × Int × List Int)} {l : List Int} {e : Int} {m : List Int} {k : Nat} (h : k < l.length) : tellers O (l.take (k + 1)) e m = tellers O (l.take k) e m + (if ordOf O l[k] e = some m then 1 else 0) := by
  unfold tellers
  rw [List.take_succ_eq_append_getElem h, List.filter_append, List.length_append]
  by_cases hm : ordOf O l[k] e = some m <;> simp [hm]
end Go.Proofs.Ytldcpnabgpjgiaa.Plain
