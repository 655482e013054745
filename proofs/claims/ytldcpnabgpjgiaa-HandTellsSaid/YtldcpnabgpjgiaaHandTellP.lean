/-
  Plain: the document's answers for hands, by lists of what was told, are the hand's.
-/
import Derived.Test.YtldcpnabgpjgiaaHandEndP
namespace Go.Proofs.Ytldcpnabgpjgiaa.Plain
set_option linter.unusedVariables false

/-! ### Orders -/
theorem crewOf_append {f e : Int} {O : List (Int × Int × List Int)} {m : List Int} (h : crewOf f O e = some m) (O' : List (Int × Int × List Int)) : crewOf f (O ++ O') e = some m := by
  induction O' generalizing O with
  | nil => rw [List.append_nil]; exact h
  | cons a r ih =>
    rw [show O ++ a :: r = (O ++ [a]) ++ r by simp]
    exact ih (by rw [crewOf_snoc, h])
theorem crewOf_take {f e : Int} {O : List (Int × Int × List Int)} {k : Nat} {m : List Int} (h : crewOf f (O.take k) e = some m) : crewOf f O e = some m := by
  have := crewOf_append h (O.drop k)
  rwa [List.take_append_drop] at this
theorem crewOf_take_succ {f e : Int} {O : List (Int × Int × List Int)} {k : Nat} (h : k < O.length) (h0 : crewOf f (O.take k) e = none) :
    crewOf f (O.take (k + 1)) e = if O[k].2.1 = e ∧ (alike (O.take (k + 1)) e O[k].2.2 : Int) = f + 1 then some O[k].2.2 else none := by
  rw [List.take_succ_eq_append_getElem h, crewOf_snoc, h0]
theorem alike_take_succ {O : List (Int × Int × List Int)} {k : Nat} (h : k < O.length) (e : Int) (m : List Int) : alike (O.take (k + 1)) e m = alike (O.take k) e m + (if O[k].2.1 = e ∧ O[k].2.2 = m then 1 else 0) := by
  rw [List.take_succ_eq_append_getElem h, alike_snoc]
theorem ordN_take_succ {O : List (Int × Int × List Int)} {k : Nat} (h : k < O.length) (n : Int) : ordN (O.take (k + 1)) n = ordN (O.take k) n + (if O[k].1 = n then 1 else 0) := by
  rw [List.take_succ_eq_append_getElem h, ordN_snoc]
theorem ordOf_take_none {O : List (Int × Int × List Int)} {k : Nat} (h : k < O.length) {n e : Int} (h0 : ordOf (O.take k) n e = none) (h1 : ¬ (O[k].1 = n ∧ O[k].2.1 = e)) : ordOf (O.take (k + 1)) n e = none := by
  rw [List.take_succ_eq_append_getElem h, ordOf_snoc, h0]
  exact if_neg h1
theorem ordOf_isSome {O : List (Int × Int × List Int)} {k : Nat} (h : k < O.length) {n e : Int} (h1 : O[k].1 = n ∧ O[k].2.1 = e) : (ordOf O n e).isSome = true := by
  cases hc : ordOf O n e with
  | some m => rfl
  | none => exact absurd h1 (ordOf_none hc _ (List.getElem_mem h))

/-! ### Ends -/
theorem endN_take_succ {E : List (Int × Int × Int × Int)} {k : Nat} (h : k < E.length) (n : Int) : endN (E.take (k + 1)) n = endN (E.take k) n + (if E[k].1 = n then 1 else 0) := by
  rw [List.take_succ_eq_append_getElem h, endN_snoc]
theorem endOf_take_none {E : List (Int × Int × Int × Int)} {k : Nat} (h : k < E.length) {n e : Int} (h0 : endOf (E.take k) n e = none) (h1 : ¬ (E[k].1 = n ∧ E[k].2.1 = e)) : endOf (E.take (k + 1)) n e = none := by
  rw [List.take_succ_eq_append_getElem h, endOf_snoc, h0]
  exact if_neg h1
theorem endOf_isSome {E : List (Int × Int × Int × Int)} {k : Nat} (h : k < E.length) {n e : Int} (h1 : E[k].1 = n ∧ E[k].2.1 = e) : (endOf E n e).isSome = true := by
  cases hc : endOf E n e with
  | some m => rfl
  | none => exact absurd h1 (endOf_none hc _ (List.getElem_mem h))
/-- Of each node and epoch one end. -/
def EUniq (E : List (Int × Int × Int × Int)) : Prop := E.Pairwise (fun a b => ¬ (a.1 = b.1 ∧ a.2.1 = b.2.1))
theorem EUniq.told {E : List (Int × Int × Int × Int)} (h : EUniq E) (f : Int) (l : List Int) (n e s r : Int) : EUniq (sealO f l E n e s r) := by
  unfold sealO
  split
  · rename_i hm
    have hno : endOf E n e = none := by
      simp only [maySeal, Bool.and_eq_true, Bool.not_eq_true'] at hm
      cases hc : endOf E n e with
      | none => rfl
      | some x => rw [hc] at hm; simp at hm
    unfold EUniq
    rw [List.pairwise_append]
    refine ⟨h, by simp, ?_⟩
    intro a ha b hb
    simp at hb
    subst hb
    exact fun hh => endOf_none hno a ha hh
  · exact h
theorem endOf_mem {E : List (Int × Int × Int × Int)} (hU : EUniq E) {n e : Int} {x : Int × Int} (h : (n, e, x) ∈ E) : endOf E n e = some x := by
  cases hq : endOf E n e with
  | none => exact absurd ⟨rfl, rfl⟩ (endOf_none hq _ h)
  | some m' =>
    have h' := endOf_some hq
    by_cases hm : (n, e, x) = (n, e, m')
    · simp at hm; rw [hm]
    · exfalso
      have key : ∀ (L : List (Int × Int × Int × Int)), L.Pairwise (fun a b => ¬ (a.1 = b.1 ∧ a.2.1 = b.2.1)) → ∀ x ∈ L, ∀ y ∈ L, x.1 = y.1 → x.2.1 = y.2.1 → x = y := by
        intro L
        induction L with
        | nil => simp
        | cons a L ih =>
          intro hp x hx y hy e1 e2
          rw [List.pairwise_cons] at hp
          rcases List.mem_cons.1 hx with hx1 | hx1 <;> rcases List.mem_cons.1 hy with hy1 | hy1
          · rw [hx1, hy1]
          · subst hx1; exact absurd ⟨e1, e2⟩ (hp.1 y hy1)
          · subst hy1; exact absurd ⟨e1.symm, e2.symm⟩ (hp.1 x hx1)
          · exact ih hp.2 x hx1 y hy1 e1 e2
      exact hm (key E hU _ h _ h' rfl rfl)
/-- How many ends of an epoch, told by nodes of a crew, say so: the document's count. -/
def toldE (E : List (Int × Int × Int × Int)) (l : List Int) (e : Int) (x : Int × Int) : Nat := (E.filter fun o => decide (o.2.1 = e) && decide (o.2.2 = x) && decide (o.1 ∈ l)).length
theorem toldE_take_succ {E : List (Int × Int × Int × Int)} {k : Nat} (h : k < E.length) (l : List Int) (e : Int) (x : Int × Int) : toldE (E.take (k + 1)) l e x = toldE (E.take k) l e x + (if E[k].2.1 = e ∧ E[k].2.2 = x ∧ E[k].1 ∈ l then 1 else 0) := by
  unfold toldE
  rw [List.take_succ_eq_append_getElem h, List.filter_append, List.length_append]
  by_cases h1 : E[k].2.1 = e <;> by_cases h2 : E[k].2.2 = x <;> by_cases h3 : E[k].1 ∈ l <;> simp [h1, h2, h3]
theorem toldE_enders {E : List (Int × Int × Int × Int)} {l : List Int} (hl : l.Nodup) (hU : EUniq E) (e : Int) (x : Int × Int) : toldE E l e x = enders E l e x := by
  unfold toldE enders
  have h1 : ((E.filter fun o => decide (o.2.1 = e) && decide (o.2.2 = x) && decide (o.1 ∈ l)).map fun o => o.1).Nodup := by
    rw [List.Nodup, List.pairwise_map]
    refine List.Pairwise.imp_of_mem ?_ (List.Pairwise.filter _ hU)
    intro a b ha hb hab heq
    simp at ha hb
    exact hab ⟨heq, ha.2.1.1.trans hb.2.1.1.symm⟩
  have h2 : (l.filter fun n => decide (endOf E n e = some x)).Nodup := List.Pairwise.filter _ hl
  have h3 : ∀ y, y ∈ ((E.filter fun o => decide (o.2.1 = e) && decide (o.2.2 = x) && decide (o.1 ∈ l)).map fun o => o.1) ↔ y ∈ (l.filter fun n => decide (endOf E n e = some x)) := by
    intro y
    simp only [List.mem_map, List.mem_filter, Bool.and_eq_true, decide_eq_true_eq]
    constructor
    · rintro ⟨⟨n, e', m'⟩, ⟨ho, ⟨h4, h5⟩, h6⟩, rfl⟩
      simp only at h4 h5 h6
      subst h4; subst h5
      exact ⟨h6, endOf_mem hU ho⟩
    · rintro ⟨hx, hh⟩
      exact ⟨_, ⟨endOf_some hh, ⟨rfl, rfl⟩, hx⟩, rfl⟩
  have hp := perm_of_nodup_subset_len h1 (fun x hx => (h3 x).1 hx)
  have hq := perm_of_nodup_subset_len h2 (fun x hx => (h3 x).2 hx)
  rw [List.length_map] at hp hq
  omega
theorem enders_add {E : List (Int × Int × Int × Int)} {e : Int} {x y : Int × Int} (h : x ≠ y) (l : List Int) : enders E l e x + enders E l e y ≤ l.length := by
  unfold enders
  induction l with
  | nil => simp
  | cons a l ih =>
    simp only [List.filter_cons, List.length_cons]
    by_cases h1 : endOf E a e = some x
    · simp [h1, h] at ih ⊢
      omega
    · by_cases h2 : endOf E a e = some y
      · simp [h2, Ne.symm h] at ih ⊢
        omega
      · simp [h1, h2] at ih ⊢
        omega
theorem endTo_some {E : List (Int × Int × Int × Int)} {l : List Int} {most e : Int} {x : Int × Int} : ∀ {r : List Int}, endTo E l most e r = some x → most ≤ (enders E l e x : Int) ∧ ∃ a ∈ r, endOf E a e = some x
  | a :: r, h => by
    unfold endTo at h
    cases hc : endOf E a e with
    | none =>
      rw [hc] at h
      obtain ⟨h1, b, hb, h2⟩ := endTo_some (r := r) h
      exact ⟨h1, b, List.mem_cons_of_mem _ hb, h2⟩
    | some y =>
      rw [hc] at h
      simp only at h
      by_cases hm : most ≤ (enders E l e y : Int)
      · rw [if_pos hm] at h
        cases h
        exact ⟨hm, a, List.mem_cons_self, hc⟩
      · rw [if_neg hm] at h
        obtain ⟨h1, b, hb, h2⟩ := endTo_some (r := r) h
        exact ⟨h1, b, List.mem_cons_of_mem _ hb, h2⟩
theorem endTo_none {E : List (Int × Int × Int × Int)} {l : List Int} {most e : Int} : ∀ {r : List Int}, endTo E l most e r = none → ∀ a ∈ r, ∀ x, endOf E a e = some x → ¬ most ≤ (enders E l e x : Int)
  | a :: r, h, b, hb, x, hx => by
    unfold endTo at h
    rcases List.mem_cons.1 hb with rfl | hb
    · rw [hx] at h
      simp only at h
      intro hm
      rw [if_pos hm] at h
      cases h
    · cases hc : endOf E a e with
      | none => rw [hc] at h; exact endTo_none (r := r) h b hb x hx
      | some y =>
        rw [hc] at h
        simp only at h
        by_cases hm : most ≤ (enders E l e y : Int)
        · rw [if_pos hm] at h; cases h
        · rw [if_neg hm] at h; exact endTo_none (r := r) h b hb x hx
/-- The document's end: the first of those told that enough say. -/
def refEnd (E : List (Int × Int × Int × Int)) (f : Int) (l : List Int) (e : Int) : Option (Int × Int) :=
  if goodC f l then (E.find? fun o => decide (o.2.1 = e) && decide (2 * f + 1 ≤ (toldE E l e o.2.2 : Int))).map fun o => o.2.2 else none
theorem refEnd_is {E : List (Int × Int × Int × Int)} (hU : EUniq E) (f : Int) (l : List Int) (e : Int) : refEnd E f l e = endIs E f l e := by
  unfold refEnd endIs
  by_cases hg : goodC f l = true
  · rw [if_pos hg, if_pos hg]
    have hnd := lt_nodup (good_sorted hg)
    have hlen := goodC_len hg
    have hf := hlen.1
    cases hc : endTo E l (2 * f + 1) e l with
    | none =>
      rw [Option.map_eq_none_iff, List.find?_eq_none]
      intro o ho hh
      simp only [Bool.and_eq_true, decide_eq_true_eq] at hh
      rw [toldE_enders hnd hU] at hh
      have hpos : 0 < enders E l e o.2.2 := by omega
      unfold enders at hpos
      obtain ⟨n, hn⟩ := List.exists_mem_of_length_pos hpos
      simp only [List.mem_filter, decide_eq_true_eq] at hn
      exact endTo_none hc n hn.1 _ hn.2 hh.2
    | some x =>
      obtain ⟨h1, a, ha, h2⟩ := endTo_some hc
      cases hd : E.find? (fun o => decide (o.2.1 = e) && decide (2 * f + 1 ≤ (toldE E l e o.2.2 : Int))) with
      | none =>
        rw [List.find?_eq_none] at hd
        have := hd _ (endOf_some h2)
        simp [toldE_enders hnd hU, h1] at this
      | some o =>
        have h3 := List.find?_some hd
        simp only [Bool.and_eq_true, decide_eq_true_eq] at h3
        rw [toldE_enders hnd hU] at h3
        by_cases hx : o.2.2 = x
        · simp [hx]
        · exfalso
          have := enders_add (E := E) (e := e) hx l
          omega
  · rw [if_neg hg, if_neg hg]
end Go.Proofs.Ytldcpnabgpjgiaa.Plain
