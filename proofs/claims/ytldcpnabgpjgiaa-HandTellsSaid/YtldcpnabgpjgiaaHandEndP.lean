/-
  Plain: ends that are told by numbers.
-/
import Derived.Test.YtldcpnabgpjgiaaHandP
namespace Go.Proofs.Ytldcpnabgpjgiaa.Plain
set_option linter.unusedVariables false

def oldL : List Int := [5, 6, 7, 8]
def whE (x : Int) : Int := 1 + bringI (x / 4) 2
def tellE (E : List (Int × Int × Int × Int)) (x : Int) : List (Int × Int × Int × Int) := sealO 1 oldL E (5 + bringI x 4) 3 (whE x) (whE x)
def endsOf (l : List Int) : List (Int × Int × Int × Int) := l.foldl tellE []
theorem endsOf_succ {l : List Int} {k : Nat} (h : k < l.length) : endsOf (l.take (k + 1)) = tellE (endsOf (l.take k)) l[k] := by
  unfold endsOf
  rw [List.take_succ_eq_append_getElem h, List.foldl_append, List.foldl_cons, List.foldl_nil]
/-- What one of the four has said: nothing, 1 or 2. -/
def saysOf (E : List (Int × Int × Int × Int)) (j : Nat) : Int := match endOf E (5 + j) 3 with
  | none => 0
  | some x => x.1
/-- What such ends are like. -/
def EnInv (E : List (Int × Int × Int × Int)) : Prop := (∀ x ∈ E, (5 ≤ x.1 ∧ x.1 ≤ 8) ∧ x.2.1 = 3 ∧ (x.2.2 = (1, 1) ∨ x.2.2 = (2, 2))) ∧ E.Pairwise (fun a b => a.1 ≠ b.1)
theorem EnInv.nil : EnInv [] := ⟨by simp, List.Pairwise.nil⟩
theorem endOf_none {E : List (Int × Int × Int × Int)} {n e : Int} (h : endOf E n e = none) : ∀ o ∈ E, ¬ (o.1 = n ∧ o.2.1 = e) := by
  unfold endOf at h
  simp only [Option.map_eq_none_iff, List.find?_eq_none] at h
  intro o ho hh
  have := h o ho
  simp [hh] at this
theorem endOf_some {E : List (Int × Int × Int × Int)} {n e : Int} {m : Int × Int} (h : endOf E n e = some m) : (n, e, m) ∈ E := by
  unfold endOf at h
  simp only [Option.map_eq_some_iff] at h
  obtain ⟨o, ho, rfl⟩ := h
  have h1 := List.mem_of_find?_eq_some ho
  have h2 := List.find?_some ho
  simp at h2
  obtain ⟨a, b, c⟩ := o
  simp at h2
  rw [← h2.1, ← h2.2]
  exact h1
theorem EnInv.one {E : List (Int × Int × Int × Int)} (h : EnInv E) (n : Int) : endN E n ≤ 1 := by
  unfold endN
  have key : ∀ (L : List (Int × Int × Int × Int)), L.Pairwise (fun a b => a.1 ≠ b.1) → (L.filter fun o => decide (o.1 = n)).length ≤ 1 := by
    intro L
    induction L with
    | nil => simp
    | cons a L ih =>
      intro hp
      rw [List.pairwise_cons] at hp
      have hi := ih hp.2
      by_cases ha : a.1 = n
      · have : L.filter (fun o => decide (o.1 = n)) = [] := by
          rw [List.filter_eq_nil_iff]
          intro b hb
          have := hp.1 b hb
          simp
          intro h2
          exact this (ha.trans h2.symm)
        simp [ha, this]
      · simp [ha]; exact hi
  exact key E h.2
theorem whE_is (x : Int) : whE x = 1 ∨ whE x = 2 := by
  have h1 := bringI_nonneg (x / 4) 2
  have h2 := bringI_lt (x / 4) (n := 2) (by omega)
  unfold whE; omega
theorem bring4 (x : Int) : 0 ≤ bringI x 4 ∧ bringI x 4 < 4 := ⟨bringI_nonneg _ _, bringI_lt _ (by omega)⟩
theorem oldHas {n : Int} (h1 : 0 ≤ n) (h2 : n < 4) : hasC 1 oldL (5 + n) = true := by
  have : n = 0 ∨ n = 1 ∨ n = 2 ∨ n = 3 := by omega
  rcases this with rfl | rfl | rfl | rfl <;> decide
theorem EnInv.seal {E : List (Int × Int × Int × Int)} (h : EnInv E) (x : Int) : sealE 1 oldL E (5 + bringI x 4) 3 (whE x) = 0 ∧ EnInv (tellE E x) := by
  have hb := bring4 x
  have hw := whE_is x
  have hh := oldHas hb.1 hb.2
  have hs : 1 ≤ whE x ∧ whE x ≤ 9007199254740991 := by omega
  have h1 := h.one (5 + bringI x 4)
  cases hc : endOf E (5 + bringI x 4) 3 with
  | some m => exact ⟨by simp [sealE, hh, hs, hc], by simpa [tellE, sealO, maySeal, hc] using h⟩
  | none =>
    have hn : ¬ endN E (5 + bringI x 4) = 64 := by omega
    refine ⟨by simp [sealE, hh, hs, hc, hn], ?_⟩
    have : tellE E x = E ++ [(5 + bringI x 4, 3, whE x, whE x)] := by simp [tellE, sealO, maySeal, hh, hs.1, hs.2, hc, hn]
    rw [this]
    refine ⟨fun y hy => ?_, ?_⟩
    · rcases List.mem_append.1 hy with hy | hy
      · exact h.1 y hy
      · rw [List.mem_singleton.1 hy]
        refine ⟨by simp; omega, rfl, ?_⟩
        rcases hw with hw | hw <;> simp [hw]
    · rw [List.pairwise_append]
      refine ⟨h.2, by simp, fun a ha b hb2 => ?_⟩
      rw [List.mem_singleton.1 hb2]
      intro e
      exact endOf_none hc a ha ⟨e, (h.1 a ha).2.1⟩
theorem endsOf_inv (l : List Int) : EnInv (endsOf l) := by
  unfold endsOf
  have key : ∀ (l : List Int) E, EnInv E → EnInv (l.foldl tellE E) := by
    intro l
    induction l with
    | nil => exact fun _ h => h
    | cons x l ih => exact fun E h => ih _ (h.seal x).2
  exact key l [] EnInv.nil
/-- The array's step. -/
theorem saysOf_tell {E : List (Int × Int × Int × Int)} (h : EnInv E) (x : Int) {j : Nat} (hj : j < 4) : saysOf (tellE E x) j = if (j : Int) = bringI x 4 ∧ saysOf E j = 0 then whE x else saysOf E j := by
  have hb := bring4 x
  have hw := whE_is x
  have hh := oldHas hb.1 hb.2
  have hs : 1 ≤ whE x ∧ whE x ≤ 9007199254740991 := by omega
  have h1 := h.one (5 + bringI x 4)
  have hval : ∀ n m, endOf E n 3 = some m → m.1 ≠ 0 := by
    intro n m hm
    rcases (h.1 _ (endOf_some hm)).2.2 with e | e <;> simp at e <;> rw [e] <;> decide
  by_cases hj2 : (j : Int) = bringI x 4
  · cases hc : endOf E (5 + bringI x 4) 3 with
    | some m =>
      have ht : tellE E x = E := by simp [tellE, sealO, maySeal, hc]
      have : saysOf E j ≠ 0 := by unfold saysOf; rw [hj2, hc]; exact hval _ _ hc
      rw [ht, if_neg (fun hq => this hq.2)]
    | none =>
      have hn : ¬ endN E (5 + bringI x 4) = 64 := by omega
      have ht : tellE E x = E ++ [(5 + bringI x 4, 3, whE x, whE x)] := by simp [tellE, sealO, maySeal, hh, hs.1, hs.2, hc, hn]
      have h0 : saysOf E j = 0 := by unfold saysOf; rw [hj2, hc]
      rw [ht, if_pos ⟨hj2, h0⟩]
      unfold saysOf
      rw [endOf_snoc, hj2, hc]
      simp
  · rw [if_neg (fun hq => hj2 hq.1)]
    unfold tellE sealO
    split
    · unfold saysOf
      rw [endOf_snoc]
      cases endOf E (5 + (j : Int)) 3 with
      | some m => rfl
      | none =>
        simp only
        rw [if_neg (by simp; omega)]
    · rfl
/-- An end among four who say nothing, 1 or 2. -/
def code (s : Int) : Option (Int × Int) := if s = 1 then some (1, 1) else if s = 2 then some (2, 2) else none
theorem saysOf_code {E : List (Int × Int × Int × Int)} (h : EnInv E) (j : Nat) : endOf E (5 + j) 3 = code (saysOf E j) ∧ (saysOf E j = 0 ∨ saysOf E j = 1 ∨ saysOf E j = 2) := by
  unfold saysOf
  cases hc : endOf E (5 + (j : Int)) 3 with
  | none => simp [code]
  | some m => rcases (h.1 _ (endOf_some hc)).2.2 with e | e <;> simp at e <;> rw [e] <;> simp [code]
def oneOf (E : List (Int × Int × Int × Int)) (v : Int) (k : Nat) : Nat := ((List.range k).filter fun j => decide (saysOf E j = v)).length
theorem oneOf_succ (E : List (Int × Int × Int × Int)) (v : Int) (k : Nat) : oneOf E v (k + 1) = oneOf E v k + (if saysOf E k = v then 1 else 0) := by
  unfold oneOf
  rw [List.range_succ, List.filter_append, List.length_append]
  by_cases h : saysOf E k = v <;> simp [h]
theorem oneOf_le (E : List (Int × Int × Int × Int)) (v : Int) (k : Nat) : oneOf E v k ≤ k := by
  unfold oneOf; exact Nat.le_trans (List.length_filter_le _ _) (by simp)
def endG (g : Int → Option (Int × Int)) (l : List Int) (most : Int) : List Int → Option (Int × Int)
  | [] => none
  | a :: r => match g a with
    | none => endG g l most r
    | some x => if most ≤ ((l.filter fun n => decide (g n = some x)).length : Int) then some x else endG g l most r
theorem endTo_G (E : List (Int × Int × Int × Int)) (l : List Int) (most e : Int) : ∀ r, endTo E l most e r = endG (fun a => endOf E a e) l most r := by
  intro r
  induction r with
  | nil => rfl
  | cons a r ih => unfold endTo endG; rw [ih]; rfl
def s4 (a b c d : Fin 3) (n : Int) : Option (Int × Int) := if n = 5 then code a.1 else if n = 6 then code b.1 else if n = 7 then code c.1 else code d.1
def ones (a b c d : Fin 3) (v : Nat) : Nat := ([a, b, c, d].filter fun x => decide (x.1 = v)).length
theorem end_all : ∀ a b c d : Fin 3, endG (s4 a b c d) [5, 6, 7, 8] 3 [5, 6, 7, 8] = if 3 ≤ ones a b c d 1 then some (1, 1) else if 3 ≤ ones a b c d 2 then some (2, 2) else none := by decide +kernel
theorem endG_congr {g g' : Int → Option (Int × Int)} {l : List Int} {most : Int} (hl : ∀ n ∈ l, g n = g' n) : ∀ r, (∀ n ∈ r, g n = g' n) → endG g l most r = endG g' l most r := by
  intro r
  induction r with
  | nil => intro _; rfl
  | cons a r ih =>
    intro hr
    unfold endG
    rw [hr a (by simp), ih (fun n hn => hr n (by simp [hn]))]
    have : ∀ x, (l.filter fun n => decide (g n = some x)) = l.filter fun n => decide (g' n = some x) := fun x => List.filter_congr (fun n hn => by rw [hl n hn])
    simp only [this]
theorem ends_law {E : List (Int × Int × Int × Int)} (h : EnInv E) : endIs E 1 oldL 3 = if 3 ≤ oneOf E 1 4 then some (1, 1) else if 3 ≤ oneOf E 2 4 then some (2, 2) else none := by
  have hx : ∀ j : Nat, ∃ f : Fin 3, saysOf E j = (f.1 : Int) := by
    intro j
    rcases (saysOf_code h j).2 with e | e | e
    · exact ⟨0, e⟩
    · exact ⟨1, e⟩
    · exact ⟨2, e⟩
  obtain ⟨a, ha⟩ := hx 0
  obtain ⟨b, hb⟩ := hx 1
  obtain ⟨c, hc⟩ := hx 2
  obtain ⟨d, hd⟩ := hx 3
  have c0 := (saysOf_code h 0).1
  have c1 := (saysOf_code h 1).1
  have c2 := (saysOf_code h 2).1
  have c3 := (saysOf_code h 3).1
  rw [ha] at c0
  rw [hb] at c1
  rw [hc] at c2
  rw [hd] at c3
  have hg : ∀ n ∈ ([5, 6, 7, 8] : List Int), (fun a => endOf E a 3) n = s4 a b c d n := by
    intro n hn
    simp at hn
    rcases hn with rfl | rfl | rfl | rfl
    · exact c0
    · exact c1
    · exact c2
    · exact c3
  have ho : ∀ v : Nat, oneOf E v 4 = ones a b c d v := by
    intro v
    have : ∀ x y : Nat, ((x : Int) = y) ↔ x = y := by omega
    simp only [oneOf_succ, ha, hb, hc, hd, this]
    simp only [oneOf, List.range_zero, List.filter_nil, List.length_nil, ones, List.filter_cons]
    by_cases e1 : a.1 = v <;> by_cases e2 : b.1 = v <;> by_cases e3 : c.1 = v <;> by_cases e4 : d.1 = v <;> simp [e1, e2, e3, e4]
  have hgood : goodC 1 oldL = true := by decide
  unfold endIs
  rw [hgood, if_pos rfl]
  have h1 : oneOf E 1 4 = ones a b c d 1 := ho 1
  have h2 : oneOf E 2 4 = ones a b c d 2 := ho 2
  rw [h1, h2]
  rw [endTo_G]
  exact (endG_congr hg _ hg).trans (end_all a b c d)
theorem ends_other {E : List (Int × Int × Int × Int)} (h : EnInv E) : endIs E 1 oldL 4 = none ∧ endIs E 1 [1, 2, 3, 4] 3 = none := by
  have hno : ∀ (e : Int) (l : List Int) (most : Int), (∀ n ∈ l, endOf E n e = none) → endTo E l most e l = none := by
    intro e l most hl
    have : ∀ r, (∀ n ∈ r, endOf E n e = none) → endTo E l most e r = none := by
      intro r
      induction r with
      | nil => intro _; rfl
      | cons a r ih => intro hr; unfold endTo; rw [hr a (by simp)]; exact ih (fun n hn => hr n (by simp [hn]))
    exact this l hl
  constructor
  · unfold endIs
    rw [show goodC 1 oldL = true from by decide, if_pos rfl]
    refine hno _ _ _ (fun n _ => ?_)
    cases hc : endOf E n 4 with
    | none => rfl
    | some m => have := (h.1 _ (endOf_some hc)).2.1; simp at this
  · unfold endIs
    rw [show goodC 1 [1, 2, 3, 4] = true from by decide, if_pos rfl]
    refine hno _ _ _ (fun n hn => ?_)
    cases hc : endOf E n 3 with
    | none => rfl
    | some m => have := (h.1 _ (endOf_some hc)).1; simp at this hn; omega
end Go.Proofs.Ytldcpnabgpjgiaa.Plain
