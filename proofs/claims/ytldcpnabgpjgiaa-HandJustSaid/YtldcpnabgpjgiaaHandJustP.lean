/-
  Plain: of four who order, one lies.
-/
import Derived.Test.YtldcpnabgpjgiaaHandOrdP
namespace Go.Proofs.Ytldcpnabgpjgiaa.Plain
set_option linter.unusedVariables false

def n0L : List Int := [5, 6, 7, 9]
def dirL : List Int := [1, 2, 3, 4]
def turn (ord : Int) (j : Nat) : Int := 1 + ((j : Int) + ord) % 4
structure JInv (liar : Int) (O : List (Int × Int × List Int)) (il io t : Nat) (ord : Int) : Prop where
  inv : OInv 1 dirL O
  hon : ∀ o ∈ O, o.1 ≠ liar → o.2 = (2, n0L)
  nl : ordN O liar ≤ il
  no : ∀ n, n ≠ liar → ordN O n ≤ io
  told : ∀ j, j < t → turn ord j ≠ liar → ordOf O (turn ord j) 2 = some n0L
theorem turn_bd (ord : Int) (j : Nat) : 1 ≤ turn ord j ∧ turn ord j ≤ 4 := by unfold turn; omega
theorem dirL_good : goodC 1 dirL = true := by decide
theorem dir_has {n : Int} (h1 : 1 ≤ n) (h2 : n ≤ 4) : hasC 1 dirL n = true := by
  have : n = 1 ∨ n = 2 ∨ n = 3 ∨ n = 4 := by omega
  rcases this with rfl | rfl | rfl | rfl <;> decide
theorem dir_mem {n : Int} (h1 : 1 ≤ n) (h2 : n ≤ 4) : n ∈ dirL := by
  have : n = 1 ∨ n = 2 ∨ n = 3 ∨ n = 4 := by omega
  rcases this with rfl | rfl | rfl | rfl <;> decide
theorem JInv.start (liar ord : Int) : JInv liar [] 0 0 0 ord := ⟨OInv.nil _ _, by simp, by simp [ordN], fun n _ => by simp [ordN], fun j h => by omega⟩
theorem JInv.mono {liar : Int} {O : List (Int × Int × List Int)} {il io t il' io' : Nat} {ord : Int} (h : JInv liar O il io t ord) (h1 : il ≤ il') (h2 : io ≤ io') : JInv liar O il' io' t ord :=
  ⟨h.inv, h.hon, Nat.le_trans h.nl h1, fun n hn => Nat.le_trans (h.no n hn) h2, h.told⟩
theorem JInv.liar {liar : Int} {O : List (Int × Int × List Int)} {il io t : Nat} {ord : Int} (h : JInv liar O il io t ord) (hl : 1 ≤ liar ∧ liar ≤ 4) {e : Int} {m : List Int} (he : 1 ≤ e ∧ e ≤ 3) (hm : goodC 1 m = true) (hil : il < 64) :
    orderE 1 dirL O liar e m = 0 ∧ JInv liar (orderO 1 dirL O liar e m) (il + 1) io t ord := by
  have hh := dir_has hl.1 hl.2
  have h64 : ¬ ordN O liar = 64 := by have := h.nl; omega
  have he2 : 1 ≤ e ∧ e ≤ 1048576 := by omega
  cases hc : ordOf O liar e with
  | some r =>
    refine ⟨by simp [orderE, hh, he2, hm, hc], ?_⟩
    rw [show orderO 1 dirL O liar e m = O by simp [orderO, mayO, hc]]
    exact h.mono (by omega) (Nat.le_refl _)
  | none =>
    refine ⟨by simp [orderE, hh, he2, hm, hc, h64], ?_⟩
    rw [show orderO 1 dirL O liar e m = O ++ [(liar, e, m)] by simp [orderO, mayO, hh, he2.1, he2.2, hm, hc, h64]]
    refine ⟨h.inv.snoc (dir_mem hl.1 hl.2) he2 hm hc h64, ?_, ?_, ?_, ?_⟩
    · intro o ho hne
      rcases List.mem_append.1 ho with ho | ho
      · exact h.hon o ho hne
      · rw [List.mem_singleton.1 ho] at hne; exact absurd rfl hne
    · rw [ordN_snoc]; have := h.nl; simp; omega
    · intro n hn
      rw [ordN_snoc]
      have := h.no n hn
      rw [if_neg (fun e => hn e.symm)]; omega
    · intro j hj hne
      rw [ordOf_snoc, h.told j hj hne]
theorem JInv.honest {liar : Int} {O : List (Int × Int × List Int)} {il io t : Nat} {ord : Int} (h : JInv liar O il io t ord) (hne : turn ord t ≠ liar) (hio : io < 64) :
    orderE 1 dirL O (turn ord t) 2 n0L = 0 ∧ JInv liar (orderO 1 dirL O (turn ord t) 2 n0L) il (io + 1) (t + 1) ord := by
  have hb := turn_bd ord t
  have hh := dir_has hb.1 hb.2
  have hm : goodC 1 n0L = true := by decide
  have h64 : ¬ ordN O (turn ord t) = 64 := by have := h.no _ hne; omega
  cases hc : ordOf O (turn ord t) 2 with
  | some r =>
    have hr : r = n0L := by have := h.hon _ (ordOf_some hc) hne; simp at this; exact this
    refine ⟨by simp [orderE, hh, hm, hc], ?_⟩
    rw [show orderO 1 dirL O (turn ord t) 2 n0L = O by simp [orderO, mayO, hc]]
    refine ⟨h.inv, h.hon, h.nl, fun n hn => by have := h.no n hn; omega, fun j hj hne' => ?_⟩
    by_cases hjt : j = t
    · subst hjt; rw [hc, hr]
    · exact h.told j (by omega) hne'
  | none =>
    refine ⟨by simp [orderE, hh, hm, hc, h64], ?_⟩
    rw [show orderO 1 dirL O (turn ord t) 2 n0L = O ++ [(turn ord t, 2, n0L)] by simp [orderO, mayO, hh, hm, hc, h64]]
    refine ⟨h.inv.snoc (dir_mem hb.1 hb.2) (by omega) hm hc h64, ?_, ?_, ?_, ?_⟩
    · intro o ho hne'
      rcases List.mem_append.1 ho with ho | ho
      · exact h.hon o ho hne'
      · rw [List.mem_singleton.1 ho]
    · rw [ordN_snoc, if_neg hne]; exact h.nl
    · intro n hn
      rw [ordN_snoc]
      have := h.no n hn
      split <;> omega
    · intro j hj hne'
      rw [ordOf_snoc]
      by_cases hjt : turn ord j = turn ord t
      · rw [hjt, hc]; simp
      · have hjt2 : j ≠ t := fun e => hjt (by rw [e])
        rw [h.told j (by omega) hne']
theorem JInv.skip {liar : Int} {O : List (Int × Int × List Int)} {il io t : Nat} {ord : Int} (h : JInv liar O il io t ord) (hne : turn ord t = liar) : JInv liar O il io (t + 1) ord :=
  ⟨h.inv, h.hon, h.nl, h.no, fun j hj hn => by
    by_cases hjt : j = t
    · subst hjt; exact absurd hne hn
    · exact h.told j (by omega) hn⟩
/-- A crew that is told is the honest ones'. -/
theorem JInv.crew {liar : Int} {O : List (Int × Int × List Int)} {il io t : Nat} {ord : Int} (h : JInv liar O il io t ord) {e : Int} {m : List Int} (hc : crewOf 1 O e = some m) : e = 2 ∧ m = n0L := by
  have h1 := crew_some hc
  have h2 := tellers_alike (l := dirL) (by decide) h.inv e m
  have h3 : ∃ n ∈ dirL.filter (fun n => decide (ordOf O n e = some m)), n ≠ liar := by
    apply Classical.byContradiction
    intro hno
    have hall : ∀ n ∈ dirL.filter (fun n => decide (ordOf O n e = some m)), n ∈ [liar] := by
      intro n hn
      by_cases hq : n = liar
      · simp [hq]
      · exact absurd ⟨n, hn, hq⟩ hno
    have hnd : (dirL.filter (fun n => decide (ordOf O n e = some m))).Nodup := List.Pairwise.filter _ (by decide)
    have := perm_of_nodup_subset_len hnd hall
    unfold tellers at h2
    rw [h2] at this
    simp at this
    omega
  obtain ⟨n, hn, hne⟩ := h3
  simp only [List.mem_filter, decide_eq_true_eq] at hn
  have := h.hon _ (ordOf_some hn.2) hne
  simp at this
  exact this
theorem JInv.crew2 {liar : Int} {O : List (Int × Int × List Int)} {il io t : Nat} {ord : Int} (h : JInv liar O il io t ord) : crewOf 1 O 2 = none ∨ crewOf 1 O 2 = some n0L := by
  cases hc : crewOf 1 O 2 with
  | none => exact .inl rfl
  | some m => rw [(h.crew hc).2]; exact .inr rfl
theorem JInv.crew13 {liar : Int} {O : List (Int × Int × List Int)} {il io t : Nat} {ord : Int} (h : JInv liar O il io t ord) : crewOf 1 O 1 = none ∧ crewOf 1 O 3 = none := by
  constructor
  · cases hc : crewOf 1 O 1 with
    | none => rfl
    | some m => have := (h.crew hc).1; omega
  · cases hc : crewOf 1 O 3 with
    | none => rfl
    | some m => have := (h.crew hc).1; omega
theorem JInv.done {liar : Int} {O : List (Int × Int × List Int)} {il io t : Nat} {ord : Int} (h : JInv liar O il io t ord) (ht : 4 ≤ t) : crewOf 1 O 2 = some n0L := by
  rcases h.crew2 with hc | hc
  · exfalso
    have h1 := crew_none (by omega : (0 : Int) ≤ 1) 2 O hc n0L
    have h2 := tellers_alike (l := dirL) (by decide) h.inv 2 n0L
    have key : ∀ n, 1 ≤ n → n ≤ 4 → n ≠ liar → ordOf O n 2 = some n0L := by
      intro n h3 h4 hne
      have hj : turn ord ((n - 1 - ord) % 4).toNat = n := by
        unfold turn
        have : 0 ≤ (n - 1 - ord) % 4 := Int.emod_nonneg _ (by omega)
        rw [Int.toNat_of_nonneg this]
        omega
      have := h.told ((n - 1 - ord) % 4).toNat (by omega) (by rw [hj]; exact hne)
      rw [hj] at this
      exact this
    have h5 : 3 ≤ tellers O dirL 2 n0L := by
      unfold tellers dirL
      by_cases l1 : (1 : Int) = liar
      · subst l1
        simp [List.filter_cons, key 2 (by omega) (by omega) (by omega), key 3 (by omega) (by omega) (by omega), key 4 (by omega) (by omega) (by omega)]
        try (split <;> simp)
      · by_cases l2 : (2 : Int) = liar
        · subst l2
          simp [List.filter_cons, key 1 (by omega) (by omega) (by omega), key 3 (by omega) (by omega) (by omega), key 4 (by omega) (by omega) (by omega)]
          try (split <;> simp)
        · by_cases l3 : (3 : Int) = liar
          · subst l3
            simp [List.filter_cons, key 1 (by omega) (by omega) (by omega), key 2 (by omega) (by omega) (by omega), key 4 (by omega) (by omega) (by omega)]
            try (split <;> simp)
          · simp [List.filter_cons, key 1 (by omega) (by omega) l1, key 2 (by omega) (by omega) l2, key 3 (by omega) (by omega) l3]
            try (split <;> simp)
    omega
  · exact hc
end Go.Proofs.Ytldcpnabgpjgiaa.Plain
