/-
  Plain: what counts stays, whatever is told behind it.
-/
import Derived.Test.YtldcpnabgpjgiaaHandP
namespace Go.Proofs.Ytldcpnabgpjgiaa.Plain
set_option linter.unusedVariables false

theorem crew_stays {f e : Int} {l m m' : List Int} {O : List (Int × Int × List Int)} {n' e' : Int} (h : crewOf f O e = some m) : crewOf f (orderO f l O n' e' m') e = some m := by
  unfold orderO
  split
  · rw [crewOf_snoc, h]
  · exact h
theorem end_stays {f : Int} {l : List Int} {E : List (Int × Int × Int × Int)} {n e n' e' s r : Int} {x : Int × Int} (h : endOf E n e = some x) : endOf (sealO f l E n' e' s r) n e = some x := by
  unfold sealO
  split
  · rw [endOf_snoc, h]
  · exact h
/-- The three ends that were told first. -/
def Three (E : List (Int × Int × Int × Int)) : Prop := endOf E 5 0 = some (9, 1) ∧ endOf E 6 0 = some (9, 1) ∧ endOf E 7 0 = some (9, 1)
theorem Three.seal {E : List (Int × Int × Int × Int)} (h : Three E) (f : Int) (l : List Int) (n e s r : Int) : Three (sealO f l E n e s r) := ⟨end_stays h.1, end_stays h.2.1, end_stays h.2.2⟩
theorem Three.ends {E : List (Int × Int × Int × Int)} (h : Three E) : endIs E 1 [5, 6, 7, 8] 0 = some (9, 1) := by
  obtain ⟨h5, h6, h7⟩ := h
  have hg : goodC 1 [5, 6, 7, 8] = true := by decide
  have hn : (3 : Int) ≤ (enders E [5, 6, 7, 8] 0 (9, 1) : Int) := by
    unfold enders
    simp only [List.filter_cons, h5, h6, h7, decide_true, if_true]
    split <;> simp
  unfold endIs
  rw [if_pos hg]
  unfold endTo
  rw [h5]
  exact if_pos hn
def endS (k : Nat) : List (Int × Int × Int × Int) := (List.range k).map fun (i : Nat) => ((5 : Int) + (i : Int), (0 : Int), (9 : Int), (1 : Int))
theorem endS_step : ∀ k, k < 3 → sealE 1 [5, 6, 7, 8] (endS k) (5 + (k : Int)) 0 9 = 0 ∧ sealO 1 [5, 6, 7, 8] (endS k) (5 + (k : Int)) 0 9 1 = endS (k + 1) := by decide +kernel
theorem endS_three : Three (endS 3) := by unfold Three; decide +kernel
end Go.Proofs.Ytldcpnabgpjgiaa.Plain
