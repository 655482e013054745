/-
  Read, whatever it answers.
-/
import Derived.Test.YtdhidcoglioalaaJI
namespace Go.Proofs.Ytdhidcoglioalaa.Walks
open Go.RowKit Plain Jn
set_option linter.unusedVariables false
section
variable {w w' : World} {j : JLoc} {q : PLoc} {J J' : Jn} {P P' : Pl}
theorem jread_any (h : JP w j q J P) (i : Int) : Calls Try.prog 39 #[jv j, .int .i64 i] w fun e w' => (∃ v, e = .returned (.tuple #[v, .int .i64 (readE P J i)]) ∧ ReadV w w' v (readE P J i) (readB P J i)) ∧ JP w' j q (readJ P J i) P ∧ Only (j.R q) w w' := by
  cases hb : J.broken with
  | true =>
    have e1 : readE P J i = 50 := by unfold readE; rw [hb]; simp
    have e2 : readJ P J i = J := by unfold readJ; rw [hb]; simp
    rw [e1, e2]
    refine Calls.mono (read_broken h i hb) ?_
    rintro e w' ⟨rfl, rfl⟩
    exact ⟨⟨_, rfl, by unfold ReadV; rw [if_neg (by omega)]⟩, h, Only.refl _ _⟩
  | false =>
    by_cases h0 : i < 0
    · have e1 : readE P J i = 9 := by unfold readE; rw [hb]; simp [h0]
      have e2 : readJ P J i = J := by unfold readJ; rw [hb]; simp [h0]
      rw [e1, e2]
      refine Calls.mono (read_neg h i hb h0) ?_
      rintro e w' ⟨rfl, rfl⟩
      exact ⟨⟨_, rfl, by unfold ReadV; rw [if_neg (by omega)]⟩, h, Only.refl _ _⟩
    · by_cases h1 : (J.blocks P.n : Int) ≤ i
      · have e1 : readE P J i = 9 := by unfold readE; rw [hb]; simp [h1]
        have e2 : readJ P J i = J := by unfold readJ; rw [hb]; simp [h1]
        rw [e1, e2]
        refine Calls.mono (read_high h i hb (by omega) h1) ?_
        rintro e w' ⟨rfl, n, rfl⟩
        exact ⟨⟨_, rfl, by unfold ReadV; rw [if_neg (by omega)]⟩, h.drewN n, (Only.refl _ _).drewN n⟩
      · obtain ⟨k, rfl⟩ : ∃ k : Nat, i = k := ⟨i.toNat, by omega⟩
        have hk : k < J.blocks P.n := by omega
        have hno : ¬ ((k : Int) < 0 ∨ (J.blocks P.n : Int) ≤ (k : Int)) := by omega
        have hbl : J.blocks P.n = P.n - 2 - J.log := by unfold Jn.blocks; rw [hb]; simp
        have hhome : J.home k < P.n := by unfold Jn.home; have := h.ok.logn; omega
        cases hp : J.pend k with
        | some b =>
          have e1 : readE P J k = 0 := by unfold readE; rw [hb, if_neg hno, Int.toNat_natCast, hp]; simp
          have e2 : readJ P J k = J := by unfold readJ; rw [hb, if_neg hno, Int.toNat_natCast, hp]; simp
          have e3 : readB P J k = b := by unfold readB; rw [Int.toNat_natCast, hp]
          rw [e1, e2, e3]
          refine Calls.mono (read_pend h k hb hk hp) ?_
          rintro e w' ⟨⟨g, rfl, h2, h3, h4⟩, hj, hbe⟩
          exact ⟨⟨_, rfl, by unfold ReadV; rw [if_pos rfl]; exact ⟨g, 0, rfl, h2, h3, h4⟩⟩, hj, Only.of_below hbe⟩
        | none =>
          have e3 : readB P J k = homeB (P.seen (J.home k)) := by unfold readB; rw [Int.toNat_natCast, hp]
          cases hd : P.dead with
          | true =>
            have hh : P.has (J.home k : Nat) = 50 := by unfold Pl.has; rw [hd]; simp
            have e1 : readE P J k = 50 := by unfold readE; rw [hb, if_neg hno, Int.toNat_natCast, hp]; simp [hh]
            have e2 : readJ P J k = J.brk := by unfold readJ; rw [hb, if_neg hno, Int.toNat_natCast, hp]; simp [hh]
            rw [e1, e2]
            refine Calls.mono (read_dead h k hb hk hp hd) ?_
            rintro e w' ⟨rfl, hj, ho⟩
            exact ⟨⟨_, rfl, by unfold ReadV; rw [if_neg (by omega)]⟩, hj, ho⟩
          | false =>
            have hh : P.has (J.home k : Nat) = 0 := by unfold Pl.has; rw [hd, if_neg (by simp), if_neg (by omega)]
            have e1 : readE P J k = homeE (P.seen (J.home k)) k := by unfold readE; rw [hb, if_neg hno, Int.toNat_natCast, hp]; simp [hh]
            have e2 : readJ P J k = J := by unfold readJ; rw [hb, if_neg hno, Int.toNat_natCast, hp]; simp [hh]
            rw [e1, e2, e3]
            cases hk1 : isBlank (P.seen (J.home k)) with
            | true =>
              have e4 : homeE (P.seen (J.home k)) k = 0 := by unfold homeE; rw [hk1]; simp
              have e5 : homeB (P.seen (J.home k)) = zeroB := by unfold homeB; rw [hk1]; simp
              rw [e4, e5]
              refine Calls.mono (read_blank h k hb hk hp hd hk1) ?_
              rintro e w' ⟨⟨g, rfl, h2, h3, h4⟩, hj, hbe⟩
              exact ⟨⟨_, rfl, by unfold ReadV; rw [if_pos rfl]; exact ⟨g, 0, rfl, h2, h3, h4⟩⟩, hj, Only.of_below hbe⟩
            | false =>
              have e5 : homeB (P.seen (J.home k)) = (parseS (P.seen (J.home k))).data := by unfold homeB; rw [hk1]; simp
              have bad : homeE (P.seen (J.home k)) k = 70 → (Calls Try.prog 39 #[jv j, .int .i64 k] w fun e w' => e = .returned (.tuple #[.slice none 0 0, .int .i64 70]) ∧ JP w' j q J P ∧ Below w.heap.size w w') →
                  Calls Try.prog 39 #[jv j, .int .i64 k] w fun e w' => (∃ v, e = .returned (.tuple #[v, .int .i64 (homeE (P.seen (J.home k)) k)]) ∧ ReadV w w' v (homeE (P.seen (J.home k)) k) (homeB (P.seen (J.home k)))) ∧ JP w' j q J P ∧ Only (j.R q) w w' := fun e hc => by
                rw [e]
                refine Calls.mono hc ?_
                rintro e w' ⟨rfl, hj, hbe⟩
                exact ⟨⟨_, rfl, by unfold ReadV; rw [if_neg (by omega)]⟩, hj, Only.of_below hbe⟩
              cases hok : parseOk (P.seen (J.home k)) with
              | false => exact bad (by unfold homeE; rw [hk1, hok]; simp) (read_bad1 h k hb hk hp hd hk1 hok)
              | true =>
                cases h2 : ((parseS (P.seen (J.home k))).kind != 4) with
                | true => exact bad (by unfold homeE; rw [hk1, hok, h2]; simp) (read_bad2 h k hb hk hp hd hk1 hok h2)
                | false =>
                  cases h3 : ((parseS (P.seen (J.home k))).turn != 0) with
                  | true => exact bad (by unfold homeE; rw [hk1, hok, h2, h3]; simp) (read_bad3 h k hb hk hp hd hk1 hok h2 h3)
                  | false =>
                    cases h4 : ((parseS (P.seen (J.home k))).number != (k : Int)) with
                    | true => exact bad (by unfold homeE; rw [hk1, hok, h2, h3, h4]; simp) (read_bad4 h k hb hk hp hd hk1 hok h2 h3 h4)
                    | false =>
                      have e4 : homeE (P.seen (J.home k)) k = 0 := by unfold homeE; rw [hk1, hok, h2, h3, h4]; simp
                      rw [e4, e5]
                      refine Calls.mono (read_good h k hb hk hp hd hk1 hok h2 h3 h4) ?_
                      rintro e w' ⟨⟨g, rfl, h2, h3, h4⟩, hj, hbe⟩
                      exact ⟨⟨_, rfl, by unfold ReadV; rw [if_pos rfl]; exact ⟨g, 3, rfl, h2, h3, h4⟩⟩, hj, Only.of_below hbe⟩
end
end Go.Proofs.Ytdhidcoglioalaa.Walks
