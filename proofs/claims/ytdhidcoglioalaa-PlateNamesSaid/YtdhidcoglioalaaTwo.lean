/-
  Both plates, the program's and the document's, side by side.
-/
import Derived.Test.YtdhidcoglioalaaRefH
namespace Go.Proofs.Ytdhidcoglioalaa.Walks
open Go.RowKit Plain
set_option linter.unusedVariables false

/-- A plate that is dead has nothing that waits. -/
def DW (P : Pl) : Prop := P.dead = true → ∀ i, P.waits i = none
theorem dw_gone (P : Pl) (keep : List Bool) : DW (P.gone keep) := fun _ _ => rfl
theorem dw_live {P : Pl} (h : P.dead = false) : DW P := fun h' => by rw [h] at h'; cases h'
theorem dw_did {P : Pl} (h : DW P) : DW P.did := by
  unfold Pl.did
  split
  · split
    · exact h
    · exact dw_gone _ _
  · exact h
theorem goes_did {P : Pl} (h : P.goes = false) : P.did.dead = P.dead := by
  unfold Pl.goes at h
  unfold Pl.did
  cases hf : P.fails
  · rfl
  · by_cases hl : 0 < P.left
    · simp [hl]
    · simp [hf, hl] at h
theorem dw_write {P : Pl} (h : DW P) (i : Int) (b : List Byte) : DW (P.write i b) := by
  unfold Pl.write
  split
  · exact h
  · rename_i h0
    split
    · exact h
    · split
      · exact dw_did h
      · rename_i hg
        refine dw_live ?_
        show P.did.dead = false
        rw [goes_did (by simpa using hg)]
        exact (Pl.has_zero (Classical.not_not.1 h0)).1
theorem dw_flush {P : Pl} (h : DW P) : DW P.flush := by
  unfold Pl.flush
  split
  · exact h
  · split
    · exact dw_did h
    · exact fun _ _ => rfl
theorem dw_crash {P : Pl} (h : DW P) (keep : List Bool) : DW (P.crash keep) := by
  unfold Pl.crash
  split
  · exact h
  · exact dw_gone _ _
theorem dw_boot (P : Pl) : DW P.boot := dw_live rfl
theorem dw_fail {P : Pl} (h : DW P) (n : Int) (keep : List Bool) : DW (P.fail n keep) := by
  unfold Pl.fail
  split
  · exact h
  · exact h
theorem dw_turn {P : Pl} (h : DW P) (i bit : Int) : DW (P.turn i bit) := by
  unfold Pl.turn
  split
  · exact h
  · rename_i h0
    refine dw_live ?_
    show P.dead = false
    have h1 := Classical.not_not.1 h0
    unfold Pl.turnE at h1
    split at h1
    · rename_i h2; exact absurd h1 h2
    · rename_i h2; exact (Pl.has_zero (Classical.not_not.1 h2)).1
theorem wsD_eq {P : Pl} (h : DW P) : wsD P = P.ws := by
  unfold wsD
  split
  · rename_i hd
    unfold Pl.ws
    rw [eq_comm, List.filter_eq_nil_iff]
    intro j _
    rw [h hd j]
    simp
  · rfl
structure Mix (w w' : World) (q : PLoc) (r : RLoc) (P P' : Pl) : Prop where
  pl : PlateAt w' q P
  rf : RefAt w' r P'
  be : Below w.heap.size w w'
  ge : ∀ b ∈ q.R, w.heap.size ≤ b
  ge' : ∀ b ∈ r.R, w.heap.size ≤ b
  bq : ∀ b ∈ r.R, b ∈ q.ban
  br : ∀ b ∈ q.R, b ∈ r.ban
  dis : ∀ b ∈ q.R, b ∉ r.R
abbrev Two (w w' : World) (q : PLoc) (r : RLoc) (P : Pl) : Prop := Mix w w' q r P P
section
variable {w w1 w2 : World} {q : PLoc} {r : RLoc} {P P' Q : Pl}
theorem Mix.first (h : Mix w w1 q r P P') (hp : PlateAt w2 q Q) (ho : Only q.R w1 w2) : Mix w w2 q r Q P' :=
  ⟨hp, ⟨h.rf.x.other ho (fun b hb => ⟨h.br b hb, h.dis b hb⟩), h.rf.ok⟩, Only.below h.be ho h.ge (Nat.le_refl _), h.ge, h.ge', h.bq, h.br, h.dis⟩
theorem Mix.second (h : Mix w w1 q r P P') (hr : RefAt w2 r Q) (ho : Only r.R w1 w2) : Mix w w2 q r P Q :=
  ⟨h.pl.only ho (fun b hb hm => h.dis b hb hm) (fun a hn hB => Only.bools ho (fun h0 ad e hm => (hn h0 ad e).2 (h.bq _ hm)) hB), hr, Only.below h.be ho h.ge' (Nat.le_refl _), h.ge, h.ge', h.bq, h.br, h.dis⟩
theorem Mix.below (h : Mix w w1 q r P P') (hb : Below w1.heap.size w1 w2) : Mix w w2 q r P P' :=
  ⟨h.pl.below hb, ⟨h.rf.x.below hb, h.rf.ok⟩, Below.step h.be hb, h.ge, h.ge', h.bq, h.br, h.dis⟩
theorem Mix.reban (h : Mix w w1 q r P P') (hb : Below w1.heap.size w1 w2) {X : List Nat} (hX : ∀ x ∈ X, w1.heap.size ≤ x ∧ x < w2.heap.size) : Mix w w2 (q.banX X) (r.banX X) P P' :=
  ⟨h.pl.reban hb hX, ⟨h.rf.x.reban hb hX, h.rf.ok⟩, Below.step h.be hb, h.ge, h.ge', fun b hm => List.mem_append_right _ (h.bq b hm), fun b hm => List.mem_append_right _ (h.br b hm), h.dis⟩
theorem Mix.unban {X : List Nat} (h : Mix w w2 (q.banX X) (r.banX X) P P') (h0 : Mix w w1 q r Q Q) : Mix w w2 q r P P' :=
  ⟨h.pl.unban, ⟨h.rf.x.unban, h.rf.ok⟩, h.be, h.ge, h.ge', h0.bq, h0.br, h.dis⟩
/-- A block that is banned is written over. -/
theorem Mix.poke (h : Mix w w1 q r P P') {g : Nat} (ho : Only [g] w1 w2) (hq : g ∈ q.ban) (hr : g ∈ r.ban) (hnq : g ∉ q.R) (hnr : g ∉ r.R) (hg : w.heap.size ≤ g) : Mix w w2 q r P P' :=
  ⟨h.pl.only ho (fun b hb hm => hnq (by simp at hm; exact hm ▸ hb)) (fun a hn hB => Only.bools ho (fun h0 ad e hm => (hn h0 ad e).2 (by simp at hm; rw [hm]; exact hq)) hB),
   ⟨h.rf.x.other ho (fun b hb => by simp at hb; subst hb; exact ⟨hr, hnr⟩), h.rf.ok⟩, Only.below h.be ho (fun x hx => by simp at hx; subst hx; exact hg) (Nat.le_refl _), h.ge, h.ge', h.bq, h.br, h.dis⟩
end
end Go.Proofs.Ytdhidcoglioalaa.Walks
