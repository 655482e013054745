/-
  Works on a plate that may fail: all are done, or the power goes.
-/
import Derived.Test.YtdhidcoglioalaaJrnQ
namespace Go.Proofs.Ytdhidcoglioalaa.Plain
/-- What waits when these were written; what all then have. -/
def ovl (l : List (Nat × Sec)) : Nat → Option Sec := l.foldl (fun f x => upd f x.1 (some x.2)) (fun _ => none)
def setAll (S : Nat → Sec) (l : List (Nat × Sec)) : Nat → Sec := fun i => (ovl l i).getD (S i)
theorem ovl_snoc (l : List (Nat × Sec)) (x : Nat × Sec) : ovl (l ++ [x]) = upd (ovl l) x.1 (some x.2) := by simp [ovl]
theorem ovl_mem : ∀ (l : List (Nat × Sec)) {i : Nat} {s : Sec}, ovl l i = some s → (i, s) ∈ l := by
  intro l
  induction l using snoc_ind with
  | nil => intro i s h; cases h
  | append_singleton l x ih =>
    intro i s h
    rw [ovl_snoc] at h
    by_cases e : i = x.1
    · rw [e, upd_same] at h
      cases h
      rw [e]
      simp
    · rw [upd_other _ _ e] at h
      exact List.mem_append_left _ (ih h)
theorem ovl_none : ∀ (l : List (Nat × Sec)) {i : Nat}, (∀ x ∈ l, x.1 ≠ i) → ovl l i = none := by
  intro l i h
  cases e : ovl l i with
  | none => rfl
  | some s => exact absurd rfl (h _ (ovl_mem l e))
theorem ovl_some : ∀ (l : List (Nat × Sec)) {x : Nat × Sec}, (l.map (·.1)).Nodup → x ∈ l → ovl l x.1 = some x.2 := by
  intro l
  induction l using snoc_ind with
  | nil => intro x _ h; cases h
  | append_singleton l y ih =>
    intro x hn hx
    rw [ovl_snoc]
    rw [List.map_append, List.nodup_append] at hn
    obtain ⟨h1, _, h3⟩ := hn
    rcases List.mem_append.1 hx with hx | hx
    · have hne : x.1 ≠ y.1 := h3 x.1 (List.mem_map.2 ⟨x, hx, rfl⟩) y.1 (by simp)
      rw [upd_other _ _ hne]
      exact ih h1 hx
    · simp only [List.mem_singleton] at hx
      rw [hx, upd_same]
theorem setAll_in {S : Nat → Sec} {l : List (Nat × Sec)} {x : Nat × Sec} (hn : (l.map (·.1)).Nodup) (hx : x ∈ l) : setAll S l x.1 = x.2 := by
  unfold setAll; rw [ovl_some l hn hx]; rfl
theorem setAll_out {S : Nat → Sec} {l : List (Nat × Sec)} {i : Nat} (h : ∀ x ∈ l, x.1 ≠ i) : setAll S l i = S i := by
  unfold setAll; rw [ovl_none l h]; rfl
theorem setAll_or (S : Nat → Sec) (l : List (Nat × Sec)) (i : Nat) : setAll S l i = S i ∨ (i, setAll S l i) ∈ l := by
  unfold setAll
  cases e : ovl l i with
  | none => exact .inl rfl
  | some s => exact .inr (ovl_mem l e)

/-- A sector that has no bytes beyond its own. -/
def Neat (s : Sec) : Prop := secOf (bytesOf s) = s
theorem neat_pack (s : Sct) : Neat (packS s) := by unfold Neat packS; rw [bytesOf_secOf (packL_length s)]
theorem neat_zero : Neat zeroS := by
  funext j
  unfold secOf
  by_cases hj : j < 64
  · rw [List.getD_eq_getElem?_getD]; simp [bytesOf, hj]
  · rw [List.getD_eq_getElem?_getD, List.getElem?_eq_none (by rw [bytesOf_length]; omega)]; rfl

/-- A plate that is alive, with such sectors, of which some wait. -/
structure Live (P : Pl) (S : Nat → Sec) (W : Nat → Option Sec) : Prop where
  dead : P.dead = false
  stays : P.stays = S
  waits : P.waits = W
/-- .. that can do so many doings. -/
def Can (P : Pl) (m : Nat) : Prop := P.fails = true → (m : Int) ≤ P.left
def wrs (l : List (Nat × Sec)) : List Wk := l.map fun x => Wk.wr x.1 x.2
/-- Behind so many doings. -/
def spent (P : Pl) (m : Nat) : Pl := if P.fails then { P with left := P.left - m } else P
theorem spent_zero (P : Pl) : spent P 0 = P := by unfold spent; split <;> simp
theorem has_live {P : Pl} (hd : P.dead = false) {i : Nat} (hi : i < P.n) : P.has i = 0 := by unfold Pl.has; rw [hd, if_neg (by simp), if_neg (by omega)]
theorem goes_can {P : Pl} (h : Can P 1) : P.goes = false ∧ P.did = spent P 1 := by
  unfold Pl.goes Pl.did spent
  cases hf : P.fails
  · simp
  · have := h hf
    have h0 : 0 < P.left := by omega
    simp [h0]
theorem goes_not {P : Pl} (h : ¬ Can P 1) : P.goes = true ∧ P.did = P.gone P.keep ∧ P.fails = true := by
  unfold Can at h
  have hf : P.fails = true := Classical.byContradiction fun h' => h (fun h2 => absurd h2 h')
  have hl : ¬ 0 < P.left := fun h' => h (fun _ => by omega)
  unfold Pl.goes Pl.did
  rw [hf]
  simp [hl]
theorem write_can {P : Pl} (hd : P.dead = false) {i : Nat} (hi : i < P.n) {s : Sec} (hs : Neat s) (h : Can P 1) :
    (Wk.wr i s).err P = 0 ∧ (Wk.wr i s).act P = { spent P 1 with waits := upd (spent P 1).waits i (some s) } := by
  obtain ⟨h1, h2⟩ := goes_can h
  constructor
  · show P.writeE _ _ = 0
    unfold Pl.writeE
    rw [has_live hd hi, bytesOf_length, h1]
    simp
  · show P.write _ _ = _
    unfold Pl.write
    rw [has_live hd hi, bytesOf_length, h1, h2, hs]
    simp
theorem write_not {P : Pl} (hd : P.dead = false) {i : Nat} (hi : i < P.n) {s : Sec} (h : ¬ Can P 1) : (Wk.wr i s).err P = 50 ∧ (Wk.wr i s).act P = P.gone P.keep := by
  obtain ⟨h1, h2, _⟩ := goes_not h
  constructor
  · show P.writeE _ _ = 50
    unfold Pl.writeE
    rw [has_live hd hi, bytesOf_length, h1]
    simp
  · show P.write _ _ = _
    unfold Pl.write
    rw [has_live hd hi, bytesOf_length, h1, h2]
    simp
theorem flush_can {P : Pl} (hd : P.dead = false) (h : Can P 1) : Wk.fl.err P = 0 ∧ Wk.fl.act P = (spent P 1).settled := by
  obtain ⟨h1, h2⟩ := goes_can h
  constructor
  · show P.flushE = 0
    unfold Pl.flushE
    rw [hd, h1]; simp
  · show P.flush = _
    unfold Pl.flush
    rw [hd, h1, h2]; simp
theorem flush_not {P : Pl} (hd : P.dead = false) (h : ¬ Can P 1) : Wk.fl.err P = 50 ∧ Wk.fl.act P = P.gone P.keep := by
  obtain ⟨h1, h2, _⟩ := goes_not h
  constructor
  · show P.flushE = 50
    unfold Pl.flushE
    rw [hd, h1]; simp
  · show P.flush = _
    unfold Pl.flush
    rw [hd, h1, h2]; simp
/-- The power went while some of these were written. -/
structure Fell (P : Pl) (S : Nat → Sec) (l : List (Nat × Sec)) : Prop where
  dead : P.dead = true
  fails : P.fails = false
  waits : P.waits = fun _ => none
  some_ : ∀ i, P.stays i = S i ∨ (i, P.stays i) ∈ l
theorem fell_gone {P : Pl} {S : Nat → Sec} {l : List (Nat × Sec)} (h : Live P S (ovl l)) : Fell (P.gone P.keep) S l := by
  refine ⟨rfl, rfl, rfl, fun i => ?_⟩
  show P.goneAt P.keep i = _ ∨ (i, P.goneAt P.keep i) ∈ _
  unfold Pl.goneAt
  rw [h.stays, h.waits]
  cases e : ovl l i with
  | none => exact .inl rfl
  | some s =>
    simp only
    split
    · exact .inr (ovl_mem l e)
    · exact .inl rfl
theorem Fell.more {P : Pl} {S : Nat → Sec} {l k : List (Nat × Sec)} (h : Fell P S l) (hs : ∀ x ∈ l, x ∈ k) : Fell P S k := ⟨h.dead, h.fails, h.waits, fun i => (h.some_ i).imp id (hs _)⟩
theorem spent_live {P : Pl} {S : Nat → Sec} {W : Nat → Option Sec} (h : Live P S W) (m : Nat) : Live (spent P m) S W := by
  unfold spent; split
  · exact ⟨h.dead, h.stays, h.waits⟩
  · exact h
theorem spent_spent (P : Pl) (a b : Nat) : spent (spent P a) b = spent P (a + b) := by
  unfold spent
  cases hf : P.fails
  · simp [hf]
  · simp only [if_true]
    congr 1
    omega
theorem can_spent {P : Pl} {a b : Nat} : Can (spent P a) b ↔ (P.fails = true → (a + b : Int) ≤ P.left) := by
  unfold Can spent
  cases hf : P.fails
  · simp [hf]
  · simp only [if_true, true_implies]; omega
theorem spent_n (P : Pl) (a : Nat) : (spent P a).n = P.n := by unfold spent; split <;> rfl
theorem spent_fails (P : Pl) (a : Nat) : (spent P a).fails = P.fails := by unfold spent; split <;> rfl
theorem spent_waits (P : Pl) (a : Nat) (W : Nat → Option Sec) : ({ spent P a with waits := W } : Pl) = spent { P with waits := W } a := by
  unfold spent
  cases hf : P.fails <;> simp [hf]
/-- Some writes. -/
theorem run_wrs (S : Nat → Sec) : ∀ (l k : List (Nat × Sec)) (P : Pl), Live P S (ovl k) → Can P 0 → (∀ x ∈ l, x.1 < P.n ∧ Neat x.2) →
    (Can P l.length → runE (wrs l) P = 0 ∧ runP (wrs l) P = spent { P with waits := ovl (k ++ l) } l.length) ∧
    (¬ Can P l.length → runE (wrs l) P = 50 ∧ Fell (runP (wrs l) P) S (k ++ l)) := by
  intro l
  induction l with
  | nil =>
    intro k P h h0 _
    refine ⟨fun _ => ⟨rfl, ?_⟩, fun hc => absurd h0 hc⟩
    simp only [List.append_nil, List.length_nil, spent_zero]
    show P = _
    rw [← h.waits]
  | cons x l ih =>
    intro k P h _ hl
    have hx := hl x (by simp)
    by_cases h1 : Can P 1
    · obtain ⟨e1, e2⟩ := write_can h.dead hx.1 hx.2 h1
      have hL : Live ((Wk.wr x.1 x.2).act P) S (ovl (k ++ [x])) := by
        rw [e2]
        have hs := spent_live h 1
        exact ⟨hs.dead, hs.stays, by rw [ovl_snoc, ← hs.waits]⟩
      have hn : ((Wk.wr x.1 x.2).act P).n = P.n := act_n _ _
      have h00 : Can ((Wk.wr x.1 x.2).act P) 0 := by
        have : Can ((Wk.wr x.1 x.2).act P) 0 ↔ Can (spent P 1) 0 := by rw [e2]; exact Iff.rfl
        rw [this, can_spent]
        intro hf
        have := h1 hf
        omega
      obtain ⟨i1, i2⟩ := ih (k ++ [x]) _ hL h00 (fun y hy => by rw [hn]; exact hl y (by simp [hy]))
      have hcan : Can ((Wk.wr x.1 x.2).act P) l.length ↔ Can P (l.length + 1) := by
        have : Can ((Wk.wr x.1 x.2).act P) l.length ↔ Can (spent P 1) l.length := by rw [e2]; exact Iff.rfl
        rw [this, can_spent]
        unfold Can
        constructor <;> intro h hf <;> have := h hf <;> omega
      have er : runE (wrs (x :: l)) P = runE (wrs l) ((Wk.wr x.1 x.2).act P) := by
        show runE (Wk.wr x.1 x.2 :: wrs l) P = _
        simp only [runE, e1, ne_eq, not_true_eq_false, if_false]
      have ep : runP (wrs (x :: l)) P = runP (wrs l) ((Wk.wr x.1 x.2).act P) := by
        show runP (Wk.wr x.1 x.2 :: wrs l) P = _
        simp only [runP, e1, ne_eq, not_true_eq_false, if_false]
      rw [er, ep]
      rw [List.append_assoc, List.singleton_append] at i1 i2
      constructor
      · intro hc
        obtain ⟨j1, j2⟩ := i1 (hcan.2 hc)
        refine ⟨j1, ?_⟩
        rw [j2, e2]
        show spent ({ spent P 1 with waits := _ } : Pl) l.length = _
        rw [spent_waits, spent_spent, Nat.add_comm]
        rfl
      · intro hc
        exact i2 (fun h' => hc (hcan.1 h'))
    · obtain ⟨e1, e2⟩ := write_not h.dead hx.1 h1 (s := x.2)
      have er : runE (wrs (x :: l)) P = 50 := by
        show runE (Wk.wr x.1 x.2 :: wrs l) P = _
        simp only [runE, e1]
        rfl
      have ep : runP (wrs (x :: l)) P = P.gone P.keep := by
        show runP (Wk.wr x.1 x.2 :: wrs l) P = _
        simp only [runP, e1, e2]
        rfl
      constructor
      · intro hc
        exact absurd (fun hf => by have := hc hf; simp only [List.length_cons] at this; omega) h1
      · intro _
        rw [er, ep]
        exact ⟨rfl, (fell_gone h).more (fun y hy => List.mem_append_left _ hy)⟩
/-- Some writes, and a flush. -/
theorem run_phase {S : Nat → Sec} {l : List (Nat × Sec)} {P : Pl} (h : Live P S (fun _ => none)) (hl : ∀ x ∈ l, x.1 < P.n ∧ Neat x.2) (h0 : Can P 0) :
    (Can P (l.length + 1) → runE (wrs l ++ [.fl]) P = 0 ∧ runP (wrs l ++ [.fl]) P = { spent P (l.length + 1) with stays := setAll S l, waits := fun _ => none }) ∧
    (¬ Can P (l.length + 1) → runE (wrs l ++ [.fl]) P = 50 ∧ Fell (runP (wrs l ++ [.fl]) P) S l) := by
  have hC : ∀ {m : Nat}, Can P (m + 1) → Can P m := fun hc hf => by have := hc hf; omega
  obtain ⟨i1, i2⟩ := run_wrs S l [] P (by exact h) h0 hl
  rw [List.nil_append] at i1 i2
  rw [runE_append, runP_append]
  by_cases hc : Can P l.length
  · obtain ⟨e1, e2⟩ := i1 hc
    rw [e1, e2]
    simp only [ne_eq, not_true_eq_false, if_false]
    have hL : Live (spent { P with waits := ovl l } l.length) S (ovl l) := spent_live (P := { P with waits := ovl l }) (S := S) (W := ovl l) ⟨h.dead, h.stays, rfl⟩ _
    have hc1 : Can (spent { P with waits := ovl l } l.length) 1 ↔ Can P (l.length + 1) := by
      rw [can_spent]
      unfold Can
      constructor <;> intro h hf <;> have := h hf <;> simp only at * <;> omega
    constructor
    · intro h1
      obtain ⟨f1, f2⟩ := flush_can hL.dead (hc1.2 h1)
      simp only [runE, runP, f1, f2, ne_eq, not_true_eq_false, if_false]
      refine ⟨trivial, ?_⟩
      rw [spent_spent]
      unfold Pl.settled
      have hS : (spent { P with waits := ovl l } (l.length + 1)).seen = setAll S l := by
        have := spent_live (P := { P with waits := ovl l }) (S := S) (W := ovl l) ⟨h.dead, h.stays, rfl⟩ (l.length + 1)
        funext i
        unfold Pl.seen setAll
        rw [this.stays, this.waits]
      rw [hS]
      unfold spent
      cases hf : P.fails <;> simp [hf]
    · intro h1
      obtain ⟨f1, f2⟩ := flush_not hL.dead (fun h' => h1 (hc1.1 h'))
      simp only [runE, runP, f1, f2]
      exact ⟨rfl, fell_gone hL⟩
  · obtain ⟨e1, e2⟩ := i2 hc
    rw [e1]
    simp only [ne_eq, show ¬ ((50 : Int) = 0) by decide, not_false_eq_true, if_true]
    exact ⟨fun h' => absurd (hC h') hc, fun _ => ⟨trivial, e2⟩⟩
end Go.Proofs.Ytdhidcoglioalaa.Plain
