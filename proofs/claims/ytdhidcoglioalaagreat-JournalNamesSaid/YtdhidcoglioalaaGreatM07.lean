/-
  Works on a plate that may fail: all are done, or the power goes.
  What a plate has that holds a journal; it is opened as it is.
-/
import Derived.Test.YtdhidcoglioalaaGreatM06
namespace Go.Proofs.YtdhidcoglioalaaGreat.Plain
/-- What waits when these were written; what all then have. -/
def ovl (l : List (Nat × Sec)) : Nat → Option Sec := l.foldl (fun f x => upd f x.1 (some x.2)) (fun _ => none)
def setAll (S : Nat → Sec) (l : List (Nat × Sec)) : Nat → Sec := fun i => (ovl l i).getD (S i)
theorem ovl_snoc (l : List (Nat × Sec)) (x : Nat × Sec) : ovl (l ++ [x]) = upd (ovl l) x.1 (some x.2) := by simp [ovl]
theorem ovl_mem : ∀ (l : List (Nat × Sec)) {i : Nat} {s : Sec}, ovl l i = some s → (i, s) ∈ l := by
  intro l
  induction l using snoc_ind with
  | nil => intro i s h; cases h
  | append_singleton l x ih =>
    intro i s h
    rw [ovl_snoc] at h
    by_cases e : i = x.1
    · rw [e, upd_same] at h
      cases h
      rw [e]
      simp
    · rw [upd_other _ _ e] at h
      exact List.mem_append_left _ (ih h)
theorem ovl_none : ∀ (l : List (Nat × Sec)) {i : Nat}, (∀ x ∈ l, x.1 ≠ i) → ovl l i = none := by
  intro l i h
  cases e : ovl l i with
  | none => rfl
  | some s => exact absurd rfl (h _ (ovl_mem l e))
theorem ovl_some : ∀ (l : List (Nat × Sec)) {x : Nat × Sec}, (l.map (·.1)).Nodup → x ∈ l → ovl l x.1 = some x.2 := by
  intro l
  induction l using snoc_ind with
  | nil => intro x _ h; cases h
  | append_singleton l y ih =>
    intro x hn hx
    rw [ovl_snoc]
    rw [List.map_append, List.nodup_append] at hn
    obtain ⟨h1, _, h3⟩ := hn
    rcases List.mem_append.1 hx with hx | hx
    · have hne : x.1 ≠ y.1 := h3 x.1 (List.mem_map.2 ⟨x, hx, rfl⟩) y.1 (by simp)
      rw [upd_other _ _ hne]
      exact ih h1 hx
    · simp only [List.mem_singleton] at hx
      rw [hx, upd_same]
theorem setAll_in {S : Nat → Sec} {l : List (Nat × Sec)} {x : Nat × Sec} (hn : (l.map (·.1)).Nodup) (hx : x ∈ l) : setAll S l x.1 = x.2 := by
  unfold setAll; rw [ovl_some l hn hx]; rfl
theorem setAll_out {S : Nat → Sec} {l : List (Nat × Sec)} {i : Nat} (h : ∀ x ∈ l, x.1 ≠ i) : setAll S l i = S i := by
  unfold setAll; rw [ovl_none l h]; rfl
theorem setAll_or (S : Nat → Sec) (l : List (Nat × Sec)) (i : Nat) : setAll S l i = S i ∨ (i, setAll S l i) ∈ l := by
  unfold setAll
  cases e : ovl l i with
  | none => exact .inl rfl
  | some s => exact .inr (ovl_mem l e)

/-- A sector that has no bytes beyond its own. -/
def Neat (s : Sec) : Prop := secOf (bytesOf s) = s
theorem neat_pack (s : Sct) : Neat (packS s) := by unfold Neat packS; rw [bytesOf_secOf (packL_length s)]
theorem neat_zero : Neat zeroS := by
  funext j
  unfold secOf
  by_cases hj : j < 64
  · rw [List.getD_eq_getElem?_getD]; simp [bytesOf, hj]
  · rw [List.getD_eq_getElem?_getD, List.getElem?_eq_none (by rw [bytesOf_length]; omega)]; rfl

/-- A plate that is alive, with such sectors, of which some wait. -/
structure Live (P : Pl) (S : Nat → Sec) (W : Nat → Option Sec) : Prop where
  dead : P.dead = false
  stays : P.stays = S
  waits : P.waits = W
/-- .. that can do so many doings. -/
def Can (P : Pl) (m : Nat) : Prop := P.fails = true → (m : Int) ≤ P.left
def wrs (l : List (Nat × Sec)) : List Wk := l.map fun x => Wk.wr x.1 x.2
/-- Behind so many doings. -/
def spent (P : Pl) (m : Nat) : Pl := if P.fails then { P with left := P.left - m } else P
theorem spent_zero (P : Pl) : spent P 0 = P := by unfold spent; split <;> simp
theorem has_live {P : Pl} (hd : P.dead = false) {i : Nat} (hi : i < P.n) : P.has i = 0 := by unfold Pl.has; rw [hd, if_neg (by simp), if_neg (by omega)]
theorem goes_can {P : Pl} (h : Can P 1) : P.goes = false ∧ P.did = spent P 1 := by
  unfold Pl.goes Pl.did spent
  cases hf : P.fails
  · simp
  · have := h hf
    have h0 : 0 < P.left := by omega
    simp [h0]
theorem goes_not {P : Pl} (h : ¬ Can P 1) : P.goes = true ∧ P.did = P.gone P.keep ∧ P.fails = true := by
  unfold Can at h
  have hf : P.fails = true := Classical.byContradiction fun h' => h (fun h2 => absurd h2 h')
  have hl : ¬ 0 < P.left := fun h' => h (fun _ => by omega)
  unfold Pl.goes Pl.did
  rw [hf]
  simp [hl]
theorem write_can {P : Pl} (hd : P.dead = false) {i : Nat} (hi : i < P.n) {s : Sec} (hs : Neat s) (h : Can P 1) :
    (Wk.wr i s).err P = 0 ∧ (Wk.wr i s).act P = { spent P 1 with waits := upd (spent P 1).waits i (some s) } := by
  obtain ⟨h1, h2⟩ := goes_can h
  constructor
  · show P.writeE _ _ = 0
    unfold Pl.writeE
    rw [has_live hd hi, bytesOf_length, h1]
    simp
  · show P.write _ _ = _
    unfold Pl.write
    rw [has_live hd hi, bytesOf_length, h1, h2, hs]
    simp
theorem write_not {P : Pl} (hd : P.dead = false) {i : Nat} (hi : i < P.n) {s : Sec} (h : ¬ Can P 1) : (Wk.wr i s).err P = 50 ∧ (Wk.wr i s).act P = P.gone P.keep := by
  obtain ⟨h1, h2, _⟩ := goes_not h
  constructor
  · show P.writeE _ _ = 50
    unfold Pl.writeE
    rw [has_live hd hi, bytesOf_length, h1]
    simp
  · show P.write _ _ = _
    unfold Pl.write
    rw [has_live hd hi, bytesOf_length, h1, h2]
    simp
theorem flush_can {P : Pl} (hd : P.dead = false) (h : Can P 1) : Wk.fl.err P = 0 ∧ Wk.fl.act P = (spent P 1).settled := by
  obtain ⟨h1, h2⟩ := goes_can h
  constructor
  · show P.flushE = 0
    unfold Pl.flushE
    rw [hd, h1]; simp
  · show P.flush = _
    unfold Pl.flush
    rw [hd, h1, h2]; simp
theorem flush_not {P : Pl} (hd : P.dead = false) (h : ¬ Can P 1) : Wk.fl.err P = 50 ∧ Wk.fl.act P = P.gone P.keep := by
  obtain ⟨h1, h2, _⟩ := goes_not h
  constructor
  · show P.flushE = 50
    unfold Pl.flushE
    rw [hd, h1]; simp
  · show P.flush = _
    unfold Pl.flush
    rw [hd, h1, h2]; simp
/-- The power went while some of these were written. -/
structure Fell (P : Pl) (S : Nat → Sec) (l : List (Nat × Sec)) : Prop where
  dead : P.dead = true
  fails : P.fails = false
  waits : P.waits = fun _ => none
  some_ : ∀ i, P.stays i = S i ∨ (i, P.stays i) ∈ l
theorem fell_gone {P : Pl} {S : Nat → Sec} {l : List (Nat × Sec)} (h : Live P S (ovl l)) : Fell (P.gone P.keep) S l := by
  refine ⟨rfl, rfl, rfl, fun i => ?_⟩
  show P.goneAt P.keep i = _ ∨ (i, P.goneAt P.keep i) ∈ _
  unfold Pl.goneAt
  rw [h.stays, h.waits]
  cases e : ovl l i with
  | none => exact .inl rfl
  | some s =>
    simp only
    split
    · exact .inr (ovl_mem l e)
    · exact .inl rfl
theorem Fell.more {P : Pl} {S : Nat → Sec} {l k : List (Nat × Sec)} (h : Fell P S l) (hs : ∀ x ∈ l, x ∈ k) : Fell P S k := ⟨h.dead, h.fails, h.waits, fun i => (h.some_ i).imp id (hs _)⟩
theorem spent_live {P : Pl} {S : Nat → Sec} {W : Nat → Option Sec} (h : Live P S W) (m : Nat) : Live (spent P m) S W := by
  unfold spent; split
  · exact ⟨h.dead, h.stays, h.waits⟩
  · exact h
theorem spent_spent (P : Pl) (a b : Nat) : spent (spent P a) b = spent P (a + b) := by
  unfold spent
  cases hf : P.fails
  · simp [hf]
  · simp only [if_true]
    congr 1
    omega
theorem can_spent {P : Pl} {a b : Nat} : Can (spent P a) b ↔ (P.fails = true → (a + b : Int) ≤ P.left) := by
  unfold Can spent
  cases hf : P.fails
  · simp [hf]
  · simp only [if_true, true_implies]; omega
theorem spent_n (P : Pl) (a : Nat) : (spent P a).n = P.n := by unfold spent; split <;> rfl
theorem spent_fails (P : Pl) (a : Nat) : (spent P a).fails = P.fails := by unfold spent; split <;> rfl
theorem spent_waits (P : Pl) (a : Nat) (W : Nat → Option Sec) : ({ spent P a with waits := W } : Pl) = spent { P with waits := W } a := by
  unfold spent
  cases hf : P.fails <;> simp [hf]
/-- Some writes. -/
theorem run_wrs (S : Nat → Sec) : ∀ (l k : List (Nat × Sec)) (P : Pl), Live P S (ovl k) → Can P 0 → (∀ x ∈ l, x.1 < P.n ∧ Neat x.2) →
    (Can P l.length → runE (wrs l) P = 0 ∧ runP (wrs l) P = spent { P with waits := ovl (k ++ l) } l.length) ∧
    (¬ Can P l.length → runE (wrs l) P = 50 ∧ Fell (runP (wrs l) P) S (k ++ l)) := by
  intro l
  induction l with
  | nil =>
    intro k P h h0 _
    refine ⟨fun _ => ⟨rfl, ?_⟩, fun hc => absurd h0 hc⟩
    simp only [List.append_nil, List.length_nil, spent_zero]
    show P = _
    rw [← h.waits]
  | cons x l ih =>
    intro k P h _ hl
    have hx := hl x (by simp)
    by_cases h1 : Can P 1
    · obtain ⟨e1, e2⟩ := write_can h.dead hx.1 hx.2 h1
      have hL : Live ((Wk.wr x.1 x.2).act P) S (ovl (k ++ [x])) := by
        rw [e2]
        have hs := spent_live h 1
        exact ⟨hs.dead, hs.stays, by rw [ovl_snoc, ← hs.waits]⟩
      have hn : ((Wk.wr x.1 x.2).act P).n = P.n := act_n _ _
      have h00 : Can ((Wk.wr x.1 x.2).act P) 0 := by
        have : Can ((Wk.wr x.1 x.2).act P) 0 ↔ Can (spent P 1) 0 := by rw [e2]; exact Iff.rfl
        rw [this, can_spent]
        intro hf
        have := h1 hf
        omega
      obtain ⟨i1, i2⟩ := ih (k ++ [x]) _ hL h00 (fun y hy => by rw [hn]; exact hl y (by simp [hy]))
      have hcan : Can ((Wk.wr x.1 x.2).act P) l.length ↔ Can P (l.length + 1) := by
        have : Can ((Wk.wr x.1 x.2).act P) l.length ↔ Can (spent P 1) l.length := by rw [e2]; exact Iff.rfl
        rw [this, can_spent]
        unfold Can
        constructor <;> intro h hf <;> have := h hf <;> omega
      have er : runE (wrs (x :: l)) P = runE (wrs l) ((Wk.wr x.1 x.2).act P) := by
        show runE (Wk.wr x.1 x.2 :: wrs l) P = _
        simp only [runE, e1, ne_eq, not_true_eq_false, if_false]
      have ep : runP (wrs (x :: l)) P = runP (wrs l) ((Wk.wr x.1 x.2).act P) := by
        show runP (Wk.wr x.1 x.2 :: wrs l) P = _
        simp only [runP, e1, ne_eq, not_true_eq_false, if_false]
      rw [er, ep]
      rw [List.append_assoc, List.singleton_append] at i1 i2
      constructor
      · intro hc
        obtain ⟨j1, j2⟩ := i1 (hcan.2 hc)
        refine ⟨j1, ?_⟩
        rw [j2, e2]
        show spent ({ spent P 1 with waits := _ } : Pl) l.length = _
        rw [spent_waits, spent_spent, Nat.add_comm]
        rfl
      · intro hc
        exact i2 (fun h' => hc (hcan.1 h'))
    · obtain ⟨e1, e2⟩ := write_not h.dead hx.1 h1 (s := x.2)
      have er : runE (wrs (x :: l)) P = 50 := by
        show runE (Wk.wr x.1 x.2 :: wrs l) P = _
        simp only [runE, e1]
        rfl
      have ep : runP (wrs (x :: l)) P = P.gone P.keep := by
        show runP (Wk.wr x.1 x.2 :: wrs l) P = _
        simp only [runP, e1, e2]
        rfl
      constructor
      · intro hc
        exact absurd (fun hf => by have := hc hf; simp only [List.length_cons] at this; omega) h1
      · intro _
        rw [er, ep]
        exact ⟨rfl, (fell_gone h).more (fun y hy => List.mem_append_left _ hy)⟩
/-- Some writes, and a flush. -/
theorem run_phase {S : Nat → Sec} {l : List (Nat × Sec)} {P : Pl} (h : Live P S (fun _ => none)) (hl : ∀ x ∈ l, x.1 < P.n ∧ Neat x.2) (h0 : Can P 0) :
    (Can P (l.length + 1) → runE (wrs l ++ [.fl]) P = 0 ∧ runP (wrs l ++ [.fl]) P = { spent P (l.length + 1) with stays := setAll S l, waits := fun _ => none }) ∧
    (¬ Can P (l.length + 1) → runE (wrs l ++ [.fl]) P = 50 ∧ Fell (runP (wrs l ++ [.fl]) P) S l) := by
  have hC : ∀ {m : Nat}, Can P (m + 1) → Can P m := fun hc hf => by have := hc hf; omega
  obtain ⟨i1, i2⟩ := run_wrs S l [] P (by exact h) h0 hl
  rw [List.nil_append] at i1 i2
  rw [runE_append, runP_append]
  by_cases hc : Can P l.length
  · obtain ⟨e1, e2⟩ := i1 hc
    rw [e1, e2]
    simp only [ne_eq, not_true_eq_false, if_false]
    have hL : Live (spent { P with waits := ovl l } l.length) S (ovl l) := spent_live (P := { P with waits := ovl l }) (S := S) (W := ovl l) ⟨h.dead, h.stays, rfl⟩ _
    have hc1 : Can (spent { P with waits := ovl l } l.length) 1 ↔ Can P (l.length + 1) := by
      rw [can_spent]
      unfold Can
      constructor <;> intro h hf <;> have := h hf <;> simp only at * <;> omega
    constructor
    · intro h1
      obtain ⟨f1, f2⟩ := flush_can hL.dead (hc1.2 h1)
      simp only [runE, runP, f1, f2, ne_eq, not_true_eq_false, if_false]
      refine ⟨trivial, ?_⟩
      rw [spent_spent]
      unfold Pl.settled
      have hS : (spent { P with waits := ovl l } (l.length + 1)).seen = setAll S l := by
        have := spent_live (P := { P with waits := ovl l }) (S := S) (W := ovl l) ⟨h.dead, h.stays, rfl⟩ (l.length + 1)
        funext i
        unfold Pl.seen setAll
        rw [this.stays, this.waits]
      rw [hS]
      unfold spent
      cases hf : P.fails <;> simp [hf]
    · intro h1
      obtain ⟨f1, f2⟩ := flush_not hL.dead (fun h' => h1 (hc1.1 h'))
      simp only [runE, runP, f1, f2]
      exact ⟨rfl, fell_gone hL⟩
  · obtain ⟨e1, e2⟩ := i2 hc
    rw [e1]
    simp only [ne_eq, show ¬ ((50 : Int) = 0) by decide, not_false_eq_true, if_true]
    exact ⟨fun h' => absurd (hC h') hc, fun _ => ⟨trivial, e2⟩⟩
end Go.Proofs.YtdhidcoglioalaaGreat.Plain
namespace Go.Proofs.YtdhidcoglioalaaGreat.Plain
/-- A sector of the log that does not count: blank, or of a turn that is over, or an entry of the next one. -/
def Fine (T : Nat) (b : Sec) : Prop := b = zeroS ∨ ∃ s : Sct, b = packS s ∧ s.Fits ∧ ((s.kind = 2 ∧ s.turn ≤ T) ∨ (s.kind = 3 ∧ s.turn < T))
/-- What the log has, from where it begins on. -/
inductive Led (S : Nat → Sec) (L B a0 t0 : Nat) : Nat → Nat → Nat → Pend → Prop
  | base : Led S L B a0 t0 a0 t0 0 (fun _ => none)
  | more {a t u : Nat} {p : Pend} (l : List (Nat × Blk)) : Led S L B a0 t0 a t u p → l ≠ [] → (∀ x ∈ l, x.1 < B ∧ Flat x.2) → (∀ k (h : k < l.length), S (2 + (a + k) % L) = packS (entrySct t l[k])) →
      S (2 + (a + l.length) % L) = packS (endSct t l.length) → u + l.length + 1 ≤ L → Led S L B a0 t0 ((a + l.length + 1) % L) (t + 1) (u + l.length + 1) (putAll p l)
def HomeOk (b : Sec) (i : Nat) (x : Blk) : Prop := (b = zeroS ∧ x = zeroB) ∨ b = packS (homeSct i x)
structure Inv (n : Nat) (S : Nat → Sec) (J : Jn) (now : Nat → Blk) : Prop where
  n4 : n ≤ 4096
  log2 : 2 ≤ J.log
  logn : J.log + 3 ≤ n
  live : J.broken = false
  hd : ∃ a0 t0, a0 < J.log ∧ 0 < t0 ∧ S ((J.head + 1) % 2) = packS (headSct J.head J.log a0 t0) ∧ Led S J.log (n - 2 - J.log) a0 t0 J.at_ J.turn J.used J.pend
  other : ∃ a t, a < J.log ∧ 0 < t ∧ t < 1099511627776 ∧ S (J.head % 2) = packS (headSct (J.head - 1) J.log a t)
  head : 2 ≤ J.head ∧ J.head < 1099511627776
  turn : J.turn < 1099511627776
  free : ∀ k, k < J.log - J.used → Fine J.turn (S (2 + (J.at_ + k) % J.log))
  homes : ∀ i, i < n - 2 - J.log → match J.pend i with
    | some b => b = now i
    | none => HomeOk (S (2 + J.log + i)) i (now i)
  flat : ∀ i, Flat (now i)
/-- .. but for its homes. -/
structure Core (n : Nat) (S : Nat → Sec) (J : Jn) : Prop where
  n4 : n ≤ 4096
  log2 : 2 ≤ J.log
  logn : J.log + 3 ≤ n
  live : J.broken = false
  hd : ∃ a0 t0, a0 < J.log ∧ 0 < t0 ∧ S ((J.head + 1) % 2) = packS (headSct J.head J.log a0 t0) ∧ Led S J.log (n - 2 - J.log) a0 t0 J.at_ J.turn J.used J.pend
  other : ∃ a t, a < J.log ∧ 0 < t ∧ t < 1099511627776 ∧ S (J.head % 2) = packS (headSct (J.head - 1) J.log a t)
  head : 2 ≤ J.head ∧ J.head < 1099511627776
  turn : J.turn < 1099511627776
  free : ∀ k, k < J.log - J.used → Fine J.turn (S (2 + (J.at_ + k) % J.log))
theorem Inv.core {n : Nat} {S : Nat → Sec} {J : Jn} {now : Nat → Blk} (h : Inv n S J now) : Core n S J := ⟨h.n4, h.log2, h.logn, h.live, h.hd, h.other, h.head, h.turn, h.free⟩

section
variable {S S' : Nat → Sec} {L B a0 t0 a t u : Nat} {p : Pend}
theorem Led.facts (h : Led S L B a0 t0 a t u p) (ha : a0 < L) : a = (a0 + u) % L ∧ u ≤ L ∧ t0 ≤ t ∧ a < L ∧ (∀ i, B ≤ i → p i = none) ∧ (∀ i b, p i = some b → Flat b) := by
  induction h with
  | base => exact ⟨by rw [Nat.add_zero, Nat.mod_eq_of_lt ha], by omega, by omega, ha, fun _ _ => rfl, fun _ _ e => by cases e⟩
  | more l _ _ hl _ _ hu ih =>
    obtain ⟨i1, i2, i3, i4, i5, i6⟩ := ih
    refine ⟨?_, hu, by omega, Nat.mod_lt _ (by omega), ?_, ?_⟩
    · rw [i1, Nat.add_assoc, Nat.mod_add_mod]
      congr 1
      omega
    · intro i hi
      have : ∀ (l : List (Nat × Blk)) (p : Pend), (∀ x ∈ l, x.1 < B ∧ Flat x.2) → p i = none → putAll p l i = none := by
        intro l
        induction l with
        | nil => intro p _ h; exact h
        | cons x l ih =>
          intro p hl h
          refine ih _ (fun y hy => hl y (by simp [hy])) ?_
          show upd p x.1 (some x.2) i = none
          rw [upd_other _ _ (by have := (hl x (by simp)).1; omega)]
          exact h
      exact this l _ hl (i5 i hi)
    · have : ∀ (l : List (Nat × Blk)) (p : Pend), (∀ x ∈ l, x.1 < B ∧ Flat x.2) → (∀ i b, p i = some b → Flat b) → ∀ i b, putAll p l i = some b → Flat b := by
        intro l
        induction l with
        | nil => intro p _ h; exact h
        | cons x l ih =>
          intro p hl h
          refine ih _ (fun y hy => hl y (by simp [hy])) ?_
          intro i b hb
          replace hb : upd p x.1 (some x.2) i = some b := hb
          by_cases e : i = x.1
          · rw [e, upd_same] at hb
            cases hb
            exact (hl x (by simp)).2
          · rw [upd_other _ _ e] at hb
            exact h i b hb
      exact this l _ hl i6
theorem Led.same (h : Led S L B a0 t0 a t u p) (ha : a0 < L) : ∀ (_ : ∀ k, k < u → S' (2 + (a0 + k) % L) = S (2 + (a0 + k) % L)), Led S' L B a0 t0 a t u p := by
  induction h with
  | base => intro _; exact .base
  | more l hp h0 hl he hd hu ih =>
    intro hs
    obtain ⟨i1, i2, _⟩ := hp.facts ha
    refine .more l (ih fun k hk => hs k (by omega)) h0 hl (fun k hk => ?_) ?_ hu
    · rw [← he k hk, i1, Nat.mod_add_mod, Nat.add_assoc]
      exact hs _ (by omega)
    · rw [← hd, i1, Nat.mod_add_mod, Nat.add_assoc]
      exact hs _ (by omega)
/-! ### The log is read -/
theorem fits_entry {t : Nat} {x : Nat × Blk} (ht : t < 1099511627776) (hx : x.1 < 65536) (hf : Flat x.2) : (entrySct t x).Fits :=
  ⟨by show (0 : Int) ≤ 2 ∧ (2 : Int) < 256; omega, by show (0 : Int) ≤ t ∧ (t : Int) < _; omega, by show (0 : Int) ≤ (x.1 : Int) ∧ (x.1 : Int) < _; omega, hf⟩
theorem fits_end {t n : Nat} (ht : t < 1099511627776) (hx : n < 65536) : (endSct t n).Fits :=
  ⟨by show (0 : Int) ≤ 3 ∧ (3 : Int) < 256; omega, by show (0 : Int) ≤ t ∧ (t : Int) < _; omega, by show (0 : Int) ≤ (n : Int) ∧ (n : Int) < _; omega, flat_zero⟩
theorem fits_home {i : Nat} {x : Blk} (hx : i < 65536) (hf : Flat x) : (homeSct i x).Fits :=
  ⟨by show (0 : Int) ≤ 4 ∧ (4 : Int) < 256; omega, by show (0 : Int) ≤ 0 ∧ (0 : Int) < _; omega, by show (0 : Int) ≤ (i : Int) ∧ (i : Int) < _; omega, hf⟩
theorem parse_num {s : Sct} (h : s.Fits) : (getN (cutS (packS s) 6 2) : Int) = s.number := by
  have := congrArg Sct.number (pack_parse h)
  exact this
theorem parse_kind {s : Sct} (h : s.Fits) : (parseS (packS s)).kind = s.kind := by rw [pack_parse h]
theorem parse_turn {s : Sct} (h : s.Fits) : (parseS (packS s)).turn = s.turn := by rw [pack_parse h]
theorem parse_data {s : Sct} (h : s.Fits) : (parseS (packS s)).data = s.data := by rw [pack_parse h]
theorem replay_entries (ht : t < 1099511627776) : ∀ (r l' : List (Nat × Blk)) (f : Nat), (∀ x ∈ r, x.1 < 65536 ∧ Flat x.2) → (∀ k (h : k < r.length), S (2 + (a + (l'.length + k)) % L) = packS (entrySct t r[k])) →
    replay S L B (r.length + f) a t u l' p = replay S L B f a t u (l' ++ r) p := by
  intro r
  induction r with
  | nil => intro l' f _ _; simp
  | cons x r ih =>
    intro l' f hx hs
    have h0 := hs 0 (by simp)
    simp only [Nat.add_zero, List.getElem_cons_zero] at h0
    have hft := fits_entry ht (hx x (by simp)).1 (hx x (by simp)).2
    have hk : (parseS (packS (entrySct t x))).kind = 2 := parse_kind hft
    have htn : (parseS (packS (entrySct t x))).turn = t := parse_turn hft
    have hnb : isBlank (packS (entrySct t x)) = false := pack_not_blank hft (by show (2 : Int) ≠ 0; decide)
    have hn : getN (cutS (packS (entrySct t x)) 6 2) = x.1 := Int.ofNat.inj (parse_num hft)
    have hd : (parseS (packS (entrySct t x))).data = x.2 := parse_data hft
    rw [show (x :: r).length + f = (r.length + f) + 1 by simp; omega]
    simp only [replay]
    rw [h0, hnb, pack_ok, hk, htn, hn, hd]
    simp only [Bool.false_eq_true, if_false, Bool.not_true, Bool.false_or, bne_self_eq_false, Bool.false_and, beq_self_eq_true, if_true]
    rw [ih (l' ++ [(x.1, x.2)]) f (fun y hy => hx y (by simp [hy])) (fun k hk => by
      have := hs (k + 1) (by simp; omega)
      simp only [List.getElem_cons_succ] at this
      rw [List.length_append, List.length_singleton, Nat.add_assoc, Nat.add_comm 1 k]
      exact this)]
    simp
theorem all_zero_cut {b : Sec} {x : Blk} (h : cutS b 8 48 = bytesB x) (hx : x = zeroB) : (cutS b 8 48).all (· == 0) = true := by
  rw [h, hx]
  decide
theorem replay_end (ht : t < 1099511627776) {l : List (Nat × Blk)} {f : Nat} (h0 : l ≠ []) (hl : ∀ x ∈ l, x.1 < B) (hn : l.length < 65536) (hs : S (2 + (a + l.length) % L) = packS (endSct t l.length)) :
    replay S L B (f + 1) a t u l p = replay S L B f ((a + l.length + 1) % L) (t + 1) (u + l.length + 1) [] (putAll p l) := by
  have hft := fits_end ht hn
  have hk : (parseS (packS (endSct t l.length))).kind = 3 := parse_kind hft
  have htn : (parseS (packS (endSct t l.length))).turn = t := parse_turn hft
  have hnb : isBlank (packS (endSct t l.length)) = false := pack_not_blank hft (by show (3 : Int) ≠ 0; decide)
  have hnn : getN (cutS (packS (endSct t l.length)) 6 2) = l.length := Int.ofNat.inj (parse_num hft)
  have hz := all_zero_cut (pack_cuts (endSct t l.length)).2.2.1 rfl
  have hlen : (l.length == 0) = false := by
    cases l with
    | nil => exact absurd rfl h0
    | cons x l => simp
  have hany : l.any (fun x => decide (B ≤ x.1)) = false := by
    rw [List.any_eq_false]
    intro x hx
    have := hl x hx
    simp; omega
  simp only [replay]
  rw [hs, hnb, pack_ok, hk, htn, hnn, hz, hlen, hany]
  simp
theorem replay_tail : ∀ (f : Nat) (l' : List (Nat × Blk)), (∀ k, l'.length ≤ k → k < l'.length + f → Fine t (S (2 + (a + k) % L))) → replay S L B f a t u l' p = some (a, t, u, p) := by
  intro f
  induction f with
  | zero => intro l' _; rfl
  | succ f ih =>
    intro l' hf
    simp only [replay]
    rcases hf l'.length (Nat.le_refl _) (by omega) with hz | ⟨s, hs, hft, hk⟩
    · rw [hz, bytes_zero]; simp
    · have hkk : (parseS (packS s)).kind = s.kind := parse_kind hft
      have htn : (parseS (packS s)).turn = s.turn := parse_turn hft
      have hnb : isBlank (packS s) = false := pack_not_blank hft (by rcases hk with ⟨h, _⟩ | ⟨h, _⟩ <;> rw [h] <;> decide)
      rw [hs, hnb, pack_ok, hkk, htn]
      by_cases e : s.turn = t
      · rcases hk with ⟨h1, _⟩ | ⟨_, h2⟩
        · rw [e, h1]
          simp only [Bool.false_eq_true, if_false, Bool.not_true, Bool.false_or, bne_self_eq_false, Bool.false_and, beq_self_eq_true, if_true]
          refine ih _ (fun k h1 h2 => hf k ?_ ?_)
          · rw [List.length_append, List.length_singleton] at h1; omega
          · rw [List.length_append, List.length_singleton] at h2; omega
        · omega
      · have h3 : (s.turn != (t : Int)) = true := by simpa using e
        have h4 : (s.kind != 2 && s.kind != 3) = false := by rcases hk with ⟨h, _⟩ | ⟨h, _⟩ <;> rw [h] <;> rfl
        rw [h3, h4]
        simp
theorem replay_led (h : Led S L B a0 t0 a t u p) (hB : B ≤ 65536) (hL : L < 65536) : ∀ (f : Nat), t ≤ 1099511627776 → replay S L B (u + f) a0 t0 0 [] (fun _ => none) = replay S L B f a t u [] p := by
  induction h with
  | base => intro f _; rw [Nat.zero_add]
  | more l hp h0 hl he hd hu ih =>
    rename_i a t u p
    intro f ht
    rw [show u + l.length + 1 + f = u + (l.length + (f + 1)) by omega, ih (l.length + (f + 1)) (by omega),
      replay_entries (by omega) l [] (f + 1) (fun x hx => ⟨Nat.lt_of_lt_of_le (hl x hx).1 hB, (hl x hx).2⟩) (fun k hk => by rw [List.length_nil, Nat.zero_add]; exact he k hk), List.nil_append,
      replay_end (by omega) h0 (fun x hx => (hl x hx).1) (by omega) hd]
end
/-! ### It is opened -/
theorem cut_pack_data (s : Sct) {i n : Nat} (h : i + n ≤ 48) : cutS (packS s) (8 + i) n = ((bytesB s.data).drop i).take n := by
  have h3 := (pack_cuts s).2.2.1
  rw [← h3]
  apply List.ext_getElem?
  intro j
  by_cases hj : j < n
  · rw [List.getElem?_take_of_lt hj, List.getElem?_drop]
    simp only [cutS, List.getElem?_map, List.getElem?_range hj, List.getElem?_range (show i + j < 48 by omega), Option.map_some]
    rw [Nat.add_assoc]
  · rw [List.getElem?_eq_none (by rw [cutS_length]; omega), List.getElem?_eq_none (by rw [List.length_take]; omega)]
theorem head_bytes (a t : Nat) : bytesB (blkOf (numB 2 a ++ numB 5 t)) = numB 2 a ++ (numB 5 t ++ List.replicate 41 0) := by
  have h2 := numB_length 2 a
  have h5 := numB_length 5 t
  apply List.ext_getElem?
  intro j
  by_cases hj : j < 48
  · rw [bytesB_get _ hj]
    unfold blkOf
    rw [if_pos hj, List.getD_eq_getElem?_getD, ← List.append_assoc]
    by_cases h7 : j < 7
    · rw [List.getElem?_append_left (l₂ := List.replicate 41 0) (by simp; omega), List.getElem?_eq_getElem (by simp; omega)]
      rfl
    · rw [List.getElem?_append_right (l₂ := List.replicate 41 0) (by simp; omega), List.getElem?_eq_none (by simp; omega), List.getElem?_replicate, if_pos (by simp; omega)]
      rfl
  · rw [List.getElem?_eq_none (by rw [bytesB_length]; omega), List.getElem?_eq_none (by simp; omega)]
theorem fits_head {h L a t : Nat} (hh : h < 1099511627776) (hL : L < 65536) : (headSct h L a t).Fits :=
  ⟨by show (0 : Int) ≤ 1 ∧ (1 : Int) < 256; omega, by show (0 : Int) ≤ (h : Int) ∧ (h : Int) < _; omega, by show (0 : Int) ≤ (L : Int) ∧ (L : Int) < _; omega, flat_blkOf _⟩
theorem hdOf_pack {h L a t : Nat} (hh : h < 1099511627776) (hL : L < 65536) (ha : a < 65536) (ht : t < 1099511627776) : hdOf (packS (headSct h L a t)) = ⟨h, L, a, t⟩ := by
  have hft := fits_head (a := a) (t := t) hh hL
  have e1 : getN (cutS (packS (headSct h L a t)) 1 5) = h := Int.ofNat.inj (parse_turn hft)
  have e2 : getN (cutS (packS (headSct h L a t)) 6 2) = L := Int.ofNat.inj (parse_num hft)
  have h2 := numB_length 2 a
  have h5 := numB_length 5 t
  have e3 : cutS (packS (headSct h L a t)) 8 2 = numB 2 a := by
    have := cut_pack_data (headSct h L a t) (i := 0) (n := 2) (by omega)
    rw [Nat.add_zero] at this
    rw [this]
    show List.take 2 (List.drop 0 (bytesB (blkOf _))) = _
    rw [head_bytes, List.drop_zero, List.take_append_of_le_length (by omega), List.take_of_length_le (by omega)]
  have e4 : cutS (packS (headSct h L a t)) 10 5 = numB 5 t := by
    have := cut_pack_data (headSct h L a t) (i := 2) (n := 5) (by omega)
    rw [show 8 + 2 = 10 from rfl] at this
    rw [this]
    show List.take 5 (List.drop 2 (bytesB (blkOf _))) = _
    rw [head_bytes, List.drop_append, List.drop_of_length_le (by omega), List.nil_append, h2, Nat.sub_self, List.drop_zero, List.take_append_of_le_length (by omega), List.take_of_length_le (by omega)]
  unfold hdOf
  rw [e1, e2, e3, e4]
  have g1 := getN_num 2 a
  have g2 := getN_num 5 t
  have p1 : ((256 : Int) ^ 2) = 65536 := by decide
  have p2 : ((256 : Int) ^ 5) = 1099511627776 := by decide
  rw [p1, Int.emod_eq_of_lt (by omega) (by omega)] at g1
  rw [p2, Int.emod_eq_of_lt (by omega) (by omega)] at g2
  rw [Int.ofNat.inj g1, Int.ofNat.inj g2]
theorem hdOk_pack {n h L a t : Nat} (hh : h < 1099511627776) (hn : n ≤ 4096) (ha : a < L) (ht : t < 1099511627776) (h0 : 0 < h) (h1 : 0 < t) (h2 : 2 ≤ L) (h3 : L + 3 ≤ n) : hdOk n (packS (headSct h L a t)) = true := by
  have e1 := hdOf_pack (a := a) (t := t) hh (show L < 65536 by omega) (by omega) ht
  have e2 : (packS (headSct h L a t) 0 == 1) = true := by
    have : packS (headSct h L a t) 0 = BitVec.ofInt 8 1 := rfl
    rw [this]; rfl
  have h2' := numB_length 2 a
  have h5' := numB_length 5 t
  have e3 : cutS (packS (headSct h L a t)) 15 41 = List.replicate 41 0 := by
    have := cut_pack_data (headSct h L a t) (i := 7) (n := 41) (by omega)
    rw [show 8 + 7 = 15 from rfl] at this
    rw [this]
    show List.take 41 (List.drop 7 (bytesB (blkOf _))) = _
    rw [head_bytes, ← List.append_assoc, List.drop_append, List.drop_of_length_le (by simp; omega), List.nil_append, List.take_of_length_le (by simp)]
    simp [h2', h5']
  unfold hdOk
  rw [e1, e2, e3, pack_ok]
  unfold logMay
  have e4 : (List.replicate 41 (0 : Byte)).all (· == 0) = true := by decide
  rw [e4]
  simp [h0, h1, h2, h3, ha]
theorem headAt_pack {P : Pl} {i h L a t : Nat} (hd : P.dead = false) (hi : i < P.n) (hs : P.seen i = packS (headSct h L a t)) (hh : h < 1099511627776) (hn : P.n ≤ 4096) (ha : a < L) (ht : t < 1099511627776) (h0 : 0 < h) (h1 : 0 < t) (h2 : 2 ≤ L) (h3 : L + 3 ≤ P.n) :
    headAt P i = some ⟨h, L, a, t⟩ := by
  unfold headAt
  rw [has_live hd hi, hs, hdOk_pack hh hn ha ht h0 h1 h2 h3, hdOf_pack hh (by omega) (by omega) ht]
  simp
theorem seen_live {P : Pl} {S : Nat → Sec} (h : Live P S (fun _ => none)) : P.seen = S := by
  funext i
  unfold Pl.seen
  rw [h.waits, h.stays]; rfl
theorem Core.open_ {n : Nat} {S : Nat → Sec} {J : Jn} (h : Core n S J) {P : Pl} (hP : Live P S (fun _ => none)) (hn : P.n = n) : openJ P = some J := by
  subst hn
  have hseen := seen_live hP
  obtain ⟨a0, t0, ha0, ht0, hs0, hled⟩ := h.hd
  obtain ⟨a1, t1, ha1, ht1, ht1', hs1⟩ := h.other
  obtain ⟨f1, f2, f3, f4, _⟩ := hled.facts ha0
  have hh := h.head
  have htt := h.turn
  have hn4 := h.n4
  have hl2 := h.log2
  have hln := h.logn
  have hA : heads2 P = some ⟨J.head, J.log, a0, t0⟩ := by
    unfold heads2
    rcases Nat.mod_two_eq_zero_or_one J.head with e | e
    · rw [show (J.head + 1) % 2 = 1 by omega] at hs0
      rw [e] at hs1
      have g0 : headAt P 0 = _ := headAt_pack (i := 0) hP.dead (by omega) (by rw [hseen]; exact hs1) (by omega) hn4 ha1 ht1' (by omega) ht1 hl2 hln
      have g1 : headAt P 1 = _ := headAt_pack (i := 1) hP.dead (by omega) (by rw [hseen]; exact hs0) hh.2 hn4 ha0 (by omega) (by omega) ht0 hl2 hln
      rw [g0, g1]
      simp only
      rw [if_pos ⟨trivial, by omega⟩, if_pos (by omega)]
    · rw [show (J.head + 1) % 2 = 0 by omega] at hs0
      rw [e] at hs1
      have g0 : headAt P 0 = _ := headAt_pack (i := 0) hP.dead (by omega) (by rw [hseen]; exact hs0) hh.2 hn4 ha0 (by omega) (by omega) ht0 hl2 hln
      have g1 : headAt P 1 = _ := headAt_pack (i := 1) hP.dead (by omega) (by rw [hseen]; exact hs1) (by omega) hn4 ha1 ht1' (by omega) ht1 hl2 hln
      rw [g0, g1]
      simp only
      rw [if_pos ⟨trivial, by omega⟩, if_neg (by omega)]
  unfold openJ
  rw [hA]
  simp only
  have hr := replay_led hled (by omega) (by omega) (J.log - J.used) (by omega)
  rw [show J.used + (J.log - J.used) = J.log by omega] at hr
  rw [hseen, hr, replay_tail _ _ (fun k _ hk => h.free k (by simpa using hk))]
  simp only
  have := h.live
  obtain ⟨x1, x2, x3, x4, x5, x6, x7⟩ := J
  simp only at this
  rw [this]
/-- What is not of heads and log does not matter to it. -/
theorem Core.same {n : Nat} {S S' : Nat → Sec} {J : Jn} (h : Core n S J) (hs : ∀ i, i < 2 + J.log → S' i = S i) : Core n S' J := by
  obtain ⟨a0, t0, ha0, ht0, hs0, hled⟩ := h.hd
  obtain ⟨a1, t1, ha1, ht1, ht1', hs1⟩ := h.other
  have hl2 := h.log2
  have hm : ∀ x, x % J.log < J.log := fun x => Nat.mod_lt _ (by omega)
  have hm2 : ∀ x, x % 2 < 2 := fun x => Nat.mod_lt _ (by omega)
  exact ⟨h.n4, hl2, h.logn, h.live, ⟨a0, t0, ha0, ht0, by rw [hs _ (by have := hm2 (J.head + 1); omega)]; exact hs0, hled.same ha0 fun k hk => hs _ (by have := hm (a0 + k); omega)⟩,
    ⟨a1, t1, ha1, ht1, ht1', by rw [hs _ (by have := hm2 J.head; omega)]; exact hs1⟩, h.head, h.turn, fun k hk => by rw [hs _ (by have := hm (J.at_ + k); omega)]; exact h.free k hk⟩
end Go.Proofs.YtdhidcoglioalaaGreat.Plain
