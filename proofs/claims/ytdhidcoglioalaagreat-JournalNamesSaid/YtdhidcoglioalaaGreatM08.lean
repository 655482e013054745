/-
  Clearing and committing: wherever the power goes, the plate holds a journal.
-/
import Derived.Test.YtdhidcoglioalaaGreatM07
namespace Go.Proofs.YtdhidcoglioalaaGreat.Plain
open Jn
/-! ### Places -/
theorem ring_ne {L a i j : Nat} (hi : i < L) (hj : j < L) (h : i ≠ j) : (a + i) % L ≠ (a + j) % L := by
  intro e
  have h1 := Nat.sub_mod_eq_zero_of_mod_eq e
  have h2 := Nat.sub_mod_eq_zero_of_mod_eq e.symm
  rcases Nat.lt_or_gt_of_ne h with h' | h'
  · rw [show a + j - (a + i) = j - i by omega, Nat.mod_eq_of_lt (by omega)] at h2; omega
  · rw [show a + i - (a + j) = i - j by omega, Nat.mod_eq_of_lt (by omega)] at h1; omega
theorem Jn.place_range {J : Jn} (h : 0 < J.log) (k : Nat) : 2 ≤ J.place k ∧ J.place k < 2 + J.log := by
  have := Nat.mod_lt (J.at_ + k) h
  unfold Jn.place
  omega
def nowAll (now : Nat → Blk) (l : List (Nat × Blk)) : Nat → Blk := fun i => (putAll (fun _ => none) l i).getD (now i)
theorem putAll_flat {l : List (Nat × Blk)} (hl : ∀ x ∈ l, Flat x.2) : ∀ i b, putAll (fun _ => none) l i = some b → Flat b := by
  induction l using snoc_ind with
  | nil => intro i b h; cases h
  | append_singleton l x ih =>
    intro i b h
    have e : putAll (fun _ => none) (l ++ [x]) = upd (putAll (fun _ => none) l) x.1 (some x.2) := by simp [putAll]
    rw [e] at h
    by_cases hi : i = x.1
    · rw [hi, upd_same] at h
      cases h
      exact hl x (by simp)
    · rw [upd_other _ _ hi] at h
      exact ih (fun y hy => hl y (by simp [hy])) i b h
theorem Fine.mono {T T' : Nat} {b : Sec} (h : Fine T b) (ht : T ≤ T') : Fine T' b := by
  rcases h with h | ⟨s, h1, h2, h3⟩
  · exact .inl h
  · exact .inr ⟨s, h1, h2, h3.imp (fun h => ⟨h.1, by omega⟩) (fun h => ⟨h.1, by omega⟩)⟩
theorem fine_entry {T t : Nat} {x : Nat × Blk} (h : t ≤ T) (ht : t < 1099511627776) (hx : x.1 < 65536) (hf : Flat x.2) : Fine T (packS (entrySct t x)) :=
  .inr ⟨_, rfl, fits_entry ht hx hf, .inl ⟨rfl, by show (t : Int) ≤ T; omega⟩⟩
theorem fine_end {T t n : Nat} (h : t < T) (ht : t < 1099511627776) (hx : n < 65536) : Fine T (packS (endSct t n)) :=
  .inr ⟨_, rfl, fits_end ht hx, .inr ⟨rfl, by show (t : Int) < T; omega⟩⟩
theorem Led.fine {S : Nat → Sec} {L B a0 t0 a t u : Nat} {p : Pend} (h : Led S L B a0 t0 a t u p) (ha : a0 < L) (hB : B ≤ 65536) (hL : L < 65536) (ht : t ≤ 1099511627776) : ∀ k, k < u → Fine t (S (2 + (a0 + k) % L)) := by
  induction h with
  | base => intro k hk; omega
  | more l hp h0 hl he hd hu ih =>
    rename_i a t u p
    obtain ⟨i1, i2, _⟩ := hp.facts ha
    intro k hk
    by_cases h1 : k < u
    · exact (ih (by omega) k h1).mono (by omega)
    · by_cases h2 : k < u + l.length
      · have h3 := he (k - u) (by omega)
        rw [i1, Nat.mod_add_mod, show a0 + u + (k - u) = a0 + k by omega] at h3
        rw [h3]
        have hm : l[k - u]'(by omega) ∈ l := List.getElem_mem _
        exact fine_entry (by omega) (by omega) (Nat.lt_of_lt_of_le (hl _ hm).1 hB) (hl _ hm).2
      · have h4 : k = u + l.length := by omega
        rw [i1, Nat.mod_add_mod, Nat.add_assoc, ← h4] at hd
        rw [hd]
        exact fine_end (by omega) (by omega) (by omega)
section
variable {n : Nat} {S S' : Nat → Sec} {J : Jn} {now : Nat → Blk}
theorem Inv.led (h : Inv n S J now) : ∃ a0 t0, a0 < J.log ∧ 0 < t0 ∧ t0 ≤ J.turn ∧ J.at_ = (a0 + J.used) % J.log ∧ J.used ≤ J.log ∧ J.at_ < J.log := by
  obtain ⟨a0, t0, h1, h2, _, h4⟩ := h.hd
  obtain ⟨f1, f2, f3, f4, _⟩ := h4.facts h1
  exact ⟨a0, t0, h1, h2, f3, f1, f2, f4⟩
theorem Inv.ok (h : Inv n S J now) : J.Ok n := by
  obtain ⟨a0, t0, h1, h2, _, h4⟩ := h.hd
  obtain ⟨f1, f2, f3, f4, f5, f6⟩ := h4.facts h1
  have hh := h.head
  have ht := h.turn
  exact ⟨h.log2, h.logn, f4, f2, by omega, by omega, by omega, f5, f6⟩
/-- Some entries of the next turn are written. -/
theorem Inv.entries (h : Inv n S J now) {l : List (Nat × Blk)} (hl : ∀ x ∈ l, x.1 < n - 2 - J.log ∧ Flat x.2) (hm : J.used + l.length + 1 ≤ J.log)
    (hs : ∀ i, S' i = S i ∨ ∃ k, ∃ hk : k < l.length, i = J.place k ∧ S' i = packS (entrySct J.turn l[k])) : Inv n S' J now := by
  have hl2 := h.log2
  have hn4 := h.n4
  have hln := h.logn
  have hlow : ∀ i, i < 2 → S' i = S i := fun i hi => (hs i).elim id (fun ⟨k, _, e, _⟩ => by have := (J.place_range (by omega) k).1; omega)
  have hhigh : ∀ i, 2 + J.log ≤ i → S' i = S i := fun i hi => (hs i).elim id (fun ⟨k, _, e, _⟩ => by have := (J.place_range (by omega) k).2; omega)
  obtain ⟨a0, t0, ha0, ht0, hs0, hled⟩ := h.hd
  obtain ⟨a1, t1, ha1, ht1, ht1', hs1⟩ := h.other
  obtain ⟨f1, f2, f3, f4, _⟩ := hled.facts ha0
  refine ⟨hn4, hl2, hln, h.live, ⟨a0, t0, ha0, ht0, by rw [hlow _ (Nat.mod_lt _ (by omega))]; exact hs0, hled.same ha0 fun k hk => ?_⟩, ⟨a1, t1, ha1, ht1, ht1', by rw [hlow _ (Nat.mod_lt _ (by omega))]; exact hs1⟩, h.head, h.turn, fun k hk => ?_, fun i hi => ?_, h.flat⟩
  · refine (hs _).elim id (fun ⟨j, hj, e, _⟩ => ?_)
    exfalso
    unfold Jn.place at e
    rw [f1, Nat.mod_add_mod, Nat.add_assoc] at e
    exact ring_ne (L := J.log) (a := a0) (i := k) (j := J.used + j) (by omega) (by omega) (by omega) (by omega)
  · rcases hs (2 + (J.at_ + k) % J.log) with e | ⟨j, hj, _, e⟩
    · rw [e]; exact h.free k hk
    · rw [e]
      have hm : l[j] ∈ l := List.getElem_mem _
      exact fine_entry (Nat.le_refl _) h.turn (by have := (hl _ hm).1; omega) (hl _ hm).2
  · rw [hhigh _ (by omega)]
    exact h.homes i hi
/-- Their end is written. -/
theorem Inv.end_ (h : Inv n S J now) {l : List (Nat × Blk)} (h0 : l ≠ []) (hl : ∀ x ∈ l, x.1 < n - 2 - J.log ∧ Flat x.2) (hm : J.used + l.length + 1 ≤ J.log) (ht : J.turn + 1 < 1099511627776)
    (he : ∀ k (hk : k < l.length), S (J.place k) = packS (entrySct J.turn l[k])) (hs : ∀ i, i ≠ J.place l.length → S' i = S i) (hd : S' (J.place l.length) = packS (endSct J.turn l.length)) : Inv n S' (J.wrote l) (nowAll now l) := by
  have hl2 := h.log2
  have hn4 := h.n4
  have hln := h.logn
  obtain ⟨p1, p2⟩ := J.place_range (by omega) l.length
  have hlow : ∀ i, i < 2 → S' i = S i := fun i hi => hs i (by omega)
  have hhigh : ∀ i, 2 + J.log ≤ i → S' i = S i := fun i hi => hs i (by omega)
  obtain ⟨a0, t0, ha0, ht0, hs0, hled⟩ := h.hd
  obtain ⟨a1, t1, ha1, ht1, ht1', hs1⟩ := h.other
  obtain ⟨f1, f2, f3, f4, _⟩ := hled.facts ha0
  have hpl : ∀ k, J.place k = 2 + (a0 + (J.used + k)) % J.log := fun k => by unfold Jn.place; rw [f1, Nat.mod_add_mod, Nat.add_assoc]
  have hne : ∀ k, k < J.used + l.length → 2 + (a0 + k) % J.log ≠ J.place l.length := fun k hk e => by
    rw [hpl] at e
    exact ring_ne (L := J.log) (a := a0) (i := k) (j := J.used + l.length) (by omega) (by omega) (by omega) (by omega)
  have hled' : Led S' J.log (n - 2 - J.log) a0 t0 J.at_ J.turn J.used J.pend := hled.same ha0 fun k hk => hs _ (hne k (by omega))
  refine ⟨hn4, hl2, hln, h.live, ⟨a0, t0, ha0, ht0, by show S' ((J.head + 1) % 2) = _; rw [hlow _ (Nat.mod_lt _ (by omega))]; exact hs0, ?_⟩, ⟨a1, t1, ha1, ht1, ht1', by show S' (J.head % 2) = _; rw [hlow _ (Nat.mod_lt _ (by omega))]; exact hs1⟩, h.head, ht, fun k hk => ?_, fun i hi => ?_, fun i => ?_⟩
  · refine Led.more l hled' h0 hl (fun k hk => ?_) hd hm
    show S' (2 + (J.at_ + k) % J.log) = _
    rw [hs (2 + (J.at_ + k) % J.log) (by have := hne (J.used + k) (by omega); rw [← hpl] at this; exact this)]
    exact he k hk
  · show Fine (J.turn + 1) (S' (2 + ((J.at_ + l.length + 1) % J.log + k) % J.log))
    have hk' : k < J.log - (J.used + l.length + 1) := hk
    rw [Nat.mod_add_mod, hs]
    · have := h.free (l.length + 1 + k) (by omega)
      rw [show J.at_ + (l.length + 1 + k) = J.at_ + l.length + 1 + k by omega] at this
      exact this.mono (by omega)
    · intro e
      unfold Jn.place at e
      have := ring_ne (L := J.log) (a := J.at_) (i := l.length + 1 + k) (j := l.length) (by omega) (by omega) (by omega)
      rw [show J.at_ + (l.length + 1 + k) = J.at_ + l.length + 1 + k by omega] at this
      omega
  · show (match putAll J.pend l i with | some b => b = nowAll now l i | none => HomeOk (S' (2 + J.log + i)) i (nowAll now l i))
    have hi' : i < n - 2 - J.log := hi
    rw [putAll_or, hhigh _ (by omega)]
    unfold nowAll
    have := h.homes i hi'
    cases e : putAll (fun _ => none) l i with
    | some b => rfl
    | none => exact this
  · unfold nowAll
    cases e : putAll (fun _ => none) l i with
    | some b => exact putAll_flat (fun x hx => (hl x hx).2) i b e
    | none => exact h.flat i
/-- Some of what is pending is written home. -/
theorem Inv.goHome (h : Inv n S J now) (hs : ∀ i, S' i = S i ∨ ∃ j b, J.pend j = some b ∧ i = 2 + J.log + j ∧ S' i = packS (homeSct j b)) : Inv n S' J now := by
  have hl2 := h.log2
  have hlow : ∀ i, i < 2 + J.log → S' i = S i := fun i hi => (hs i).elim id (fun ⟨j, b, _, e, _⟩ => by omega)
  obtain ⟨a0, t0, ha0, ht0, hs0, hled⟩ := h.hd
  obtain ⟨a1, t1, ha1, ht1, ht1', hs1⟩ := h.other
  have hm : ∀ x, x % J.log < J.log := fun x => Nat.mod_lt _ (by omega)
  have hm2 : ∀ x, x % 2 < 2 := fun x => Nat.mod_lt _ (by omega)
  refine ⟨h.n4, hl2, h.logn, h.live, ⟨a0, t0, ha0, ht0, by rw [hlow _ (by have := hm2 (J.head + 1); omega)]; exact hs0, hled.same ha0 fun k hk => hlow _ (by have := hm (a0 + k); omega)⟩, ⟨a1, t1, ha1, ht1, ht1', by rw [hlow _ (by have := hm2 J.head; omega)]; exact hs1⟩, h.head, h.turn, fun k hk => ?_, fun i hi => ?_, h.flat⟩
  · rw [hlow _ (by have := hm (J.at_ + k); omega)]
    exact h.free k hk
  · have h1 := h.homes i hi
    cases e : J.pend i with
    | some b => rw [e] at h1; exact h1
    | none =>
      rw [e] at h1
      simp only at h1 ⊢
      have : S' (2 + J.log + i) = S (2 + J.log + i) := (hs _).elim id (fun ⟨j, b, e1, e2, _⟩ => by
        have : j = i := by omega
        rw [this, e] at e1
        cases e1)
      rw [this]
      exact h1
/-- All is at home, and the next head is written. -/
theorem Inv.clears (h : Inv n S J now) (hh : J.head + 1 < 1099511627776) (hp : ∀ j b, J.pend j = some b → S (2 + J.log + j) = packS (homeSct j b)) (hs : ∀ i, i ≠ J.head % 2 → S' i = S i)
    (hd : S' (J.head % 2) = packS (headSct (J.head + 1) J.log J.at_ J.turn)) : Inv n S' J.cleared now := by
  have hl2 := h.log2
  have hn4 := h.n4
  have hln := h.logn
  have ht := h.turn
  obtain ⟨a0, t0, ha0, ht0, hs0, hled⟩ := h.hd
  obtain ⟨f1, f2, f3, f4, _⟩ := hled.facts ha0
  have hm2 : ∀ x, x % 2 < 2 := fun x => Nat.mod_lt _ (by omega)
  have hhd := hm2 J.head
  have hfine := hled.fine ha0 (by omega) (by omega) (by omega)
  refine ⟨hn4, hl2, hln, h.live, ⟨J.at_, J.turn, f4, by omega, ?_, Led.base⟩, ⟨a0, t0, ha0, ht0, by omega, ?_⟩, ⟨by show 2 ≤ J.head + 1; have := h.head; omega, hh⟩, ht, fun k hk => ?_, fun i hi => ?_, h.flat⟩
  · show S' ((J.head + 1 + 1) % 2) = _
    rw [show (J.head + 1 + 1) % 2 = J.head % 2 by omega]
    exact hd
  · show S' ((J.head + 1) % 2) = packS (headSct (J.head + 1 - 1) J.log a0 t0)
    rw [hs _ (by omega), Nat.add_sub_cancel]
    exact hs0
  · show Fine J.turn (S' (2 + (J.at_ + k) % J.log))
    have hk' : k < J.log - 0 := hk
    rw [hs _ (by omega)]
    by_cases h1 : k < J.log - J.used
    · exact h.free k h1
    · have := hfine (k - (J.log - J.used)) (by omega)
      have e : (J.at_ + k) % J.log = (a0 + (k - (J.log - J.used))) % J.log := by
        rw [f1, Nat.mod_add_mod, show a0 + J.used + k = a0 + (k - (J.log - J.used)) + J.log by omega, Nat.add_mod_right]
      rw [e]
      exact this
  · show HomeOk (S' (2 + J.log + i)) i (now i)
    have hi' : i < n - 2 - J.log := hi
    rw [hs _ (by omega)]
    have h1 := h.homes i hi'
    cases e : J.pend i with
    | none => rw [e] at h1; exact h1
    | some b =>
      rw [e] at h1
      simp only at h1
      rw [← h1]
      exact .inr (hp i b e)
end
/-! ### Two phases -/
structure Fwd (P P' : Pl) (m : Nat) : Prop where
  n : P'.n = P.n
  fails : P'.fails = P.fails
  left : P.fails = true → P'.left = P.left - m
theorem Fwd.can {P P' : Pl} {m k : Nat} (h : Fwd P P' m) : Can P' k ↔ Can P (m + k) := by
  unfold Can
  rw [h.fails]
  constructor <;> intro h1 hf <;> have h2 := h1 hf <;> have h3 := h.left hf <;> omega
theorem Fwd.trans {P P' P'' : Pl} {m k : Nat} (h : Fwd P P' m) (h' : Fwd P' P'' k) : Fwd P P'' (m + k) :=
  ⟨h'.n.trans h.n, h'.fails.trans h.fails, fun hf => by rw [h'.left (by rw [h.fails]; exact hf), h.left hf]; omega⟩
theorem can_mono {P : Pl} {m k : Nat} (h : Can P k) (hm : m ≤ k) : Can P m := fun hf => by have := h hf; omega
theorem run_phase' {S : Nat → Sec} {l : List (Nat × Sec)} {P : Pl} (h : Live P S (fun _ => none)) (hl : ∀ x ∈ l, x.1 < P.n ∧ Neat x.2) (h0 : Can P 0) :
    (Can P (l.length + 1) → runE (wrs l ++ [.fl]) P = 0 ∧ Live (runP (wrs l ++ [.fl]) P) (setAll S l) (fun _ => none) ∧ Fwd P (runP (wrs l ++ [.fl]) P) (l.length + 1)) ∧
    (¬ Can P (l.length + 1) → runE (wrs l ++ [.fl]) P = 50 ∧ Fell (runP (wrs l ++ [.fl]) P) S l) := by
  obtain ⟨h1, h2⟩ := run_phase h hl h0
  refine ⟨fun hc => ?_, h2⟩
  obtain ⟨e1, e2⟩ := h1 hc
  refine ⟨e1, ?_, ?_⟩
  · rw [e2]
    have := spent_live h (l.length + 1)
    exact ⟨this.dead, rfl, rfl⟩
  · rw [e2]
    refine ⟨spent_n _ _, spent_fails _ _, fun hf => ?_⟩
    show (spent P _).left = _
    unfold spent
    rw [if_pos hf]
theorem run_two {S : Nat → Sec} {l k : List (Nat × Sec)} {P : Pl} (h : Live P S (fun _ => none)) (hl : ∀ x ∈ l, x.1 < P.n ∧ Neat x.2) (hk : ∀ x ∈ k, x.1 < P.n ∧ Neat x.2) (h0 : Can P 0) {ws : List Wk} (hw : ws = (wrs l ++ [.fl]) ++ (wrs k ++ [.fl])) :
    (Can P (l.length + 1 + (k.length + 1)) → runE ws P = 0 ∧ Live (runP ws P) (setAll (setAll S l) k) (fun _ => none) ∧ Fwd P (runP ws P) (l.length + 1 + (k.length + 1))) ∧
    (¬ Can P (l.length + 1 + (k.length + 1)) → runE ws P = 50 ∧ (Fell (runP ws P) S l ∨ Fell (runP ws P) (setAll S l) k)) := by
  subst hw
  obtain ⟨h1, h2⟩ := run_phase' h hl h0
  rw [runE_append (wrs l ++ [Wk.fl]) (wrs k ++ [Wk.fl]), runP_append (wrs l ++ [Wk.fl]) (wrs k ++ [Wk.fl])]
  generalize runE (wrs l ++ [Wk.fl]) P = E1 at *
  generalize runP (wrs l ++ [Wk.fl]) P = P1 at *
  by_cases hc : Can P (l.length + 1)
  · obtain ⟨e1, e2, e3⟩ := h1 hc
    rw [e1]
    simp only [ne_eq, not_true_eq_false, if_false]
    obtain ⟨g1, g2⟩ := run_phase' e2 (fun x hx => by rw [e3.n]; exact hk x hx) (e3.can.2 (by exact hc))
    constructor
    · intro hc2
      obtain ⟨j1, j2, j3⟩ := g1 (e3.can.2 hc2)
      exact ⟨j1, j2, e3.trans j3⟩
    · intro hc2
      obtain ⟨j1, j2⟩ := g2 (fun h' => hc2 (e3.can.1 h'))
      exact ⟨j1, .inr j2⟩
  · obtain ⟨e1, e2⟩ := h2 hc
    rw [e1]
    simp only [ne_eq, show ¬ ((50 : Int) = 0) by decide, not_false_eq_true, if_true]
    exact ⟨fun h' => absurd (can_mono h' (by omega)) hc, fun _ => ⟨trivial, .inl e2⟩⟩
/-! ### What a plate is behind a call -/
structure Down (P : Pl) (S : Nat → Sec) (n : Nat) : Prop where
  dead : P.dead = true
  fails : P.fails = false
  waits : P.waits = fun _ => none
  stays : P.stays = S
  n : P.n = n
section
variable {n : Nat} {S : Nat → Sec} {J : Jn} {now : Nat → Blk} {P : Pl}
def homesL (J : Jn) (n : Nat) : List (Nat × Sec) := (J.keys n).map fun i => (2 + J.log + i, packS (homeSct i ((J.pend i).getD zeroB)))
theorem clearW_eq (J : Jn) (n : Nat) : J.clearW n = (wrs (homesL J n) ++ [.fl]) ++ (wrs [(J.head % 2, packS (headSct (J.head + 1) J.log J.at_ J.turn))] ++ [.fl]) := by
  unfold Jn.clearW homesL wrs
  simp [List.map_map, Function.comp_def]
theorem keys_mem {i : Nat} : i ∈ J.keys n ↔ i < n - 2 - J.log ∧ (J.pend i).isSome = true := by
  unfold Jn.keys
  rw [List.mem_filter, List.mem_range]
theorem homesL_mem {x : Nat × Sec} (hx : x ∈ homesL J n) : ∃ i b, i < n - 2 - J.log ∧ J.pend i = some b ∧ x = (2 + J.log + i, packS (homeSct i b)) := by
  obtain ⟨i, hi, rfl⟩ := List.mem_map.1 hx
  obtain ⟨h1, h2⟩ := keys_mem.1 hi
  obtain ⟨b, hb⟩ := Option.isSome_iff_exists.1 h2
  exact ⟨i, b, h1, hb, by rw [hb]; rfl⟩
theorem homesL_nodup : ((homesL J n).map (·.1)).Nodup := by
  unfold homesL
  rw [List.map_map]
  have h1 : (J.keys n).Nodup := List.Pairwise.filter _ List.nodup_range
  refine List.Pairwise.map _ (fun a b hab e => ?_) h1
  simp only [Function.comp] at e
  exact hab (by omega)
def clearM (J : Jn) (n : Nat) : Nat := (J.keys n).length + 3
theorem Inv.clear (h : Inv n S J now) (hP : Live P S (fun _ => none)) (hn : P.n = n) (h0 : Can P 0) (hh : J.head + 1 < 1099511627776) :
    (Can P (clearM J n) → clearE P J = 0 ∧ clearJ P J = J.cleared ∧ ∃ S', Inv n S' J.cleared now ∧ Live (clearP P J) S' (fun _ => none) ∧ Fwd P (clearP P J) (clearM J n) ∧ ∀ i, i < n - 2 - J.log → J.pend i = none → S' (2 + J.log + i) = S (2 + J.log + i)) ∧
    (¬ Can P (clearM J n) → clearE P J = 50 ∧ clearJ P J = J.brk ∧ ∃ S' J', Inv n S' J' now ∧ (J' = J ∨ J' = J.cleared) ∧ Down (clearP P J) S' n) := by
  subst hn
  have hl2 := h.log2
  have hln := h.logn
  have hm2 : J.head % 2 < 2 := Nat.mod_lt _ (by omega)
  unfold clearE clearP clearJ
  rw [h.live]
  simp only [Bool.false_eq_true, if_false]
  obtain ⟨r1, r2⟩ := run_two (l := homesL J P.n) (k := [(J.head % 2, packS (headSct (J.head + 1) J.log J.at_ J.turn))]) hP
    (fun x hx => by obtain ⟨i, b, h1, _, rfl⟩ := homesL_mem hx; exact ⟨by show 2 + J.log + i < P.n; omega, neat_pack _⟩)
    (fun x hx => by simp only [List.mem_singleton] at hx; rw [hx]; exact ⟨by show J.head % 2 < P.n; omega, neat_pack _⟩) h0 (clearW_eq J P.n)
  have hM : (homesL J P.n).length + 1 + ([(J.head % 2, packS (headSct (J.head + 1) J.log J.at_ J.turn))].length + 1) = clearM J P.n := by
    simp [homesL, clearM]
  rw [hM] at r1 r2
  have hhome : ∀ {l : List (Nat × Sec)}, (∀ x ∈ l, x ∈ homesL J P.n) → ∀ {S' : Nat → Sec}, (∀ i, S' i = S i ∨ (i, S' i) ∈ l) → Inv P.n S' J now := fun {l} hl {S'} hs => by
    refine h.goHome fun i => (hs i).imp id fun hm => ?_
    obtain ⟨j, b, _, h2, h3⟩ := homesL_mem (hl _ hm)
    have e1 := congrArg Prod.fst h3
    have e2 := congrArg Prod.snd h3
    exact ⟨j, b, h2, e1, e2⟩
  have hS1 : Inv P.n (setAll S (homesL J P.n)) J now := hhome (fun _ h => h) (setAll_or S _)
  have hpend : ∀ j b, J.pend j = some b → setAll S (homesL J P.n) (2 + J.log + j) = packS (homeSct j b) := fun j b hj => by
    have hjB : j < P.n - 2 - J.log := Nat.lt_of_not_le fun hle => by rw [h.ok.pend j hle] at hj; cases hj
    have hmem : (2 + J.log + j, packS (homeSct j b)) ∈ homesL J P.n := List.mem_map.2 ⟨j, keys_mem.2 ⟨hjB, by rw [hj]; rfl⟩, by rw [hj]; rfl⟩
    exact setAll_in homesL_nodup hmem
  constructor
  · intro hc
    obtain ⟨e1, e2, e3⟩ := r1 hc
    refine ⟨e1, by rw [e1]; simp, _, ?_, e2, e3, ?_⟩
    · exact hS1.clears hh hpend (fun i hi => setAll_out (by simp; exact fun e => hi e.symm)) (setAll_in (x := (J.head % 2, packS (headSct (J.head + 1) J.log J.at_ J.turn))) (by simp) (List.mem_singleton.2 rfl))
    · intro i hi hpi
      rw [setAll_out (by simp; omega)]
      refine setAll_out fun x hx => ?_
      obtain ⟨j, b, _, h2, rfl⟩ := homesL_mem hx
      intro e
      have : j = i := by simp only at e; omega
      rw [this, hpi] at h2
      cases h2
  · intro hc
    obtain ⟨e1, e2⟩ := r2 hc
    refine ⟨e1, by rw [e1]; simp, ?_⟩
    have hrn : (runP (J.clearW P.n) P).n = P.n := runP_n _ _
    rcases e2 with e2 | e2
    · exact ⟨_, J, hhome (fun _ h => h) e2.some_, .inl rfl, e2.dead, e2.fails, e2.waits, rfl, hrn⟩
    · by_cases e : (runP (J.clearW P.n) P).stays (J.head % 2) = packS (headSct (J.head + 1) J.log J.at_ J.turn)
      · refine ⟨_, J.cleared, hS1.clears hh hpend (fun i hi => ?_) e, .inr rfl, e2.dead, e2.fails, e2.waits, rfl, hrn⟩
        refine (e2.some_ i).elim id fun hm => ?_
        simp only [List.mem_singleton] at hm
        exact absurd (congrArg Prod.fst hm) hi
      · refine ⟨_, J, hhome (fun _ h => h) (fun i => ?_), .inl rfl, e2.dead, e2.fails, e2.waits, rfl, hrn⟩
        rcases e2.some_ i with h1 | h1
        · rw [h1]; exact setAll_or S _ i
        · simp only [List.mem_singleton] at h1
          have h2 := congrArg Prod.fst h1
          have h3 := congrArg Prod.snd h1
          simp only at h2 h3
          rw [h2] at h3
          exact absurd h3 e
def entriesL (J : Jn) (l : List (Nat × Blk)) : List (Nat × Sec) := (List.range l.length).map fun i => (J.place i, packS (entrySct J.turn (l.getD i (0, zeroB))))
theorem writeW_eq (J : Jn) (l : List (Nat × Blk)) : J.writeW l = (wrs (entriesL J l) ++ [.fl]) ++ (wrs [(J.place l.length, packS (endSct J.turn l.length))] ++ [.fl]) := by
  unfold Jn.writeW Jn.entriesW entriesL wrs
  simp [List.map_map, Function.comp_def]
theorem entriesL_mem {l : List (Nat × Blk)} {x : Nat × Sec} (hx : x ∈ entriesL J l) : ∃ k, ∃ hk : k < l.length, x = (J.place k, packS (entrySct J.turn l[k])) := by
  obtain ⟨k, hk, rfl⟩ := List.mem_map.1 hx
  rw [List.mem_range] at hk
  refine ⟨k, hk, ?_⟩
  rw [List.getD_eq_getElem?_getD, List.getElem?_eq_getElem hk]
  rfl
theorem place_inj {i j : Nat} (hi : i < J.log) (hj : j < J.log) (e : J.place i = J.place j) : i = j := by
  refine Classical.byContradiction fun h => ?_
  unfold Jn.place at e
  exact ring_ne (a := J.at_) hi hj h (by omega)
theorem entriesL_nodup {l : List (Nat × Blk)} (hl : l.length < J.log) : ((entriesL J l).map (·.1)).Nodup := by
  unfold entriesL
  rw [List.map_map]
  refine List.pairwise_map.2 (List.Pairwise.imp_of_mem (fun {a b} ha hb hab e => hab ?_) (List.nodup_range (n := l.length)))
  rw [List.mem_range] at ha hb
  exact place_inj (by omega) (by omega) e
/-- The entries and their end, into a log that has room. -/
theorem Inv.write (h : Inv n S J now) (hP : Live P S (fun _ => none)) (hn : P.n = n) (h0 : Can P 0) (ht : J.turn + 1 < 1099511627776) {l : List (Nat × Blk)} (hl0 : l ≠ []) (hl : ∀ x ∈ l, x.1 < n - 2 - J.log ∧ Flat x.2) (hm : J.used + l.length + 1 ≤ J.log) :
    (Can P (l.length + 3) → runE (J.writeW l) P = 0 ∧ ∃ S', Inv n S' (J.wrote l) (nowAll now l) ∧ Live (runP (J.writeW l) P) S' (fun _ => none) ∧ Fwd P (runP (J.writeW l) P) (l.length + 3) ∧
      (∀ k (hk : k < l.length), S' (J.place k) = packS (entrySct J.turn l[k])) ∧ S' (J.place l.length) = packS (endSct J.turn l.length) ∧ (∀ i, (i < 2 ∨ 2 + J.log ≤ i) → S' i = S i)) ∧
    (¬ Can P (l.length + 3) → runE (J.writeW l) P = 50 ∧ ∃ S' J', ((J' = J ∧ Inv n S' J now) ∨ (J' = J.wrote l ∧ Inv n S' (J.wrote l) (nowAll now l))) ∧ Down (runP (J.writeW l) P) S' n) := by
  have hl2 := h.log2
  have hln := h.logn
  have hrange := fun k => J.place_range (by omega) k
  obtain ⟨r1, r2⟩ := run_two (l := entriesL J l) (k := [(J.place l.length, packS (endSct J.turn l.length))]) hP
    (fun x hx => by obtain ⟨k, hk, rfl⟩ := entriesL_mem hx; exact ⟨by show J.place k < P.n; have := hrange k; omega, neat_pack _⟩)
    (fun x hx => by simp only [List.mem_singleton] at hx; rw [hx]; exact ⟨by show J.place _ < P.n; have := hrange l.length; omega, neat_pack _⟩) h0 (writeW_eq J l)
  have hM : (entriesL J l).length + 1 + ([(J.place l.length, packS (endSct J.turn l.length))].length + 1) = l.length + 3 := by simp [entriesL]
  rw [hM] at r1 r2
  have hent : ∀ {S' : Nat → Sec}, (∀ i, S' i = S i ∨ (i, S' i) ∈ entriesL J l) → Inv n S' J now := fun {S'} hs => by
    refine h.entries hl hm fun i => (hs i).imp id fun hmm => ?_
    obtain ⟨k, hk, e⟩ := entriesL_mem hmm
    have e1 := congrArg Prod.fst e
    have e2 := congrArg Prod.snd e
    exact ⟨k, hk, e1, e2⟩
  have hS1 : Inv n (setAll S (entriesL J l)) J now := hent (setAll_or S _)
  have hin : ∀ k (hk : k < l.length), setAll S (entriesL J l) (J.place k) = packS (entrySct J.turn l[k]) := fun k hk => by
    have hmem : (J.place k, packS (entrySct J.turn l[k])) ∈ entriesL J l := List.mem_map.2 ⟨k, List.mem_range.2 hk, by rw [List.getD_eq_getElem?_getD, List.getElem?_eq_getElem hk]; rfl⟩
    exact setAll_in (entriesL_nodup (by omega)) hmem
  constructor
  · intro hc
    obtain ⟨e1, e2, e3⟩ := r1 hc
    have hout : ∀ i, i ≠ J.place l.length → setAll (setAll S (entriesL J l)) [(J.place l.length, packS (endSct J.turn l.length))] i = setAll S (entriesL J l) i := fun i hi => setAll_out (by simp; exact fun e => hi e.symm)
    have hend : setAll (setAll S (entriesL J l)) [(J.place l.length, packS (endSct J.turn l.length))] (J.place l.length) = packS (endSct J.turn l.length) := setAll_in (x := (J.place l.length, packS (endSct J.turn l.length))) (by simp) (List.mem_singleton.2 rfl)
    refine ⟨e1, _, hS1.end_ hl0 hl hm ht hin hout hend, e2, e3, fun k hk => ?_, hend, fun i hi => ?_⟩
    · rw [hout _ (fun e => by have := place_inj (by omega) (by omega) e; omega)]
      exact hin k hk
    · rw [hout _ (by have := hrange l.length; omega)]
      refine setAll_out fun x hx => ?_
      obtain ⟨k, hk, rfl⟩ := entriesL_mem hx
      have := hrange k
      simp only
      omega
  · intro hc
    obtain ⟨e1, e2⟩ := r2 hc
    refine ⟨e1, ?_⟩
    have hrn : (runP (J.writeW l) P).n = n := by rw [runP_n]; exact hn
    rcases e2 with e2 | e2
    · exact ⟨_, J, .inl ⟨rfl, hent e2.some_⟩, e2.dead, e2.fails, e2.waits, rfl, hrn⟩
    · by_cases e : (runP (J.writeW l) P).stays (J.place l.length) = packS (endSct J.turn l.length)
      · refine ⟨_, _, .inr ⟨rfl, hS1.end_ hl0 hl hm ht hin (fun i hi => ?_) e⟩, e2.dead, e2.fails, e2.waits, rfl, hrn⟩
        refine (e2.some_ i).elim id fun hmm => ?_
        simp only [List.mem_singleton] at hmm
        exact absurd (congrArg Prod.fst hmm) hi
      · refine ⟨_, J, .inl ⟨rfl, hent (fun i => ?_)⟩, e2.dead, e2.fails, e2.waits, rfl, hrn⟩
        rcases e2.some_ i with h1 | h1
        · rw [h1]; exact setAll_or S _ i
        · simp only [List.mem_singleton] at h1
          have h2 := congrArg Prod.fst h1
          have h3 := congrArg Prod.snd h1
          simp only at h2 h3
          rw [h2] at h3
          exact absurd h3 e
/-- How many doings a Commit of so many puts has. -/
def putM (J : Jn) (n m : Nat) : Nat := (if J.tight m then clearM J n else 0) + (m + 3)
def putJ' (J : Jn) (l : List (Nat × Blk)) : Jn := if J.tight l.length then J.cleared.wrote l else J.wrote l
theorem Inv.put (h : Inv n S J now) (hP : Live P S (fun _ => none)) (hn : P.n = n) (h0 : Can P 0) (ht : J.turn + 1 < 1099511627776) (hh : J.head + 1 < 1099511627776) {l : List (Nat × Blk)} (hl0 : l ≠ []) (hl : ∀ x ∈ l, x.1 < n - 2 - J.log ∧ Flat x.2) (hm : l.length + 1 ≤ J.log) :
    (Can P (putM J n l.length) → putE P J l = 0 ∧ putJ P J l = putJ' J l ∧ ∃ S', Inv n S' (putJ' J l) (nowAll now l) ∧ Live (putP P J l) S' (fun _ => none) ∧ Fwd P (putP P J l) (putM J n l.length)) ∧
    (¬ Can P (putM J n l.length) → putE P J l = 50 ∧ (putJ P J l).broken = true ∧ ∃ S' J', (Inv n S' J' now ∨ Inv n S' J' (nowAll now l)) ∧ J'.log = J.log ∧ J'.turn ≤ J.turn + 1 ∧ J'.head ≤ J.head + 1 ∧ Down (putP P J l) S' n) := by
  have hlen : 0 < l.length := List.length_pos_iff.2 hl0
  have hu := h.ok.used
  unfold putE putP putJ putM putJ'
  by_cases htt : J.tight l.length = true
  · rw [htt]
    simp only [if_true]
    obtain ⟨c1, c2⟩ := h.clear hP hn h0 hh
    by_cases hc : Can P (clearM J n)
    · obtain ⟨e1, e2, S1, hI, hL, hF, _⟩ := c1 hc
      rw [e1]
      simp only [ne_eq, not_true_eq_false, if_false]
      obtain ⟨w1, w2⟩ := hI.write hL (hF.n.trans hn) (hF.can.2 (by exact hc)) ht hl0 hl (by show 0 + l.length + 1 ≤ J.log; omega)
      constructor
      · intro hcc
        obtain ⟨f1, S2, f2, f3, f4, _⟩ := w1 (hF.can.2 hcc)
        exact ⟨f1, by rw [f1]; simp, S2, f2, f3, hF.trans f4⟩
      · intro hcc
        obtain ⟨f1, S2, J2, f2, f3⟩ := w2 (fun h' => hcc (hF.can.1 h'))
        refine ⟨f1, by rw [f1]; rfl, S2, J2, ?_, ?_⟩
        · rcases f2 with ⟨rfl, f2⟩ | ⟨rfl, f2⟩
          · exact .inl f2
          · exact .inr f2
        · rcases f2 with ⟨rfl, f2⟩ | ⟨rfl, f2⟩
          · exact ⟨rfl, Nat.le_succ _, Nat.le_refl _, f3⟩
          · exact ⟨rfl, Nat.le_refl _, Nat.le_refl _, f3⟩
    · obtain ⟨e1, e2, S1, J1, hI, hJ1, hD⟩ := c2 hc
      rw [e1]
      simp only [ne_eq, show ¬ ((50 : Int) = 0) by decide, not_false_eq_true, if_true]
      refine ⟨fun hcc => absurd (can_mono hcc (by omega)) hc, fun _ => ⟨trivial, rfl, S1, J1, .inl hI, ?_⟩⟩
      rcases hJ1 with rfl | rfl
      · exact ⟨rfl, Nat.le_succ _, Nat.le_succ _, hD⟩
      · exact ⟨rfl, Nat.le_succ _, Nat.le_refl _, hD⟩
  · simp only [htt, Bool.false_eq_true, if_false, Nat.zero_add]
    have hfree : J.used + l.length + 1 ≤ J.log := by
      unfold Jn.tight Jn.free at htt
      rw [h.live] at htt
      simp only [Bool.false_eq_true, if_false, decide_eq_true_eq] at htt
      omega
    obtain ⟨w1, w2⟩ := h.write hP hn h0 ht hl0 hl hfree
    constructor
    · intro hcc
      obtain ⟨f1, S2, f2, f3, f4, _⟩ := w1 hcc
      exact ⟨f1, by rw [f1]; simp, S2, f2, f3, f4⟩
    · intro hcc
      obtain ⟨f1, S2, J2, f2, f3⟩ := w2 hcc
      refine ⟨f1, by rw [f1]; rfl, S2, J2, ?_, ?_⟩
      · rcases f2 with ⟨rfl, f2⟩ | ⟨rfl, f2⟩
        · exact .inl f2
        · exact .inr f2
      · rcases f2 with ⟨rfl, f2⟩ | ⟨rfl, f2⟩
        · exact ⟨rfl, Nat.le_succ _, Nat.le_succ _, f3⟩
        · exact ⟨rfl, Nat.le_refl _, Nat.le_succ _, f3⟩
/-! ### What is read -/
theorem Inv.read (h : Inv n S J now) (hP : Live P S (fun _ => none)) (hn : P.n = n) {i : Nat} (hi : i < n - 2 - J.log) : readE P J i = 0 ∧ readB P J i = now i ∧ readJ P J i = J := by
  have hh := h.homes i hi
  have hln := h.logn
  have hn4 := h.n4
  have hb : J.blocks P.n = n - 2 - J.log := by unfold Jn.blocks; rw [h.live, hn]; simp
  have hnot : ¬ ((i : Int) < 0 ∨ (J.blocks P.n : Int) ≤ i) := by rw [hb]; omega
  have hhas : P.has (J.home i) = 0 := has_live hP.dead (by unfold Jn.home; omega)
  unfold readE readB readJ
  rw [h.live, if_neg hnot, if_neg hnot]
  simp only [Bool.false_eq_true, if_false, Int.toNat_natCast]
  rw [seen_live hP]
  cases e : J.pend i with
  | some b => rw [e] at hh; exact ⟨rfl, hh, rfl⟩
  | none =>
    rw [e] at hh
    simp only [hhas, ne_eq, not_true_eq_false, if_false]
    refine ⟨?_, ?_, trivial⟩
    · show homeE (S (2 + J.log + i)) i = 0
      rcases hh with ⟨h1, _⟩ | h1
      · rw [h1]; unfold homeE; rw [bytes_zero]; simp
      · have hft := fits_home (show i < 65536 by omega) (h.flat i)
        rw [h1]
        unfold homeE
        rw [pack_not_blank hft (by show (4 : Int) ≠ 0; decide), pack_ok, pack_parse hft]
        simp [homeSct]
    · show homeB (S (2 + J.log + i)) = now i
      rcases hh with ⟨h1, h2⟩ | h1
      · rw [h1, h2]; unfold homeB; rw [bytes_zero]; simp
      · have hft := fits_home (show i < 65536 by omega) (h.flat i)
        rw [h1]
        unfold homeB
        rw [pack_not_blank hft (by show (4 : Int) ≠ 0; decide), pack_parse hft]
        simp [homeSct]
end
end Go.Proofs.YtdhidcoglioalaaGreat.Plain
