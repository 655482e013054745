/-
  The log is read a piece at a time, in plain words.
-/
import Derived.Test.YtdhidcoglioalaaGreatM06
namespace Go.Proofs.YtdhidcoglioalaaGreat.Plain
theorem putAll_snoc (f : Nat → Option Blk) (l : List (Nat × Blk)) (x : Nat × Blk) : putAll f (l ++ [x]) = upd (putAll f l) x.1 (some x.2) := by simp [putAll]
/-- Which of them the map has. -/
theorem putAll_some {f : Nat → Option Blk} : ∀ (l : List (Nat × Blk)) (i : Nat), (putAll f l i).isSome = true ↔ i ∈ l.map (·.1) ∨ (f i).isSome = true := by
  intro l
  induction l using snoc_ind with
  | nil => intro i; simp [putAll]
  | append_singleton l x ih =>
    intro i
    rw [putAll_snoc]
    by_cases h : i = x.1
    · rw [h, upd_same]; simp
    · rw [upd_other _ _ h, ih]; simp [h]
/-- What is found from where the log goes on: nothing that is right, nothing, or so many entries. -/
inductive Scan where
  | bad
  | stop
  | found (l : List (Nat × Blk))
def scanL (S : Nat → Sec) (log blocks a t : Nat) : Nat → List (Nat × Blk) → Scan
  | 0, _ => .stop
  | f + 1, l =>
    let b := S (2 + (a + l.length) % log)
    if isBlank b then .stop
    else if !parseOk b || ((parseS b).kind != 2 && (parseS b).kind != 3) then .bad
    else if (parseS b).turn != t then .stop
    else if (parseS b).kind == 2 then scanL S log blocks a t f (l ++ [(getN (cutS b 6 2), (parseS b).data)])
    else if (getN (cutS b 6 2) != l.length) || l.length == 0 || !(cutS b 8 48).all (· == 0) || l.any (fun x => decide (blocks ≤ x.1)) then .bad
    else .found l
section
variable {S : Nat → Sec} {log blocks a t : Nat}
theorem scan_found : ∀ (f : Nat) (l k : List (Nat × Blk)), scanL S log blocks a t f l = .found k → k.length < l.length + f ∧ k ≠ [] ∧ (∀ x ∈ k, x.1 < blocks) ∧ ((∀ x ∈ l, Flat x.2) → ∀ x ∈ k, Flat x.2) := by
  intro f
  induction f with
  | zero => intro l k h; cases h
  | succ f ih =>
    intro l k h
    simp only [scanL] at h
    split at h
    · cases h
    · split at h
      · cases h
      · split at h
        · cases h
        · split at h
          · obtain ⟨i1, i2, i3, i4⟩ := ih _ _ h
            rw [List.length_append, List.length_singleton] at i1
            refine ⟨by omega, i2, i3, fun hl => i4 fun x hx => ?_⟩
            rcases List.mem_append.1 hx with hx | hx
            · exact hl x hx
            · simp only [List.mem_singleton] at hx
              rw [hx]
              exact flat_blkOf _
          · split at h
            · cases h
            · rename_i hn
              cases h
              simp only [Bool.or_eq_true, not_or, Bool.not_eq_true, beq_eq_false_iff_ne, ne_eq, List.any_eq_false, decide_eq_true_eq, Nat.not_le] at hn
              refine ⟨by omega, fun e => hn.1.1.2 (by rw [e]; rfl), hn.2, fun hl => hl⟩
theorem replay_scan : ∀ (f u : Nat) (l : List (Nat × Blk)) (p : Nat → Option Blk), replay S log blocks f a t u l p = match scanL S log blocks a t f l with
    | .bad => none
    | .stop => some (a, t, u, p)
    | .found k => replay S log blocks (f + l.length - (k.length + 1)) ((a + k.length + 1) % log) (t + 1) (u + k.length + 1) [] (putAll p k) := by
  intro f
  induction f with
  | zero => intro u l p; rfl
  | succ f ih =>
    intro u l p
    simp only [replay, scanL]
    split
    · rfl
    · split
      · rfl
      · split
        · rfl
        · split
          · rw [ih]
            have e : f + (l ++ [(getN (cutS (S (2 + (a + l.length) % log)) 6 2), (parseS (S (2 + (a + l.length) % log))).data)]).length = f + 1 + l.length := by simp; omega
            rw [e]
          · split
            · rfl
            · have e : f + 1 + l.length - (l.length + 1) = f := by omega
              simp only [e]
/-- A journal that goes on being read: what is left of its log. -/
def goesOn (S : Nat → Sec) (blocks : Nat) (left : Nat) (J : Jn) : Option Jn :=
  match replay S J.log blocks left J.at_ J.turn J.used [] J.pend with
  | none => none
  | some (x, t, u, p) => some ⟨J.log, J.head, x, u, t, p, false⟩
theorem goesOn_scan (S : Nat → Sec) (blocks left : Nat) (J : Jn) (hb : J.broken = false) : goesOn S blocks left J = match scanL S J.log blocks J.at_ J.turn left [] with
    | .bad => none
    | .stop => some J
    | .found k => goesOn S blocks (left - (k.length + 1)) (J.wrote k) := by
  unfold goesOn
  rw [replay_scan left J.used [] J.pend]
  cases h : scanL S J.log blocks J.at_ J.turn left [] with
  | bad => rfl
  | stop =>
    obtain ⟨x1, x2, x3, x4, x5, x6, x7⟩ := J
    simp only at hb
    rw [hb]
  | found k => rfl
theorem goesOn_zero (S : Nat → Sec) (blocks : Nat) (J : Jn) (hb : J.broken = false) : goesOn S blocks 0 J = some J := by
  obtain ⟨x1, x2, x3, x4, x5, x6, x7⟩ := J
  simp only at hb
  rw [hb]
  rfl
end
end Go.Proofs.YtdhidcoglioalaaGreat.Plain
