/-
  A plate, in plain words.
-/
import Derived.Test.YtdhidcoglioalaaRows
namespace Go.Proofs.Ytdhidcoglioalaa.Plain
abbrev Byte := BitVec 8
abbrev Sec := Nat → Byte
def byteV (b : Byte) : Value := .int .u8 (b.toNat : Int)
/-- A sector's cells. -/
def secL (s : Sec) : List Value := (List.range 64).map fun j => byteV (s j)
def secC (s : Sec) : Array Value := (secL s).toArray
/-- The bytes of a sector, and the sector of bytes. -/
def bytesOf (s : Sec) : List Byte := (List.range 64).map s
def secOf (l : List Byte) : Sec := fun j => l.getD j 0
def zeroS : Sec := fun _ => 0
theorem secL_length (s : Sec) : (secL s).length = 64 := by simp [secL]
theorem bytesOf_length (s : Sec) : (bytesOf s).length = 64 := by simp [bytesOf]
def upd {α : Type} (f : Nat → α) (i : Nat) (x : α) : Nat → α := fun j => if j = i then x else f j
theorem upd_same {α : Type} (f : Nat → α) (i : Nat) (x : α) : upd f i x i = x := if_pos rfl
theorem upd_other {α : Type} (f : Nat → α) {i j : Nat} (x : α) (h : j ≠ i) : upd f i x j = f j := if_neg h

structure Pl where
  n : Nat
  stays : Nat → Sec
  waits : Nat → Option Sec
  dead : Bool
  fails : Bool
  left : Int
  keep : List Bool

namespace Pl
def made (n : Nat) : Pl := ⟨n, fun _ => zeroS, fun _ => none, false, false, 0, []⟩
def seen (P : Pl) (i : Nat) : Sec := (P.waits i).getD (P.stays i)
def rank (P : Pl) (i : Nat) : Nat := ((List.range i).filter fun j => (P.waits j).isSome).length
def ws (P : Pl) : List Nat := (List.range P.n).filter fun j => (P.waits j).isSome
def goneAt (P : Pl) (keep : List Bool) (i : Nat) : Sec :=
  match P.waits i with
  | some x => if keep.getD (P.rank i) false then x else P.stays i
  | none => P.stays i
def gone (P : Pl) (keep : List Bool) : Pl := { P with stays := P.goneAt keep, waits := fun _ => none, dead := true, fails := false }
/-- Does the power go in a doing's stead; the plate behind it. -/
def goes (P : Pl) : Bool := P.fails && !decide (0 < P.left)
def did (P : Pl) : Pl := if P.fails then (if 0 < P.left then { P with left := P.left - 1 } else P.gone P.keep) else P
def may (P : Pl) : Int := if P.dead then 50 else 0
def has (P : Pl) (i : Int) : Int := if P.dead then 50 else if i < 0 ∨ (P.n : Int) ≤ i then 9 else 0
def writeE (P : Pl) (i : Int) (b : List Byte) : Int := if P.has i ≠ 0 then P.has i else if b.length ≠ 64 then 2 else if P.goes then 50 else 0
def write (P : Pl) (i : Int) (b : List Byte) : Pl :=
  if P.has i ≠ 0 then P else if b.length ≠ 64 then P else if P.goes then P.did else { P.did with waits := upd P.did.waits i.toNat (some (secOf b)) }
def flushE (P : Pl) : Int := if P.dead then 50 else if P.goes then 50 else 0
def settled (P : Pl) : Pl := { P with stays := P.seen, waits := fun _ => none }
def flush (P : Pl) : Pl := if P.dead then P else if P.goes then P.did else P.did.settled
def failed (P : Pl) (n : Int) (keep : List Bool) : Pl := { P with fails := decide (0 ≤ n), left := n, keep := keep }
def fail (P : Pl) (n : Int) (keep : List Bool) : Pl := if P.dead then P else P.failed n keep
def crash (P : Pl) (keep : List Bool) : Pl := if P.dead then P else P.gone keep
def boot (P : Pl) : Pl := { P with dead := false, fails := false }
/-- A sector of which a bit is turned. -/
def flip (s : Sec) (bit : Nat) : Sec := upd s (bit / 8) (s (bit / 8) ^^^ (1#8 <<< (bit % 8)))
def turnE (P : Pl) (i bit : Int) : Int := if P.has i ≠ 0 then P.has i else if bit < 0 ∨ 512 ≤ bit then 9 else 0
def turned (P : Pl) (i bit : Nat) : Pl := { P with stays := upd P.stays i (flip (P.seen i) bit), waits := upd P.waits i none }
def turn (P : Pl) (i bit : Int) : Pl := if P.turnE i bit ≠ 0 then P else P.turned i.toNat bit.toNat
/-- What is so of each plate: only its sectors wait. -/
structure Ok (P : Pl) : Prop where
  pos : 0 < P.n
  most : P.n ≤ 4096
  waits : ∀ i, P.n ≤ i → P.waits i = none
  left : -9223372036854775808 ≤ P.left ∧ P.left ≤ 9223372036854775807
theorem Ok.gone {P : Pl} (h : P.Ok) (keep : List Bool) : (P.gone keep).Ok := ⟨h.pos, h.most, fun _ _ => rfl, h.left⟩
theorem Ok.did {P : Pl} (h : P.Ok) : P.did.Ok := by
  unfold Pl.did
  split
  · split
    · exact ⟨h.pos, h.most, h.waits, by have := h.left; show _ ≤ P.left - 1 ∧ P.left - 1 ≤ _; omega⟩
    · exact h.gone _
  · exact h
theorem did_n (P : Pl) : P.did.n = P.n := by
  unfold Pl.did
  split
  · split <;> rfl
  · rfl
theorem Ok.settled {P : Pl} (h : P.Ok) : P.settled.Ok := ⟨h.pos, h.most, fun _ _ => rfl, h.left⟩
theorem Ok.failed {P : Pl} (h : P.Ok) {n : Int} {keep : List Bool} (hn : -9223372036854775808 ≤ n ∧ n ≤ 9223372036854775807) : (P.failed n keep).Ok := ⟨h.pos, h.most, h.waits, hn⟩
theorem Ok.boot {P : Pl} (h : P.Ok) : P.boot.Ok := ⟨h.pos, h.most, h.waits, h.left⟩
theorem Ok.put {P : Pl} (h : P.Ok) {i : Nat} (hi : i < P.n) (s : Sec) : ({ P with waits := upd P.waits i (some s) } : Pl).Ok :=
  ⟨h.pos, h.most, fun j hj => by show upd P.waits i (some s) j = none; rw [upd_other _ _ (by have : P.n ≤ j := hj; omega)]; exact h.waits j hj, h.left⟩
theorem Ok.turned {P : Pl} (h : P.Ok) (i bit : Nat) : (P.turned i bit).Ok :=
  ⟨h.pos, h.most, fun j hj => by
    show upd P.waits i none j = none
    by_cases e : j = i
    · rw [e, upd_same]
    · rw [upd_other _ _ e]; exact h.waits j hj, h.left⟩
theorem ok_made {n : Nat} (h : 0 < n) (h' : n ≤ 4096) : (made n).Ok := ⟨h, h', fun _ _ => rfl, by show (-9223372036854775808 : Int) ≤ 0 ∧ (0 : Int) ≤ 9223372036854775807; decide⟩
theorem has_zero {P : Pl} {i : Int} (h : P.has i = 0) : P.dead = false ∧ 0 ≤ i ∧ i < P.n := by
  unfold Pl.has at h
  split at h
  · cases h
  · rename_i hd
    split at h
    · cases h
    · rename_i hr
      refine ⟨by simpa using hd, ?_, ?_⟩ <;> omega
theorem ok_write {P : Pl} (h : P.Ok) (i : Int) (b : List Byte) : (P.write i b).Ok := by
  unfold Pl.write
  split
  · exact h
  · rename_i h0
    have h1 := has_zero (Classical.not_not.1 h0)
    split
    · exact h
    · split
      · exact h.did
      · exact h.did.put (by rw [did_n]; omega) _
theorem ok_flush {P : Pl} (h : P.Ok) : P.flush.Ok := by
  unfold Pl.flush
  split
  · exact h
  · split
    · exact h.did
    · exact h.did.settled
theorem ok_turn {P : Pl} (h : P.Ok) (i bit : Int) : (P.turn i bit).Ok := by
  unfold Pl.turn
  split
  · exact h
  · exact h.turned _ _
theorem ok_crash {P : Pl} (h : P.Ok) (keep : List Bool) : (P.crash keep).Ok := by
  unfold Pl.crash
  split
  · exact h
  · exact h.gone _
theorem ok_fail {P : Pl} (h : P.Ok) {n : Int} (keep : List Bool) (hn : -9223372036854775808 ≤ n ∧ n ≤ 9223372036854775807) : (P.fail n keep).Ok := by
  unfold Pl.fail
  split
  · exact h
  · exact h.failed hn

/-! ### The sorted keys -/
theorem rank_succ (P : Pl) (i : Nat) : P.rank (i + 1) = P.rank i + (if (P.waits i).isSome then 1 else 0) := by
  unfold rank
  rw [List.range_succ, List.filter_append, List.length_append]
  by_cases h : (P.waits i).isSome <;> simp [h]
theorem rank_mono (P : Pl) {i j : Nat} (h : i ≤ j) : P.rank i ≤ P.rank j := by
  induction h with
  | refl => exact Nat.le_refl _
  | step _ ih => rw [rank_succ]; omega
theorem ws_length (P : Pl) : P.ws.length = P.rank P.n := rfl
/-- The sector at a place of those that wait has so many ahead of it. -/
theorem ws_rank (P : Pl) : ∀ (n : Nat) (k : Nat) (hk : k < ((List.range n).filter fun j => (P.waits j).isSome).length), 
    P.rank (((List.range n).filter fun j => (P.waits j).isSome)[k]) = k ∧ (P.waits (((List.range n).filter fun j => (P.waits j).isSome)[k])).isSome = true ∧ ((List.range n).filter fun j => (P.waits j).isSome)[k] < n := by
  intro n
  induction n with
  | zero => intro k hk; simp at hk
  | succ n ih =>
    intro k hk
    have hs : (List.range (n + 1)).filter (fun j => (P.waits j).isSome) = (List.range n).filter (fun j => (P.waits j).isSome) ++ (if (P.waits n).isSome then [n] else []) := by
      rw [List.range_succ, List.filter_append]
      by_cases h : (P.waits n).isSome <;> simp [h]
    have hk' := hk
    rw [hs, List.length_append] at hk'
    by_cases hlt : k < ((List.range n).filter fun j => (P.waits j).isSome).length
    · have e : ((List.range (n + 1)).filter fun j => (P.waits j).isSome)[k] = ((List.range n).filter fun j => (P.waits j).isSome)[k] := by
        simp only [hs]
        rw [List.getElem_append_left hlt]
      rw [e]
      obtain ⟨h1, h2, h3⟩ := ih k hlt
      exact ⟨h1, h2, by omega⟩
    · by_cases hw : (P.waits n).isSome
      · simp only [hw, if_true, List.length_cons, List.length_nil] at hk'
        have ek : k = ((List.range n).filter fun j => (P.waits j).isSome).length := by omega
        have e : ((List.range (n + 1)).filter fun j => (P.waits j).isSome)[k] = n := by
          simp only [hs]
          rw [List.getElem_append_right (by omega)]
          simp [hw]
        rw [e]
        exact ⟨ek.symm, hw, by omega⟩
      · simp [hw] at hk'
        omega
theorem ws_at (P : Pl) {k : Nat} (hk : k < P.ws.length) : P.rank (P.ws[k]) = k ∧ (P.waits (P.ws[k])).isSome = true ∧ P.ws[k] < P.n := ws_rank P P.n k hk
theorem rank_lt {P : Pl} {i j : Nat} (h : i < j) (hi : (P.waits i).isSome = true) : P.rank i < P.rank j := by
  have h1 := rank_succ P i
  rw [if_pos hi] at h1
  have h2 := rank_mono P (show i + 1 ≤ j from h)
  omega
theorem rank_inj {P : Pl} {i j : Nat} (hi : (P.waits i).isSome = true) (hj : (P.waits j).isSome = true) (h : P.rank i = P.rank j) : i = j := by
  rcases Nat.lt_trichotomy i j with h' | h' | h'
  · have := rank_lt h' hi; omega
  · exact h'
  · have := rank_lt h' hj; omega
/-- The stays, when so many of those that wait have been looked at. -/
def midS (P : Pl) (keep : List Bool) (k : Nat) (i : Nat) : Sec := if P.rank i < k then P.goneAt keep i else P.stays i
theorem midS_zero (P : Pl) (keep : List Bool) : P.midS keep 0 = P.stays := by funext i; simp [midS]
theorem midS_keep (P : Pl) (keep : List Bool) {k : Nat} (hk : k < P.ws.length) (h : keep.getD k false = true) : P.midS keep (k + 1) = upd (P.midS keep k) (P.ws[k]) ((P.waits (P.ws[k])).getD zeroS) := by
  obtain ⟨h1, h2, h3⟩ := ws_at P hk
  funext i
  by_cases e : i = P.ws[k]
  · subst e
    rw [upd_same]
    unfold midS
    rw [if_pos (by omega)]
    unfold goneAt
    obtain ⟨x, hx⟩ := Option.isSome_iff_exists.1 h2
    rw [hx, h1, h]
    rfl
  · rw [upd_other _ _ e]
    unfold midS
    by_cases hr : P.rank i < k
    · rw [if_pos hr, if_pos (by omega)]
    · rw [if_neg hr]
      by_cases hr' : P.rank i < k + 1
      · rw [if_pos hr']
        unfold goneAt
        cases hw : P.waits i with
        | none => rfl
        | some x => exact absurd (rank_inj (by rw [hw]; rfl) h2 (by omega)) e
      · rw [if_neg hr']
theorem midS_drop (P : Pl) (keep : List Bool) {k : Nat} (hk : k < P.ws.length) (h : keep.getD k false = false) : P.midS keep (k + 1) = P.midS keep k := by
  obtain ⟨h1, h2, h3⟩ := ws_at P hk
  funext i
  unfold midS
  by_cases hr : P.rank i < k
  · rw [if_pos hr, if_pos (by omega)]
  · rw [if_neg hr]
    by_cases hr' : P.rank i < k + 1
    · rw [if_pos hr']
      have er : P.rank i = k := by omega
      unfold goneAt
      cases hw : P.waits i with
      | none => rfl
      | some x => simp only [er, h]; rfl
    · rw [if_neg hr']
/-- The end: it does not matter what stays beyond the plate. -/
theorem midS_end (P : Pl) (keep : List Bool) {i : Nat} (hi : i < P.n) : P.midS keep P.ws.length i = P.goneAt keep i := by
  unfold midS
  by_cases h : P.rank i < P.ws.length
  · rw [if_pos h]
  · rw [if_neg h]
    unfold goneAt
    cases hw : P.waits i with
    | none => rfl
    | some x =>
      have := rank_lt (P := P) hi (by rw [hw]; rfl)
      rw [ws_length] at h
      omega
end Pl
end Go.Proofs.Ytdhidcoglioalaa.Plain
