/-
  What a journal does, in plain words.
-/
import Derived.Test.YtdhidcoglioalaaJrnP
namespace Go.Proofs.Ytdhidcoglioalaa.Plain
open Math (W sumOf)
/-- Works on a plate: a sector is written, or it is flushed. -/
inductive Wk where
  | wr (i : Nat) (s : Sec)
  | fl
namespace Wk
def err (P : Pl) : Wk → Int
  | wr i s => P.writeE i (bytesOf s)
  | fl => P.flushE
def act (P : Pl) : Wk → Pl
  | wr i s => P.write i (bytesOf s)
  | fl => P.flush
end Wk
def runE : List Wk → Pl → Int
  | [], _ => 0
  | x :: l, P => if x.err P ≠ 0 then x.err P else runE l (x.act P)
def runP : List Wk → Pl → Pl
  | [], P => P
  | x :: l, P => if x.err P ≠ 0 then x.act P else runP l (x.act P)
theorem runE_append (l k : List Wk) (P : Pl) : runE (l ++ k) P = if runE l P ≠ 0 then runE l P else runE k (runP l P) := by
  induction l generalizing P with
  | nil => simp [runE, runP]
  | cons x l ih =>
    simp only [List.cons_append, runE, runP]
    by_cases h : x.err P = 0
    · simp only [h, ne_eq, not_true_eq_false, if_false]
      exact ih _
    · simp [h]
theorem runP_append (l k : List Wk) (P : Pl) : runP (l ++ k) P = if runE l P ≠ 0 then runP l P else runP k (runP l P) := by
  induction l generalizing P with
  | nil => simp [runE, runP]
  | cons x l ih =>
    simp only [List.cons_append, runE, runP]
    by_cases h : x.err P = 0
    · simp only [h, ne_eq, not_true_eq_false, if_false]
      exact ih _
    · simp [h]
theorem act_n (P : Pl) (x : Wk) : (x.act P).n = P.n := by
  cases x with
  | wr i s =>
    show (P.write _ _).n = _
    unfold Pl.write
    split
    · rfl
    · split
      · rfl
      · split
        · exact Pl.did_n P
        · exact Pl.did_n P
  | fl =>
    show (P.flush).n = _
    unfold Pl.flush
    split
    · rfl
    · split
      · exact Pl.did_n P
      · exact Pl.did_n P
theorem act_ok {P : Pl} (h : P.Ok) (x : Wk) : (x.act P).Ok := by
  cases x with
  | wr i s => exact Pl.ok_write h _ _
  | fl => exact Pl.ok_flush h
theorem runP_n (l : List Wk) (P : Pl) : (runP l P).n = P.n := by
  induction l generalizing P with
  | nil => rfl
  | cons x l ih =>
    simp only [runP]
    split
    · exact act_n P x
    · rw [ih, act_n]
theorem runP_ok (l : List Wk) {P : Pl} (h : P.Ok) : (runP l P).Ok := by
  induction l generalizing P with
  | nil => exact h
  | cons x l ih =>
    simp only [runP]
    split
    · exact act_ok h x
    · exact ih (act_ok h x)

/-- A journal. -/
structure Jn where
  log : Nat
  head : Nat
  at_ : Nat
  used : Nat
  turn : Nat
  pend : Nat → Option Blk
  broken : Bool
/-- Fields as they are written. -/
def headSct (turn log at_ next : Nat) : Sct := ⟨1, turn, log, blkOf (numB 2 at_ ++ numB 5 next)⟩
def entrySct (turn : Nat) (x : Nat × Blk) : Sct := ⟨2, turn, x.1, x.2⟩
def endSct (turn n : Nat) : Sct := ⟨3, turn, n, zeroB⟩
def homeSct (i : Nat) (b : Blk) : Sct := ⟨4, 0, i, b⟩
def logMay (n log : Nat) : Bool := decide (2 ≤ log ∧ log + 3 ≤ n)
/-- A head's fields, if it is one. -/
structure Hd where
  turn : Nat
  log : Nat
  at_ : Nat
  next : Nat
def hdOf (b : Sec) : Hd := ⟨getN (cutS b 1 5), getN (cutS b 6 2), getN (cutS b 8 2), getN (cutS b 10 5)⟩
def hdOk (n : Nat) (b : Sec) : Bool := parseOk b && (b 0 == 1) && decide (0 < (hdOf b).turn) && logMay n (hdOf b).log && decide ((hdOf b).at_ < (hdOf b).log) && decide (0 < (hdOf b).next) && (cutS b 15 41).all (· == 0)
def putAll (p : Nat → Option Blk) (l : List (Nat × Blk)) : Nat → Option Blk := l.foldl (fun f x => upd f x.1 (some x.2)) p
abbrev Pend := Nat → Option Blk
theorem putAll_or (l : List (Nat × Blk)) : ∀ (p : Pend) (i : Nat), putAll p l i = (putAll (fun _ => none) l i).or (p i) := by
  induction l using snoc_ind with
  | nil => intro p i; simp [putAll]
  | append_singleton l x ih =>
    intro p i
    have e : ∀ q : Pend, putAll q (l ++ [x]) = upd (putAll q l) x.1 (some x.2) := fun q => by simp [putAll]
    rw [e, e]
    by_cases h : i = x.1
    · rw [h, upd_same, upd_same]; rfl
    · rw [upd_other _ _ h, upd_other _ _ h, ih]
/-- The log is read, sector by sector: so many at most. -/
def replay (S : Nat → Sec) (log blocks : Nat) : Nat → Nat → Nat → Nat → List (Nat × Blk) → (Nat → Option Blk) → Option (Nat × Nat × Nat × (Nat → Option Blk))
  | 0, a, t, u, _, p => some (a, t, u, p)
  | f + 1, a, t, u, l, p =>
    let b := S (2 + (a + l.length) % log)
    if isBlank b then some (a, t, u, p)
    else if !parseOk b || ((parseS b).kind != 2 && (parseS b).kind != 3) then none
    else if (parseS b).turn != t then some (a, t, u, p)
    else if (parseS b).kind == 2 then replay S log blocks f a t u (l ++ [(getN (cutS b 6 2), (parseS b).data)]) p
    else if (getN (cutS b 6 2) != l.length) || l.length == 0 || !(cutS b 8 48).all (· == 0) || l.any (fun x => decide (blocks ≤ x.1)) then none
    else replay S log blocks f ((a + l.length + 1) % log) (t + 1) (u + l.length + 1) [] (putAll p l)
def headAt (P : Pl) (i : Nat) : Option Hd := if P.has i = 0 ∧ hdOk P.n (P.seen i) = true then some (hdOf (P.seen i)) else none
/-- Both heads: the greater one. -/
def heads2 (P : Pl) : Option Hd :=
  match headAt P 0, headAt P 1 with
  | some a, some b => if a.log = b.log ∧ (a.turn = b.turn + 1 ∨ b.turn = a.turn + 1) then some (if b.turn > a.turn then b else a) else none
  | _, _ => none
def openJ (P : Pl) : Option Jn :=
  match heads2 P with
  | none => none
  | some a =>
    match replay P.seen a.log (P.n - 2 - a.log) a.log a.at_ a.next 0 [] (fun _ => none) with
    | none => none
    | some (x, t, u, p) => some ⟨a.log, a.turn, x, u, t, p, false⟩
namespace Jn
def blocks (J : Jn) (n : Nat) : Nat := if J.broken then 0 else n - 2 - J.log
def free (J : Jn) : Nat := if J.broken then 0 else J.log - J.used - 1
def place (J : Jn) (k : Nat) : Nat := 2 + (J.at_ + k) % J.log
/-- What is so of each journal. -/
structure Ok (J : Jn) (n : Nat) : Prop where
  log2 : 2 ≤ J.log
  logn : J.log + 3 ≤ n
  at_ : J.at_ < J.log
  used : J.used ≤ J.log
  turn : J.turn ≤ 4611686018427387904
  head : J.head ≤ 4611686018427387904
  head0 : 0 < J.head
  pend : ∀ i, n - 2 - J.log ≤ i → J.pend i = none
  flat : ∀ i b, J.pend i = some b → Flat b
/-- The error of the puts. -/
def putsE (blocks : Nat) : List Int → List (Int × List Byte) → Int
  | _, [] => 0
  | seen, x :: l => if x.1 < 0 ∨ (blocks : Int) ≤ x.1 then 9 else if x.2.length ≠ 48 ∨ x.1 ∈ seen then 2 else putsE blocks (seen ++ [x.1]) l
/-- The puts, as blocks. -/
def blks (l : List (Int × List Byte)) : List (Nat × Blk) := l.map fun x => (x.1.toNat, blkOf x.2)
def keys (J : Jn) (n : Nat) : List Nat := (List.range (n - 2 - J.log)).filter fun i => (J.pend i).isSome
def clearW (J : Jn) (n : Nat) : List Wk :=
  (J.keys n).map (fun i => Wk.wr (2 + J.log + i) (packS (homeSct i ((J.pend i).getD zeroB)))) ++ [.fl, .wr (J.head % 2) (packS (headSct (J.head + 1) J.log J.at_ J.turn)), .fl]
def cleared (J : Jn) : Jn := { J with head := J.head + 1, used := 0, pend := fun _ => none }
def brk (J : Jn) : Jn := { J with broken := true }
def clearE (P : Pl) (J : Jn) : Int := if J.broken then 50 else runE (J.clearW P.n) P
def clearP (P : Pl) (J : Jn) : Pl := if J.broken then P else runP (J.clearW P.n) P
def clearJ (P : Pl) (J : Jn) : Jn := if J.broken then J else if runE (J.clearW P.n) P ≠ 0 then J.brk else J.cleared
def wrote (J : Jn) (l : List (Nat × Blk)) : Jn := { J with at_ := (J.at_ + l.length + 1) % J.log, used := J.used + l.length + 1, turn := J.turn + 1, pend := putAll J.pend l }
def entriesW (J : Jn) (l : List (Nat × Blk)) : List Wk := (List.range l.length).map fun i => Wk.wr (J.place i) (packS (entrySct J.turn (l.getD i (0, zeroB))))
def writeW (J : Jn) (l : List (Nat × Blk)) : List Wk := J.entriesW l ++ [.fl, .wr (J.place l.length) (packS (endSct J.turn l.length)), .fl]
/-- Is the log cleared ahead of so many puts? -/
def tight (J : Jn) (m : Nat) : Bool := decide (J.free < m)
/-- What a Commit does, if the puts are right and some. -/
def putE (P : Pl) (J : Jn) (l : List (Nat × Blk)) : Int := if J.tight l.length then (if clearE P J ≠ 0 then clearE P J else runE (J.cleared.writeW l) (clearP P J)) else runE (J.writeW l) P
def putP (P : Pl) (J : Jn) (l : List (Nat × Blk)) : Pl := if J.tight l.length then (if clearE P J ≠ 0 then clearP P J else runP (J.cleared.writeW l) (clearP P J)) else runP (J.writeW l) P
def putJ (P : Pl) (J : Jn) (l : List (Nat × Blk)) : Jn :=
  if J.tight l.length then (if clearE P J ≠ 0 then J.brk else if runE (J.cleared.writeW l) (clearP P J) ≠ 0 then J.cleared.brk else J.cleared.wrote l)
  else if runE (J.writeW l) P ≠ 0 then J.brk else J.wrote l
/-- Which puts are refused. -/
def badE (P : Pl) (J : Jn) (l : List (Int × List Byte)) : Int :=
  if J.broken then 50 else if putsE (J.blocks P.n) [] l ≠ 0 then putsE (J.blocks P.n) [] l else if J.log - 1 < l.length then 7 else 0
def nothing (P : Pl) (J : Jn) (l : List (Int × List Byte)) : Bool := decide (badE P J l ≠ 0) || decide (l.length = 0)
def commitE (P : Pl) (J : Jn) (l : List (Int × List Byte)) : Int := if J.nothing P l then badE P J l else putE P J (blks l)
def commitP (P : Pl) (J : Jn) (l : List (Int × List Byte)) : Pl := if J.nothing P l then P else putP P J (blks l)
def commitJ (P : Pl) (J : Jn) (l : List (Int × List Byte)) : Jn := if J.nothing P l then J else putJ P J (blks l)
/-- What a home has. -/
def homeE (b : Sec) (i : Nat) : Int := if isBlank b then 0 else if !parseOk b || (parseS b).kind != 4 || (parseS b).turn != 0 || (parseS b).number != i then 70 else 0
def homeB (b : Sec) : Blk := if isBlank b then zeroB else (parseS b).data
def home (J : Jn) (i : Nat) : Nat := 2 + J.log + i
def readE (P : Pl) (J : Jn) (i : Int) : Int :=
  if J.broken then 50 else if i < 0 ∨ (J.blocks P.n : Int) ≤ i then 9
  else match J.pend i.toNat with
  | some _ => 0
  | none => if P.has (J.home i.toNat) ≠ 0 then P.has (J.home i.toNat) else homeE (P.seen (J.home i.toNat)) i.toNat
def readB (P : Pl) (J : Jn) (i : Int) : Blk :=
  match J.pend i.toNat with
  | some b => b
  | none => homeB (P.seen (J.home i.toNat))
def readJ (P : Pl) (J : Jn) (i : Int) : Jn :=
  if J.broken then J else if i < 0 ∨ (J.blocks P.n : Int) ≤ i then J
  else match J.pend i.toNat with
  | some _ => J
  | none => if P.has (J.home i.toNat) ≠ 0 then J.brk else J
end Jn
/-- Format. -/
def zerosW (n : Nat) : List Wk := (List.range (n - 2)).map fun i => Wk.wr (2 + i) zeroS
def formatW (_n log : Nat) : List Wk := [.fl, .wr 0 (packS (headSct 1 log 0 1)), .wr 1 (packS (headSct 2 log 0 1)), .fl]
def formatE (P : Pl) (log : Int) : Int :=
  if P.dead then 50 else if log < 2 ∨ (P.n : Int) < log + 3 then 9 else if runE (zerosW P.n) P ≠ 0 then runE (zerosW P.n) P else runE (formatW P.n log.toNat) (runP (zerosW P.n) P)
def formatP (P : Pl) (log : Int) : Pl :=
  if P.dead then P else if log < 2 ∨ (P.n : Int) < log + 3 then P else if runE (zerosW P.n) P ≠ 0 then runP (zerosW P.n) P else runP (formatW P.n log.toNat) (runP (zerosW P.n) P)
def formatJ (log : Nat) : Jn := ⟨log, 2, 0, 0, 1, fun _ => none, false⟩
/-- Open: the error, the plate, the journal. -/
def openE (P : Pl) : Int := if P.flushE ≠ 0 then P.flushE else match openJ P.flush with | none => 70 | some _ => 0
end Go.Proofs.Ytdhidcoglioalaa.Plain
