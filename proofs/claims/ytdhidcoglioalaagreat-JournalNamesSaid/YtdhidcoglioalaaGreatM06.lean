/-
  A journal, in plain words.
  What a journal does, in plain words.
  Numbers as bytes; blank sectors.
-/
import Derived.Test.YtdhidcoglioalaaGreatM01
import Derived.Test.YtdhidcoglioalaaGreatM05
import Derived.Test.YtdhidcoglioalaaGreatM02
import Derived.Laws.Shifts
namespace Go.Proofs.YtdhidcoglioalaaGreat.Plain
open Math (W sumOf)
abbrev Blk := Nat → Byte
theorem snoc_ind {α : Type} {p : List α → Prop} (nil : p []) (append_singleton : ∀ l x, p l → p (l ++ [x])) : ∀ l, p l := by
  intro l
  have h : ∀ (k : List α), p k.reverse := by
    intro k
    induction k with
    | nil => exact nil
    | cons x k ih => rw [List.reverse_cons]; exact append_singleton _ _ ih
  have := h l.reverse
  rwa [List.reverse_reverse] at this
theorem mod_mul (v m : Int) : v % (256 * m) = v % 256 + 256 * ((v / 256) % m) := by
  rw [Int.emod_def v (256 * m), Int.emod_def (v / 256) m, Int.emod_def v 256, ← Int.ediv_ediv_of_nonneg (show (0 : Int) ≤ 256 by omega), Int.mul_sub, Int.mul_assoc]
  omega
def zeroB : Blk := fun _ => 0
def oneB (b : Byte) : Blk := fun j => if j < 48 then b else 0
/-- A block of bytes, noughts beyond them; a block's bytes. -/
def blkOf (l : List Byte) : Blk := fun j => if j < 48 then l.getD j 0 else 0
def bytesB (b : Blk) : List Byte := (List.range 48).map b
def Flat (b : Blk) : Prop := ∀ j, 48 ≤ j → b j = 0
theorem flat_blkOf (l : List Byte) : Flat (blkOf l) := fun j h => if_neg (by omega)
theorem flat_zero : Flat zeroB := fun _ _ => rfl
theorem flat_one (b : Byte) : Flat (oneB b) := fun j h => if_neg (by omega)
theorem bytesB_length (b : Blk) : (bytesB b).length = 48 := by simp [bytesB]
theorem bytesB_get (b : Blk) {j : Nat} (h : j < 48) : (bytesB b)[j]? = some (b j) := by simp [bytesB, h]
theorem blk_bytes {b : Blk} (h : Flat b) : blkOf (bytesB b) = b := by
  funext j
  unfold blkOf
  by_cases hj : j < 48
  · rw [if_pos hj, List.getD_eq_getElem?_getD, bytesB_get b hj]; rfl
  · rw [if_neg hj, h j (by omega)]
theorem bytes_blk {l : List Byte} (h : l.length = 48) : bytesB (blkOf l) = l := by
  apply List.ext_getElem?
  intro j
  by_cases hj : j < 48
  · rw [bytesB_get _ hj, List.getElem?_eq_getElem (by omega)]
    unfold blkOf
    rw [if_pos hj, List.getD_eq_getElem?_getD, List.getElem?_eq_getElem (by omega)]
    rfl
  · rw [List.getElem?_eq_none (by rw [bytesB_length]; omega), List.getElem?_eq_none (by omega)]
theorem flat_ext {a b : Blk} (ha : Flat a) (hb : Flat b) (h : bytesB a = bytesB b) : a = b := by rw [← blk_bytes ha, ← blk_bytes hb, h]
/-- A number in so many bytes, the highest first; the number that bytes are. -/
def numB : Nat → Int → List Byte
  | 0, _ => []
  | n + 1, v => numB n (v / 256) ++ [BitVec.ofInt 8 v]
def getN (l : List Byte) : Nat := l.foldl (fun v x => v * 256 + x.toNat) 0
theorem numB_length : ∀ (n : Nat) (v : Int), (numB n v).length = n
  | 0, _ => rfl
  | n + 1, v => by simp [numB, numB_length n]
theorem getN_snoc (l : List Byte) (x : Byte) : getN (l ++ [x]) = getN l * 256 + x.toNat := by simp [getN]
theorem ofInt_byte (v : Int) : ((BitVec.ofInt 8 v).toNat : Int) = v % 256 := by
  rw [BitVec.toNat_ofInt]
  have h := Int.emod_nonneg v (show (256 : Int) ≠ 0 by omega)
  exact Int.toNat_of_nonneg h
theorem getN_num : ∀ (n : Nat) (v : Int), (getN (numB n v) : Int) = v % 256 ^ n
  | 0, v => by simp [numB, getN]
  | n + 1, v => by
    show (getN (numB n (v / 256) ++ [BitVec.ofInt 8 v]) : Int) = _
    rw [getN_snoc, Int.natCast_add, Int.natCast_mul, getN_num n (v / 256), ofInt_byte, Int.pow_succ, Int.mul_comm (256 ^ n) 256, mod_mul]
    generalize (v / 256) % 256 ^ n = z
    omega
theorem getN_lt : ∀ (l : List Byte), getN l < 256 ^ l.length := by
  intro l
  induction l using snoc_ind with
  | nil => simp [getN]
  | append_singleton l x ih =>
    rw [getN_snoc, List.length_append, List.length_singleton, Nat.pow_succ]
    have := x.isLt
    omega
/-- A sector's fields. -/
structure Sct where
  kind : Int
  turn : Int
  number : Int
  data : Blk
def headL (s : Sct) : List Byte := BitVec.ofInt 8 s.kind :: (numB 5 s.turn ++ (numB 2 s.number ++ bytesB s.data))
def packL (s : Sct) : List Byte := headL s ++ numB 8 (sumOf (headL s)).toInt
def packS (s : Sct) : Sec := secOf (packL s)
theorem headL_length (s : Sct) : (headL s).length = 56 := by simp [headL, numB_length, bytesB_length]
theorem packL_length (s : Sct) : (packL s).length = 64 := by simp [packL, headL_length, numB_length]
/-- Some bytes of a sector. -/
def cutS (b : Sec) (i n : Nat) : List Byte := (List.range n).map fun j => b (i + j)
theorem cutS_length (b : Sec) (i n : Nat) : (cutS b i n).length = n := by simp [cutS]
def isBlank (b : Sec) : Bool := (bytesOf b).all (· == 0)
def parseS (b : Sec) : Sct := ⟨(b 0).toNat, getN (cutS b 1 5), getN (cutS b 6 2), blkOf (cutS b 8 48)⟩
def parseOk (b : Sec) : Bool := decide (BitVec.ofNat 64 (getN (cutS b 56 8)) = sumOf (cutS b 0 56))
theorem cut_secOf {l : List Byte} {i n : Nat} (h : i + n ≤ l.length) : cutS (secOf l) i n = (l.drop i).take n := by
  apply List.ext_getElem?
  intro j
  by_cases hj : j < n
  · rw [List.getElem?_take_of_lt hj, List.getElem?_drop]
    simp only [cutS, secOf, List.getElem?_map, List.getElem?_range hj, Option.map_some, List.getD_eq_getElem?_getD]
    rw [List.getElem?_eq_getElem (by omega)]
    rfl
  · rw [List.getElem?_eq_none (by rw [cutS_length]; omega), List.getElem?_eq_none (by rw [List.length_take]; omega)]
/-- Fields that a sector's bytes hold. -/
structure Sct.Fits (s : Sct) : Prop where
  kind : 0 ≤ s.kind ∧ s.kind < 256
  turn : 0 ≤ s.turn ∧ s.turn < 1099511627776
  number : 0 ≤ s.number ∧ s.number < 65536
  data : Flat s.data
theorem secOf_zero {l : List Byte} (h : l ≠ []) : secOf l 0 = l.head h := by cases l; exact absurd rfl h; rfl
theorem pack_cuts (s : Sct) : cutS (packS s) 1 5 = numB 5 s.turn ∧ cutS (packS s) 6 2 = numB 2 s.number ∧ cutS (packS s) 8 48 = bytesB s.data ∧ cutS (packS s) 56 8 = numB 8 (sumOf (headL s)).toInt ∧ cutS (packS s) 0 56 = headL s := by
  have h0 := packL_length s
  have h5 := numB_length 5 s.turn
  have h2 := numB_length 2 s.number
  have h48 := bytesB_length s.data
  have h8 := numB_length 8 (sumOf (headL s)).toInt
  have h56 := headL_length s
  unfold packS
  refine ⟨?_, ?_, ?_, ?_, ?_⟩
  · rw [cut_secOf (by omega)]
    unfold packL headL
    simp only [List.cons_append, List.drop_succ_cons, List.drop_zero, List.append_assoc]
    rw [List.take_append_of_le_length (by omega), List.take_of_length_le (by omega)]
  · rw [cut_secOf (by omega)]
    unfold packL headL
    simp only [List.cons_append, List.drop_succ_cons, List.append_assoc]
    rw [List.drop_append, List.drop_of_length_le (by omega), List.nil_append, h5, Nat.sub_self, List.drop_zero, List.take_append_of_le_length (by omega), List.take_of_length_le (by omega)]
  · rw [cut_secOf (by omega)]
    unfold packL headL
    simp only [List.cons_append, List.drop_succ_cons, List.append_assoc]
    rw [List.drop_append, List.drop_of_length_le (by omega), List.nil_append, h5, List.drop_append, List.drop_of_length_le (by omega), List.nil_append, h2]
    show List.take 48 (List.drop 0 _) = _
    rw [List.drop_zero, List.take_append_of_le_length (by omega), List.take_of_length_le (by omega)]
  · rw [cut_secOf (by omega)]
    unfold packL
    rw [List.drop_append, List.drop_of_length_le (by omega), List.nil_append, h56, Nat.sub_self, List.drop_zero, List.take_of_length_le (by omega)]
  · rw [cut_secOf (by omega)]
    unfold packL
    rw [List.drop_zero, List.take_append_of_le_length (by omega), List.take_of_length_le (by omega)]
theorem pack_ok (s : Sct) : parseOk (packS s) = true := by
  obtain ⟨_, _, _, h4, h5⟩ := pack_cuts s
  unfold parseOk
  rw [h4, h5, decide_eq_true_eq]
  apply BitVec.eq_of_toNat_eq
  rw [BitVec.toNat_ofNat]
  have h := getN_num 8 (sumOf (headL s)).toInt
  have h1 := BitVec.toInt_eq_toNat_cond (sumOf (headL s))
  have h2 := (sumOf (headL s)).isLt
  generalize (sumOf (headL s)).toInt = z at *
  have e : ((256 : Int) ^ 8) = 18446744073709551616 := by decide
  rw [e] at h
  generalize getN (numB 8 z) = g at *
  split at h1 <;> omega
theorem pack_parse {s : Sct} (h : s.Fits) : parseS (packS s) = s := by
  obtain ⟨h1, h2, h3, _, _⟩ := pack_cuts s
  unfold parseS
  rw [h1, h2, h3, blk_bytes h.data, getN_num, getN_num]
  have e0 : (packS s 0).toNat = s.kind.toNat := by
    show ((BitVec.ofInt 8 s.kind).toNat) = _
    have := ofInt_byte s.kind
    have := h.kind
    omega
  rw [e0]
  obtain ⟨k, t, n, d⟩ := s
  have hk := h.kind
  have ht := h.turn
  have hn := h.number
  simp only at hk ht hn ⊢
  have e1 : ((256 : Int) ^ 5) = 1099511627776 := by decide
  have e2 : ((256 : Int) ^ 2) = 65536 := by decide
  rw [e1, e2, Int.emod_eq_of_lt ht.1 ht.2, Int.emod_eq_of_lt hn.1 hn.2, Int.toNat_of_nonneg hk.1]
theorem bytes_zero : isBlank zeroS = true := by decide
theorem blank_eq {b : Sec} : isBlank b = true ↔ ∀ j, j < 64 → b j = 0 := by
  unfold isBlank bytesOf
  rw [List.all_eq_true]
  constructor
  · intro h j hj
    simpa using h (b j) (List.mem_map.2 ⟨j, List.mem_range.2 hj, rfl⟩)
  · intro h x hx
    obtain ⟨j, hj, rfl⟩ := List.mem_map.1 hx
    simpa using h j (List.mem_range.1 hj)
theorem pack_not_blank {s : Sct} (h : s.Fits) (h1 : s.kind ≠ 0) : isBlank (packS s) = false := by
  cases hb : isBlank (packS s)
  · rfl
  · have h2 := blank_eq.1 hb 0 (by omega)
    have h3 := congrArg Sct.kind (pack_parse h)
    simp only [parseS] at h3
    rw [h2] at h3
    exact absurd h3.symm h1
theorem bytesOf_secOf {l : List Byte} (h : l.length = 64) : bytesOf (secOf l) = l := by
  apply List.ext_getElem?
  intro j
  by_cases hj : j < 64
  · simp only [bytesOf, secOf, List.getElem?_map, List.getElem?_range hj, Option.map_some, List.getD_eq_getElem?_getD]
    rw [List.getElem?_eq_getElem (by omega)]
    rfl
  · rw [List.getElem?_eq_none (by rw [bytesOf_length]; omega), List.getElem?_eq_none (by omega)]
end Go.Proofs.YtdhidcoglioalaaGreat.Plain
namespace Go.Proofs.YtdhidcoglioalaaGreat.Plain
open Math (W sumOf)
/-- Works on a plate: a sector is written, or it is flushed. -/
inductive Wk where
  | wr (i : Nat) (s : Sec)
  | fl
namespace Wk
def err (P : Pl) : Wk → Int
  | wr i s => P.writeE i (bytesOf s)
  | fl => P.flushE
def act (P : Pl) : Wk → Pl
  | wr i s => P.write i (bytesOf s)
  | fl => P.flush
end Wk
def runE : List Wk → Pl → Int
  | [], _ => 0
  | x :: l, P => if x.err P ≠ 0 then x.err P else runE l (x.act P)
def runP : List Wk → Pl → Pl
  | [], P => P
  | x :: l, P => if x.err P ≠ 0 then x.act P else runP l (x.act P)
theorem runE_append (l k : List Wk) (P : Pl) : runE (l ++ k) P = if runE l P ≠ 0 then runE l P else runE k (runP l P) := by
  induction l generalizing P with
  | nil => simp [runE, runP]
  | cons x l ih =>
    simp only [List.cons_append, runE, runP]
    by_cases h : x.err P = 0
    · simp only [h, ne_eq, not_true_eq_false, if_false]
      exact ih _
    · simp [h]
theorem runP_append (l k : List Wk) (P : Pl) : runP (l ++ k) P = if runE l P ≠ 0 then runP l P else runP k (runP l P) := by
  induction l generalizing P with
  | nil => simp [runE, runP]
  | cons x l ih =>
    simp only [List.cons_append, runE, runP]
    by_cases h : x.err P = 0
    · simp only [h, ne_eq, not_true_eq_false, if_false]
      exact ih _
    · simp [h]
theorem act_n (P : Pl) (x : Wk) : (x.act P).n = P.n := by
  cases x with
  | wr i s =>
    show (P.write _ _).n = _
    unfold Pl.write
    split
    · rfl
    · split
      · rfl
      · split
        · exact Pl.did_n P
        · exact Pl.did_n P
  | fl =>
    show (P.flush).n = _
    unfold Pl.flush
    split
    · rfl
    · split
      · exact Pl.did_n P
      · exact Pl.did_n P
theorem act_ok {P : Pl} (h : P.Ok) (x : Wk) : (x.act P).Ok := by
  cases x with
  | wr i s => exact Pl.ok_write h _ _
  | fl => exact Pl.ok_flush h
theorem runP_n (l : List Wk) (P : Pl) : (runP l P).n = P.n := by
  induction l generalizing P with
  | nil => rfl
  | cons x l ih =>
    simp only [runP]
    split
    · exact act_n P x
    · rw [ih, act_n]
theorem runP_ok (l : List Wk) {P : Pl} (h : P.Ok) : (runP l P).Ok := by
  induction l generalizing P with
  | nil => exact h
  | cons x l ih =>
    simp only [runP]
    split
    · exact act_ok h x
    · exact ih (act_ok h x)

/-- A journal. -/
structure Jn where
  log : Nat
  head : Nat
  at_ : Nat
  used : Nat
  turn : Nat
  pend : Nat → Option Blk
  broken : Bool
/-- Fields as they are written. -/
def headSct (turn log at_ next : Nat) : Sct := ⟨1, turn, log, blkOf (numB 2 at_ ++ numB 5 next)⟩
def entrySct (turn : Nat) (x : Nat × Blk) : Sct := ⟨2, turn, x.1, x.2⟩
def endSct (turn n : Nat) : Sct := ⟨3, turn, n, zeroB⟩
def homeSct (i : Nat) (b : Blk) : Sct := ⟨4, 0, i, b⟩
def logMay (n log : Nat) : Bool := decide (2 ≤ log ∧ log + 3 ≤ n)
/-- A head's fields, if it is one. -/
structure Hd where
  turn : Nat
  log : Nat
  at_ : Nat
  next : Nat
def hdOf (b : Sec) : Hd := ⟨getN (cutS b 1 5), getN (cutS b 6 2), getN (cutS b 8 2), getN (cutS b 10 5)⟩
def hdOk (n : Nat) (b : Sec) : Bool := parseOk b && (b 0 == 1) && decide (0 < (hdOf b).turn) && logMay n (hdOf b).log && decide ((hdOf b).at_ < (hdOf b).log) && decide (0 < (hdOf b).next) && (cutS b 15 41).all (· == 0)
def putAll (p : Nat → Option Blk) (l : List (Nat × Blk)) : Nat → Option Blk := l.foldl (fun f x => upd f x.1 (some x.2)) p
abbrev Pend := Nat → Option Blk
theorem putAll_or (l : List (Nat × Blk)) : ∀ (p : Pend) (i : Nat), putAll p l i = (putAll (fun _ => none) l i).or (p i) := by
  induction l using snoc_ind with
  | nil => intro p i; simp [putAll]
  | append_singleton l x ih =>
    intro p i
    have e : ∀ q : Pend, putAll q (l ++ [x]) = upd (putAll q l) x.1 (some x.2) := fun q => by simp [putAll]
    rw [e, e]
    by_cases h : i = x.1
    · rw [h, upd_same, upd_same]; rfl
    · rw [upd_other _ _ h, upd_other _ _ h, ih]
/-- The log is read, sector by sector: so many at most. -/
def replay (S : Nat → Sec) (log blocks : Nat) : Nat → Nat → Nat → Nat → List (Nat × Blk) → (Nat → Option Blk) → Option (Nat × Nat × Nat × (Nat → Option Blk))
  | 0, a, t, u, _, p => some (a, t, u, p)
  | f + 1, a, t, u, l, p =>
    let b := S (2 + (a + l.length) % log)
    if isBlank b then some (a, t, u, p)
    else if !parseOk b || ((parseS b).kind != 2 && (parseS b).kind != 3) then none
    else if (parseS b).turn != t then some (a, t, u, p)
    else if (parseS b).kind == 2 then replay S log blocks f a t u (l ++ [(getN (cutS b 6 2), (parseS b).data)]) p
    else if (getN (cutS b 6 2) != l.length) || l.length == 0 || !(cutS b 8 48).all (· == 0) || l.any (fun x => decide (blocks ≤ x.1)) then none
    else replay S log blocks f ((a + l.length + 1) % log) (t + 1) (u + l.length + 1) [] (putAll p l)
def headAt (P : Pl) (i : Nat) : Option Hd := if P.has i = 0 ∧ hdOk P.n (P.seen i) = true then some (hdOf (P.seen i)) else none
/-- Both heads: the greater one. -/
def heads2 (P : Pl) : Option Hd :=
  match headAt P 0, headAt P 1 with
  | some a, some b => if a.log = b.log ∧ (a.turn = b.turn + 1 ∨ b.turn = a.turn + 1) then some (if b.turn > a.turn then b else a) else none
  | _, _ => none
def openJ (P : Pl) : Option Jn :=
  match heads2 P with
  | none => none
  | some a =>
    match replay P.seen a.log (P.n - 2 - a.log) a.log a.at_ a.next 0 [] (fun _ => none) with
    | none => none
    | some (x, t, u, p) => some ⟨a.log, a.turn, x, u, t, p, false⟩
namespace Jn
def blocks (J : Jn) (n : Nat) : Nat := if J.broken then 0 else n - 2 - J.log
def free (J : Jn) : Nat := if J.broken then 0 else J.log - J.used - 1
def place (J : Jn) (k : Nat) : Nat := 2 + (J.at_ + k) % J.log
/-- What is so of each journal. -/
structure Ok (J : Jn) (n : Nat) : Prop where
  log2 : 2 ≤ J.log
  logn : J.log + 3 ≤ n
  at_ : J.at_ < J.log
  used : J.used ≤ J.log
  turn : J.turn ≤ 4611686018427387904
  head : J.head ≤ 4611686018427387904
  head0 : 0 < J.head
  pend : ∀ i, n - 2 - J.log ≤ i → J.pend i = none
  flat : ∀ i b, J.pend i = some b → Flat b
/-- The error of the puts. -/
def putsE (blocks : Nat) : List Int → List (Int × List Byte) → Int
  | _, [] => 0
  | seen, x :: l => if x.1 < 0 ∨ (blocks : Int) ≤ x.1 then 9 else if x.2.length ≠ 48 ∨ x.1 ∈ seen then 2 else putsE blocks (seen ++ [x.1]) l
/-- The puts, as blocks. -/
def blks (l : List (Int × List Byte)) : List (Nat × Blk) := l.map fun x => (x.1.toNat, blkOf x.2)
def keys (J : Jn) (n : Nat) : List Nat := (List.range (n - 2 - J.log)).filter fun i => (J.pend i).isSome
def clearW (J : Jn) (n : Nat) : List Wk :=
  (J.keys n).map (fun i => Wk.wr (2 + J.log + i) (packS (homeSct i ((J.pend i).getD zeroB)))) ++ [.fl, .wr (J.head % 2) (packS (headSct (J.head + 1) J.log J.at_ J.turn)), .fl]
def cleared (J : Jn) : Jn := { J with head := J.head + 1, used := 0, pend := fun _ => none }
def brk (J : Jn) : Jn := { J with broken := true }
def clearE (P : Pl) (J : Jn) : Int := if J.broken then 50 else runE (J.clearW P.n) P
def clearP (P : Pl) (J : Jn) : Pl := if J.broken then P else runP (J.clearW P.n) P
def clearJ (P : Pl) (J : Jn) : Jn := if J.broken then J else if runE (J.clearW P.n) P ≠ 0 then J.brk else J.cleared
def wrote (J : Jn) (l : List (Nat × Blk)) : Jn := { J with at_ := (J.at_ + l.length + 1) % J.log, used := J.used + l.length + 1, turn := J.turn + 1, pend := putAll J.pend l }
def entriesW (J : Jn) (l : List (Nat × Blk)) : List Wk := (List.range l.length).map fun i => Wk.wr (J.place i) (packS (entrySct J.turn (l.getD i (0, zeroB))))
def writeW (J : Jn) (l : List (Nat × Blk)) : List Wk := J.entriesW l ++ [.fl, .wr (J.place l.length) (packS (endSct J.turn l.length)), .fl]
/-- Is the log cleared ahead of so many puts? -/
def tight (J : Jn) (m : Nat) : Bool := decide (J.free < m)
/-- What a Commit does, if the puts are right and some. -/
def putE (P : Pl) (J : Jn) (l : List (Nat × Blk)) : Int := if J.tight l.length then (if clearE P J ≠ 0 then clearE P J else runE (J.cleared.writeW l) (clearP P J)) else runE (J.writeW l) P
def putP (P : Pl) (J : Jn) (l : List (Nat × Blk)) : Pl := if J.tight l.length then (if clearE P J ≠ 0 then clearP P J else runP (J.cleared.writeW l) (clearP P J)) else runP (J.writeW l) P
def putJ (P : Pl) (J : Jn) (l : List (Nat × Blk)) : Jn :=
  if J.tight l.length then (if clearE P J ≠ 0 then J.brk else if runE (J.cleared.writeW l) (clearP P J) ≠ 0 then J.cleared.brk else J.cleared.wrote l)
  else if runE (J.writeW l) P ≠ 0 then J.brk else J.wrote l
/-- Which puts are refused. -/
def badE (P : Pl) (J : Jn) (l : List (Int × List Byte)) : Int :=
  if J.broken then 50 else if putsE (J.blocks P.n) [] l ≠ 0 then putsE (J.blocks P.n) [] l else if J.log - 1 < l.length then 7 else 0
def nothing (P : Pl) (J : Jn) (l : List (Int × List Byte)) : Bool := decide (badE P J l ≠ 0) || decide (l.length = 0)
def commitE (P : Pl) (J : Jn) (l : List (Int × List Byte)) : Int := if J.nothing P l then badE P J l else putE P J (blks l)
def commitP (P : Pl) (J : Jn) (l : List (Int × List Byte)) : Pl := if J.nothing P l then P else putP P J (blks l)
def commitJ (P : Pl) (J : Jn) (l : List (Int × List Byte)) : Jn := if J.nothing P l then J else putJ P J (blks l)
/-- What a home has. -/
def homeE (b : Sec) (i : Nat) : Int := if isBlank b then 0 else if !parseOk b || (parseS b).kind != 4 || (parseS b).turn != 0 || (parseS b).number != i then 70 else 0
def homeB (b : Sec) : Blk := if isBlank b then zeroB else (parseS b).data
def home (J : Jn) (i : Nat) : Nat := 2 + J.log + i
def readE (P : Pl) (J : Jn) (i : Int) : Int :=
  if J.broken then 50 else if i < 0 ∨ (J.blocks P.n : Int) ≤ i then 9
  else match J.pend i.toNat with
  | some _ => 0
  | none => if P.has (J.home i.toNat) ≠ 0 then P.has (J.home i.toNat) else homeE (P.seen (J.home i.toNat)) i.toNat
def readB (P : Pl) (J : Jn) (i : Int) : Blk :=
  match J.pend i.toNat with
  | some b => b
  | none => homeB (P.seen (J.home i.toNat))
def readJ (P : Pl) (J : Jn) (i : Int) : Jn :=
  if J.broken then J else if i < 0 ∨ (J.blocks P.n : Int) ≤ i then J
  else match J.pend i.toNat with
  | some _ => J
  | none => if P.has (J.home i.toNat) ≠ 0 then J.brk else J
end Jn
/-- Format. -/
def zerosW (n : Nat) : List Wk := (List.range (n - 2)).map fun i => Wk.wr (2 + i) zeroS
def formatW (_n log : Nat) : List Wk := [.fl, .wr 0 (packS (headSct 1 log 0 1)), .wr 1 (packS (headSct 2 log 0 1)), .fl]
def formatE (P : Pl) (log : Int) : Int :=
  if P.dead then 50 else if log < 2 ∨ (P.n : Int) < log + 3 then 9 else if runE (zerosW P.n) P ≠ 0 then runE (zerosW P.n) P else runE (formatW P.n log.toNat) (runP (zerosW P.n) P)
def formatP (P : Pl) (log : Int) : Pl :=
  if P.dead then P else if log < 2 ∨ (P.n : Int) < log + 3 then P else if runE (zerosW P.n) P ≠ 0 then runP (zerosW P.n) P else runP (formatW P.n log.toNat) (runP (zerosW P.n) P)
def formatJ (log : Nat) : Jn := ⟨log, 2, 0, 0, 1, fun _ => none, false⟩
/-- Open: the error, the plate, the journal. -/
def openE (P : Pl) : Int := if P.flushE ≠ 0 then P.flushE else match openJ P.flush with | none => 70 | some _ => 0
end Go.Proofs.YtdhidcoglioalaaGreat.Plain
namespace Go.Proofs.YtdhidcoglioalaaGreat.Walks
open Go.RowKit Plain
set_option linter.unusedVariables false

theorem setCell_swap (w : World) (g : Nat) {i j : Nat} (x y : Value) (h : i ≠ j) : (w.setCell ⟨g, i, none⟩ x).setCell ⟨g, j, none⟩ y = (w.setCell ⟨g, j, none⟩ y).setCell ⟨g, i, none⟩ x := by
  unfold World.setCell
  congr 1
  apply Array.ext_getElem?
  intro k
  simp only [Array.getElem?_modify]
  by_cases e : g = k
  · subst e
    simp only [if_true]
    cases w.heap[g]? with
    | none => rfl
    | some ob =>
      cases ob <;> simp [Array.setIfInBounds_comm _ _ h]
  · simp [e]
theorem setCells_swap (g : Nat) {i : Nat} (x : Value) : ∀ (vs : List Value) (j : Nat) (w : World), i < j → (w.setCells g j vs).setCell ⟨g, i, none⟩ x = (w.setCell ⟨g, i, none⟩ x).setCells g j vs
  | [], _, _, _ => rfl
  | v :: vs, j, w, h => by
    rw [World.setCells, World.setCells, setCells_swap g x vs (j + 1) _ (by omega), setCell_swap w g _ _ (by omega)]
theorem numB_get : ∀ (n : Nat) (v : Int) (k : Nat), k < n → (numB n v)[k]? = some (BitVec.ofInt 8 (v / 256 ^ (n - 1 - k)))
  | 0, _, _, h => by omega
  | n + 1, v, k, h => by
    show (numB n (v / 256) ++ [BitVec.ofInt 8 v])[k]? = _
    have hl := numB_length n (v / 256)
    by_cases e : k < n
    · rw [List.getElem?_append_left (by omega), numB_get n _ k e, Int.ediv_ediv_of_nonneg (by omega), show n + 1 - 1 - k = (n - 1 - k) + 1 by omega, Int.pow_succ, Int.mul_comm]
    · obtain rfl : k = n := by omega
      rw [List.getElem?_append_right (by omega), hl]
      simp
theorem numB_drop {n k : Nat} (v : Int) (h : k < n) : (numB n v).drop k = BitVec.ofInt 8 (v / 256 ^ (n - 1 - k)) :: (numB n v).drop (k + 1) := by
  have hl := numB_length n v
  rw [List.drop_eq_getElem_cons (by omega)]
  have := numB_get n v k h
  rw [List.getElem?_eq_getElem (by omega)] at this
  rw [Option.some.inj this]
theorem byte_of (v : Int) : Value.int .u8 (IntKind.u8.wrap v) = byteV (BitVec.ofInt 8 v) := by
  unfold byteV
  rw [ofInt_byte, IntKind.wrap_u8']
theorem there_out {w : World} {g o n : Nat} (h : w.there g o n) {j : Nat} (hj : j < n) (k : Nat) (vs : List Value) : ((w.setCells g k vs).cell? ⟨g, o + j, none⟩).isSome = true ∧ (w.setCells g k vs).frozen? ⟨g, o + j, none⟩ = false :=
  World.there_setCells h _ _ _ j hj
set_option maxRecDepth 10000 in
theorem put_any (w : World) (g o n cap : Nat) (v : Int) (hv : -9223372036854775808 ≤ v ∧ v ≤ 9223372036854775807) (hr : RoomN n w ⟨g, o, none⟩) (hn : n ≤ 64) :
    Calls Tryz.prog 58 #[.slice (some ⟨g, o, none⟩) n cap, .int .i64 v] w fun e w' => (∃ u, e = .returned u) ∧ w' = w.setCells g o ((numB n v).map byteV) := by
  have HV := Lib.hid hv
  have HR := Lib.hid hr
  clear hv hr
  go_enter Tryz.func58, Tryz.ntmps58
  go_wp2
  go_loopw [1, 4] (fun vv i wr => ∃ (z : Int) (k : Nat), k ≤ n ∧ z = (k : Int) - 1 ∧ i = .int .i64 z ∧ vv = .int .i64 (v / 256 ^ (n - k)) ∧ wr = w.setCells g (o + k) (((numB n v).drop k).map byteV)) (fun _ i _ => (RowKit.intOf i + 1).toNat)
  case atStart =>
    refine ⟨_, n, Nat.le_refl _, rfl, rfl, ?_, ?_⟩
    · rw [Nat.sub_self, Int.pow_zero, Int.ediv_one]
    · rw [List.drop_of_length_le (by rw [numB_length]; omega)]; rfl
  case round =>
    obtain ⟨z, k, hk, hz, rfl, rfl, rfl⟩ := hrel
    by_cases h0 : k = 0
    · subst h0
      obtain rfl : z = -1 := by omega
      clear hz
      obtain ⟨y, hy⟩ : ∃ y, y = v / 256 ^ (n - 0) := ⟨_, rfl⟩
      rw [← hy]
      clear hy
      go_wp2
      go_end0
      exact ⟨⟨_, rfl⟩, rfl⟩
    · obtain ⟨m, rfl⟩ : ∃ m, k = m + 1 := ⟨k - 1, by omega⟩
      obtain rfl : z = (m : Int) := by omega
      obtain ⟨y, hy⟩ : ∃ y, y = v / 256 ^ (n - (m + 1)) := ⟨_, rfl⟩
      rw [← hy]
      have HY := Lib.hid hy
      obtain ⟨hc, hf⟩ := there_out HR.out.2 (show m < n by omega) (o + (m + 1)) (((numB n v).drop (m + 1)).map byteV)
      obtain ⟨wr, hw⟩ : ∃ wr, wr = w.setCells g (o + (m + 1)) (((numB n v).drop (m + 1)).map byteV) := ⟨_, rfl⟩
      rw [← hw] at hc hf ⊢
      obtain ⟨u, hu⟩ := Option.isSome_iff_exists.1 hc
      have HW := Lib.hid hw
      have hlt : m < n := by omega
      clear hy hw hz hk h0 hc
      go_wp2
      go_roundw
      case rel =>
        refine ⟨_, m, by omega, rfl, rfl, ?_, ?_⟩
        · rw [HY.out, Int.ediv_ediv_of_nonneg (Int.pow_nonneg (by omega)), show n - m = (n - (m + 1)) + 1 by omega, Int.pow_succ]
        · rw [HW.out, setCells_swap g _ _ _ _ (by omega), numB_drop v hlt, HY.out, show n - 1 - m = n - (m + 1) by omega, List.map_cons, World.setCells, ← byte_of, IntKind.wrap_u8', Nat.add_assoc]
      case measure => simp [RowKit.intOf]
/-- The number of bytes, as an int. -/
def getV (l : List Byte) : Int := (BitVec.ofNat 64 (getN l)).toInt
theorem getV_small {l : List Byte} (h : l.length ≤ 7) : getV l = getN l := by
  have h1 := getN_lt l
  have h2 : 256 ^ l.length ≤ 256 ^ 7 := Nat.pow_le_pow_right (by omega) h
  have h3 : (256 : Nat) ^ 7 = 72057594037927936 := by decide
  unfold getV
  rw [BitVec.toInt_eq_toNat_cond, BitVec.toNat_ofNat]
  omega
theorem getN_take_succ (l : List Byte) {k : Nat} (h : k < l.length) : getN (l.take (k + 1)) = getN (l.take k) * 256 + l[k].toNat := by
  rw [List.take_succ_eq_append_getElem h, getN_snoc]
theorem or_step (N : Nat) (x : Byte) : bits .or .i64 (wrap64 ((BitVec.ofNat 64 N).toInt * 256)) (x.toNat : Int) = (BitVec.ofNat 64 (N * 256 + x.toNat)).toInt := by
  have hx := x.isLt
  have e1 : BitVec.ofInt 64 (wrap64 ((BitVec.ofNat 64 N).toInt * 256)) = BitVec.ofNat 64 (N * 256) := by
    apply BitVec.eq_of_toNat_eq
    have h := BitVec.toInt_eq_toNat_cond (BitVec.ofNat 64 N)
    rw [BitVec.toNat_ofNat] at h
    generalize (BitVec.ofNat 64 N).toInt = z at *
    rw [BitVec.toNat_ofInt, BitVec.toNat_ofNat]
    unfold wrap64
    have e : (((2 ^ 64 : Nat) : Int)) = 18446744073709551616 := by decide
    rw [e] at *
    have e' : (2 ^ 64 : Nat) = 18446744073709551616 := by decide
    rw [e'] at *
    split at h <;> omega
  have e2 : BitVec.ofInt 64 (x.toNat : Int) = BitVec.ofNat 64 x.toNat := BitVec.ofInt_natCast ..
  have e3 : BitVec.ofNat 64 (N * 256) ||| BitVec.ofNat 64 x.toNat = BitVec.ofNat 64 (N * 256 + x.toNat) := by
    apply BitVec.eq_of_toNat_eq
    rw [BitVec.toNat_or, BitVec.toNat_ofNat, BitVec.toNat_ofNat, BitVec.toNat_ofNat]
    have e' : (2 ^ 64 : Nat) = 18446744073709551616 := by decide
    rw [e', show N * 256 % 18446744073709551616 = (N % 72057594037927936) <<< 8 by rw [Nat.shiftLeft_eq]; omega, Nat.mod_eq_of_lt (show x.toNat < 18446744073709551616 by omega), ← Nat.shiftLeft_add_eq_or_of_lt (by omega), Nat.shiftLeft_eq]
    omega
  show IntKind.i64.wrap (((BitVec.ofInt 64 (wrap64 ((BitVec.ofNat 64 N).toInt * 256)) ||| BitVec.ofInt 64 (x.toNat : Int)).toNat : Nat) : Int) = _
  rw [e1, e2, e3]
  generalize BitVec.ofNat 64 (N * 256 + x.toNat) = b
  have h := BitVec.toInt_eq_toNat_cond b
  have hb := b.isLt
  rw [IntKind.wrap_i64]
  have e' : (2 ^ 64 : Nat) = 18446744073709551616 := by decide
  rw [e'] at *
  split at h <;> omega
set_option maxRecDepth 10000 in
theorem get_any (w : World) (a : Option Addr) (l : List Byte) (cap : Nat) (hB : Bys w a l) : Calls Tryz.prog 49 #[.slice a l.length cap] w fun e w' => e = .returned (.int .i64 (getV l)) ∧ w = w' := by
  have hm := hB.1
  have HB := Lib.hid hB
  clear hB
  go_enter Tryz.func49, Tryz.ntmps49
  go_wp2
  go_loop [2, 7] (fun v i => ∃ k : Nat, k ≤ l.length ∧ i = .int .i64 k ∧ v = .int .i64 (getV (l.take k))) (fun _ i => l.length - (RowKit.intOf i).toNat)
  case atStart => exact ⟨0, Nat.zero_le _, rfl, rfl⟩
  case round =>
    obtain ⟨k, hk, rfl, rfl⟩ := hrel
    by_cases hlt : k < l.length
    · obtain ⟨b, off, rfl, hb0, hc⟩ := HB.out.at_lt hlt
      have hcell := hc k hlt
      clear hc
      obtain ⟨y, hy⟩ : ∃ y, y = getV (l.take k) := ⟨_, rfl⟩
      obtain ⟨x, hx⟩ : ∃ x, x = l[k] := ⟨_, rfl⟩
      rw [← hx] at hcell
      rw [← hy]
      have HX := Lib.hid hx
      have HY := Lib.hid hy
      clear hy hx
      unfold byteV at hcell
      go_wp2
      go_round
      case rel => exact ⟨k + 1, by omega, by go_num, by rw [HY.out, getV, or_step, getV, getN_take_succ l hlt, HX.out]⟩
      case measure => simp [RowKit.intOf]; omega
    · obtain rfl : k = l.length := by omega
      go_wp2
      go_ret
      exact ⟨rfl, rfl⟩
theorem nz_any (w : World) (x : Byte) : Calls Tryz.prog 48 #[.int .u8 (x.toNat : Int)] w fun e w' => e = .returned (.bool (!(x == 0))) ∧ w = w' := by
  have hq : ((x.toNat : Int) != 0) = !(x == 0) := by
    have : (x.toNat = 0) ↔ x = 0#8 := ⟨fun h => BitVec.eq_of_toNat_eq h, fun h => by rw [h]; rfl⟩
    rw [Bool.eq_iff_iff]
    simp
    exact not_congr this
  go_enter Tryz.func48, Tryz.ntmps48
  go_wp2
  go_ret
  exact ⟨rfl, rfl⟩
def zeroL (l : List Byte) : Bool := l.all (· == 0)
theorem zeroL_take (l : List Byte) {k : Nat} (h : k < l.length) (h1 : zeroL (l.take k) = true) : zeroL (l.take (k + 1)) = (l[k] == 0) := by
  unfold zeroL at *
  rw [List.take_succ_eq_append_getElem h, List.all_append, h1]
  simp
theorem zeroL_not (l : List Byte) {k : Nat} (h : k < l.length) (h1 : (l[k] == 0) = false) : zeroL l = false := by
  unfold zeroL
  rw [List.all_eq_false]
  exact ⟨l[k], List.getElem_mem _, by rw [h1]; exact Bool.false_ne_true⟩
set_option maxRecDepth 10000 in
theorem indexNz_any (w : World) (a : Option Addr) (l : List Byte) (cap : Nat) (hB : Bys w a l) : Calls Tryz.prog 67 #[.slice a l.length cap, .func (.func 48) #[] #[]] w fun e w' => (∃ r : Int, e = .returned (.int .i64 r) ∧ decide (0 ≤ r) = !zeroL l) ∧ w = w' := by
  have hm := hB.1
  have HB := Lib.hid hB
  clear hB
  go_enter Tryz.func67, Tryz.ntmps67
  go_wp2
  go_loop [8] (fun i => ∃ k : Nat, k ≤ l.length ∧ i = .int .i64 k ∧ Hid (zeroL (l.take k) = true)) (fun i => l.length - (RowKit.intOf i).toNat)
  case atStart => exact ⟨0, Nat.zero_le _, rfl, Lib.hid rfl⟩
  case round =>
    obtain ⟨k, hk, rfl, HZ⟩ := hrel
    by_cases hlt : k < l.length
    · obtain ⟨b, off, rfl, hb0, hc⟩ := HB.out.at_lt hlt
      have hcell := hc k hlt
      clear hc
      obtain ⟨x, hx⟩ : ∃ x, x = l[k] := ⟨_, rfl⟩
      rw [← hx] at hcell
      have HX := Lib.hid hx
      clear hx
      unfold byteV at hcell
      have hnz := nz_any w x
      cases hq : x == 0
      · rw [hq] at hnz
        have HN := Lib.hid hnz
        have HQ := Lib.hid hq
        clear hnz hq
        go_wp2_with fail
        refine Calls.mono HN.out ?_
        rintro e w' ⟨rfl, rfl⟩
        go_wp2
        go_ret
        refine ⟨⟨_, rfl, ?_⟩, rfl⟩
        rw [zeroL_not l hlt (HX.out ▸ HQ.out)]
        simp
      · rw [hq] at hnz
        have HN := Lib.hid hnz
        have HQ := Lib.hid hq
        clear hnz hq
        go_wp2_with fail
        refine Calls.mono HN.out ?_
        rintro e w' ⟨rfl, rfl⟩
        go_wp2
        go_round
        case rel => exact ⟨k + 1, by omega, by go_num, Lib.hid (by rw [zeroL_take l hlt HZ.out, ← HX.out]; exact HQ.out)⟩
        case measure => simp [RowKit.intOf]; omega
    · obtain rfl : k = l.length := by omega
      go_wp2
      go_ret
      refine ⟨⟨_, rfl, ?_⟩, rfl⟩
      have := HZ.out
      rw [List.take_length] at this
      rw [this]
      rfl
theorem blank_any (w : World) (a : Option Addr) (l : List Byte) (cap : Nat) (hB : Bys w a l) : Calls Tryz.prog 16 #[.slice a l.length cap] w fun e w' => e = .returned (.bool (zeroL l)) ∧ w = w' := by
  have HI := Lib.hid (indexNz_any w a l cap hB)
  clear hB
  obtain ⟨n, hn⟩ : ∃ n, n = l.length := ⟨_, rfl⟩
  rw [← hn] at HI ⊢
  clear hn
  have HC : Hid (Calls Tryz.prog 47 #[.slice a n cap, .func (.func 48) #[] #[]] w fun e w' => e = .returned (.bool (!zeroL l)) ∧ w = w') := Lib.hid (by
    go_enter Tryz.func47, Tryz.ntmps47
    go_wp2_with fail
    refine Calls.mono HI.out ?_
    rintro e w' ⟨⟨r, rfl, hr⟩, rfl⟩
    go_wp2
    go_ret
    exact ⟨rfl, rfl⟩)
  go_enter Tryz.func16, Tryz.ntmps16
  go_wp2_with fail
  refine Calls.mono HC.out ?_
  rintro e w' ⟨rfl, rfl⟩
  go_wp2
  go_ret
  exact ⟨by simp, rfl⟩
end Go.Proofs.YtdhidcoglioalaaGreat.Walks
