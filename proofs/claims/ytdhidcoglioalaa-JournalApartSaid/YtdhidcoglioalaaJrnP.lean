/-
  A journal, in plain words.
-/
import Derived.Test.YtdhidcoglioalaaPlateP
import Derived.Test.YtdhidcoglioalaaSumP
namespace Go.Proofs.Ytdhidcoglioalaa.Plain
open Math (W sumOf)
abbrev Blk := Nat → Byte
theorem snoc_ind {α : Type} {p : List α → Prop} (nil : p []) (append_singleton : ∀ l x, p l → p (l ++ [x])) : ∀ l, p l := by
  intro l
  have h : ∀ (k : List α), p k.reverse := by
    intro k
    induction k with
    | nil => exact nil
    | cons x k ih => rw [List.reverse_cons]; exact append_singleton _ _ ih
  have := h l.reverse
  rwa [List.reverse_reverse] at this
theorem mod_mul (v m : Int) : v % (256 * m) = v % 256 + 256 * ((v / 256) % m) := by
  rw [Int.emod_def v (256 * m), Int.emod_def (v / 256) m, Int.emod_def v 256, ← Int.ediv_ediv_of_nonneg (show (0 : Int) ≤ 256 by omega), Int.mul_sub, Int.mul_assoc]
  omega
def zeroB : Blk := fun _ => 0
def oneB (b : Byte) : Blk := fun j => if j < 48 then b else 0
/-- A block of bytes, noughts beyond them; a block's bytes. -/
def blkOf (l : List Byte) : Blk := fun j => if j < 48 then l.getD j 0 else 0
def bytesB (b : Blk) : List Byte := (List.range 48).map b
def Flat (b : Blk) : Prop := ∀ j, 48 ≤ j → b j = 0
theorem flat_blkOf (l : List Byte) : Flat (blkOf l) := fun j h => if_neg (by omega)
theorem flat_zero : Flat zeroB := fun _ _ => rfl
theorem flat_one (b : Byte) : Flat (oneB b) := fun j h => if_neg (by omega)
theorem bytesB_length (b : Blk) : (bytesB b).length = 48 := by simp [bytesB]
theorem bytesB_get (b : Blk) {j : Nat} (h : j < 48) : (bytesB b)[j]? = some (b j) := by simp [bytesB, h]
theorem blk_bytes {b : Blk} (h : Flat b) : blkOf (bytesB b) = b := by
  funext j
  unfold blkOf
  by_cases hj : j < 48
  · rw [if_pos hj, List.getD_eq_getElem?_getD, bytesB_get b hj]; rfl
  · rw [if_neg hj, h j (by omega)]
theorem bytes_blk {l : List Byte} (h : l.length = 48) : bytesB (blkOf l) = l := by
  apply List.ext_getElem?
  intro j
  by_cases hj : j < 48
  · rw [bytesB_get _ hj, List.getElem?_eq_getElem (by omega)]
    unfold blkOf
    rw [if_pos hj, List.getD_eq_getElem?_getD, List.getElem?_eq_getElem (by omega)]
    rfl
  · rw [List.getElem?_eq_none (by rw [bytesB_length]; omega), List.getElem?_eq_none (by omega)]
theorem flat_ext {a b : Blk} (ha : Flat a) (hb : Flat b) (h : bytesB a = bytesB b) : a = b := by rw [← blk_bytes ha, ← blk_bytes hb, h]
/-- A number in so many bytes, the highest first; the number that bytes are. -/
def numB : Nat → Int → List Byte
  | 0, _ => []
  | n + 1, v => numB n (v / 256) ++ [BitVec.ofInt 8 v]
def getN (l : List Byte) : Nat := l.foldl (fun v x => v * 256 + x.toNat) 0
theorem numB_length : ∀ (n : Nat) (v : Int), (numB n v).length = n
  | 0, _ => rfl
  | n + 1, v => by simp [numB, numB_length n]
theorem getN_snoc (l : List Byte) (x : Byte) : getN (l ++ [x]) = getN l * 256 + x.toNat := by simp [getN]
theorem ofInt_byte (v : Int) : ((BitVec.ofInt 8 v).toNat : Int) = v % 256 := by
  rw [BitVec.toNat_ofInt]
  have h := Int.emod_nonneg v (show (256 : Int) ≠ 0 by omega)
  exact Int.toNat_of_nonneg h
theorem getN_num : ∀ (n : Nat) (v : Int), (getN (numB n v) : Int) = v % 256 ^ n
  | 0, v => by simp [numB, getN]
  | n + 1, v => by
    show (getN (numB n (v / 256) ++ [BitVec.ofInt 8 v]) : Int) = _
    rw [getN_snoc, Int.natCast_add, Int.natCast_mul, getN_num n (v / 256), ofInt_byte, Int.pow_succ, Int.mul_comm (256 ^ n) 256, mod_mul]
    generalize (v / 256) % 256 ^ n = z
    omega
theorem getN_lt : ∀ (l : List Byte), getN l < 256 ^ l.length := by
  intro l
  induction l using snoc_ind with
  | nil => simp [getN]
  | append_singleton l x ih =>
    rw [getN_snoc, List.length_append, List.length_singleton, Nat.pow_succ]
    have := x.isLt
    omega
/-- A sector's fields. -/
structure Sct where
  kind : Int
  turn : Int
  number : Int
  data : Blk
def headL (s : Sct) : List Byte := BitVec.ofInt 8 s.kind :: (numB 5 s.turn ++ (numB 2 s.number ++ bytesB s.data))
def packL (s : Sct) : List Byte := headL s ++ numB 8 (sumOf (headL s)).toInt
def packS (s : Sct) : Sec := secOf (packL s)
theorem headL_length (s : Sct) : (headL s).length = 56 := by simp [headL, numB_length, bytesB_length]
theorem packL_length (s : Sct) : (packL s).length = 64 := by simp [packL, headL_length, numB_length]
/-- Some bytes of a sector. -/
def cutS (b : Sec) (i n : Nat) : List Byte := (List.range n).map fun j => b (i + j)
theorem cutS_length (b : Sec) (i n : Nat) : (cutS b i n).length = n := by simp [cutS]
def isBlank (b : Sec) : Bool := (bytesOf b).all (· == 0)
def parseS (b : Sec) : Sct := ⟨(b 0).toNat, getN (cutS b 1 5), getN (cutS b 6 2), blkOf (cutS b 8 48)⟩
def parseOk (b : Sec) : Bool := decide (BitVec.ofNat 64 (getN (cutS b 56 8)) = sumOf (cutS b 0 56))
theorem cut_secOf {l : List Byte} {i n : Nat} (h : i + n ≤ l.length) : cutS (secOf l) i n = (l.drop i).take n := by
  apply List.ext_getElem?
  intro j
  by_cases hj : j < n
  · rw [List.getElem?_take_of_lt hj, List.getElem?_drop]
    simp only [cutS, secOf, List.getElem?_map, List.getElem?_range hj, Option.map_some, List.getD_eq_getElem?_getD]
    rw [List.getElem?_eq_getElem (by omega)]
    rfl
  · rw [List.getElem?_eq_none (by rw [cutS_length]; omega), List.getElem?_eq_none (by rw [List.length_take]; omega)]
/-- Fields that a sector's bytes hold. -/
structure Sct.Fits (s : Sct) : Prop where
  kind : 0 ≤ s.kind ∧ s.kind < 256
  turn : 0 ≤ s.turn ∧ s.turn < 1099511627776
  number : 0 ≤ s.number ∧ s.number < 65536
  data : Flat s.data
theorem secOf_zero {l : List Byte} (h : l ≠ []) : secOf l 0 = l.head h := by cases l; exact absurd rfl h; rfl
theorem pack_cuts (s : Sct) : cutS (packS s) 1 5 = numB 5 s.turn ∧ cutS (packS s) 6 2 = numB 2 s.number ∧ cutS (packS s) 8 48 = bytesB s.data ∧ cutS (packS s) 56 8 = numB 8 (sumOf (headL s)).toInt ∧ cutS (packS s) 0 56 = headL s := by
  have h0 := packL_length s
  have h5 := numB_length 5 s.turn
  have h2 := numB_length 2 s.number
  have h48 := bytesB_length s.data
  have h8 := numB_length 8 (sumOf (headL s)).toInt
  have h56 := headL_length s
  unfold packS
  refine ⟨?_, ?_, ?_, ?_, ?_⟩
  · rw [cut_secOf (by omega)]
    unfold packL headL
    simp only [List.cons_append, List.drop_succ_cons, List.drop_zero, List.append_assoc]
    rw [List.take_append_of_le_length (by omega), List.take_of_length_le (by omega)]
  · rw [cut_secOf (by omega)]
    unfold packL headL
    simp only [List.cons_append, List.drop_succ_cons, List.append_assoc]
    rw [List.drop_append, List.drop_of_length_le (by omega), List.nil_append, h5, Nat.sub_self, List.drop_zero, List.take_append_of_le_length (by omega), List.take_of_length_le (by omega)]
  · rw [cut_secOf (by omega)]
    unfold packL headL
    simp only [List.cons_append, List.drop_succ_cons, List.append_assoc]
    rw [List.drop_append, List.drop_of_length_le (by omega), List.nil_append, h5, List.drop_append, List.drop_of_length_le (by omega), List.nil_append, h2]
    show List.take 48 (List.drop 0 _) = _
    rw [List.drop_zero, List.take_append_of_le_length (by omega), List.take_of_length_le (by omega)]
  · rw [cut_secOf (by omega)]
    unfold packL
    rw [List.drop_append, List.drop_of_length_le (by omega), List.nil_append, h56, Nat.sub_self, List.drop_zero, List.take_of_length_le (by omega)]
  · rw [cut_secOf (by omega)]
    unfold packL
    rw [List.drop_zero, List.take_append_of_le_length (by omega), List.take_of_length_le (by omega)]
theorem pack_ok (s : Sct) : parseOk (packS s) = true := by
  obtain ⟨_, _, _, h4, h5⟩ := pack_cuts s
  unfold parseOk
  rw [h4, h5, decide_eq_true_eq]
  apply BitVec.eq_of_toNat_eq
  rw [BitVec.toNat_ofNat]
  have h := getN_num 8 (sumOf (headL s)).toInt
  have h1 := BitVec.toInt_eq_toNat_cond (sumOf (headL s))
  have h2 := (sumOf (headL s)).isLt
  generalize (sumOf (headL s)).toInt = z at *
  have e : ((256 : Int) ^ 8) = 18446744073709551616 := by decide
  rw [e] at h
  generalize getN (numB 8 z) = g at *
  split at h1 <;> omega
theorem pack_parse {s : Sct} (h : s.Fits) : parseS (packS s) = s := by
  obtain ⟨h1, h2, h3, _, _⟩ := pack_cuts s
  unfold parseS
  rw [h1, h2, h3, blk_bytes h.data, getN_num, getN_num]
  have e0 : (packS s 0).toNat = s.kind.toNat := by
    show ((BitVec.ofInt 8 s.kind).toNat) = _
    have := ofInt_byte s.kind
    have := h.kind
    omega
  rw [e0]
  obtain ⟨k, t, n, d⟩ := s
  have hk := h.kind
  have ht := h.turn
  have hn := h.number
  simp only at hk ht hn ⊢
  have e1 : ((256 : Int) ^ 5) = 1099511627776 := by decide
  have e2 : ((256 : Int) ^ 2) = 65536 := by decide
  rw [e1, e2, Int.emod_eq_of_lt ht.1 ht.2, Int.emod_eq_of_lt hn.1 hn.2, Int.toNat_of_nonneg hk.1]
theorem bytes_zero : isBlank zeroS = true := by decide
theorem blank_eq {b : Sec} : isBlank b = true ↔ ∀ j, j < 64 → b j = 0 := by
  unfold isBlank bytesOf
  rw [List.all_eq_true]
  constructor
  · intro h j hj
    simpa using h (b j) (List.mem_map.2 ⟨j, List.mem_range.2 hj, rfl⟩)
  · intro h x hx
    obtain ⟨j, hj, rfl⟩ := List.mem_map.1 hx
    simpa using h j (List.mem_range.1 hj)
theorem pack_not_blank {s : Sct} (h : s.Fits) (h1 : s.kind ≠ 0) : isBlank (packS s) = false := by
  cases hb : isBlank (packS s)
  · rfl
  · have h2 := blank_eq.1 hb 0 (by omega)
    have h3 := congrArg Sct.kind (pack_parse h)
    simp only [parseS] at h3
    rw [h2] at h3
    exact absurd h3.symm h1
theorem bytesOf_secOf {l : List Byte} (h : l.length = 64) : bytesOf (secOf l) = l := by
  apply List.ext_getElem?
  intro j
  by_cases hj : j < 64
  · simp only [bytesOf, secOf, List.getElem?_map, List.getElem?_range hj, Option.map_some, List.getD_eq_getElem?_getD]
    rw [List.getElem?_eq_getElem (by omega)]
    rfl
  · rw [List.getElem?_eq_none (by rw [bytesOf_length]; omega), List.getElem?_eq_none (by omega)]
end Go.Proofs.Ytdhidcoglioalaa.Plain
