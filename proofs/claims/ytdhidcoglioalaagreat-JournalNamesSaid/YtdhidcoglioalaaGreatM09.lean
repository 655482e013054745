/-
  A journal is made; it is opened anew; heads and homes of which a bit is turned.
  The document's journal in plain words: bytes as it lays them, its list of what is pending.
  uint64 and byte operations of the model, told of bit vectors.
-/
import Derived.Test.YtdhidcoglioalaaGreatM08
import Derived.Test.YtdhidcoglioalaaGreatM06
import Derived.WalkKit
import Derived.Test.YtdhidcoglioalaaGreatM05
namespace Go.Proofs.YtdhidcoglioalaaGreat.Plain
open Jn
/-- A plate that is as it was made. -/
structure Fresh (P : Pl) (n : Nat) : Prop where
  n : P.n = n
  live : Live P (fun _ => zeroS) (fun _ => none)
  fails : P.fails = false
theorem fresh_made (n : Nat) : Fresh (Pl.made n) n := ⟨rfl, ⟨rfl, rfl, rfl⟩, rfl⟩
theorem can_any {P : Pl} (h : P.fails = false) (m : Nat) : Can P m := fun hf => by rw [h] at hf; cases hf
def zerosL (n : Nat) : List (Nat × Sec) := (List.range (n - 2)).map fun i => (2 + i, zeroS)
theorem zerosL_mem {n : Nat} {x : Nat × Sec} (h : x ∈ zerosL n) : 2 ≤ x.1 ∧ x.1 < n ∧ x.2 = zeroS := by
  obtain ⟨i, hi, rfl⟩ := List.mem_map.1 h
  rw [List.mem_range] at hi
  exact ⟨by show 2 ≤ 2 + i; omega, by show 2 + i < n; omega, rfl⟩
def headsL (log : Nat) : List (Nat × Sec) := [(0, packS (headSct 1 log 0 1)), (1, packS (headSct 2 log 0 1))]
theorem format_fresh {P : Pl} {n log : Nat} (h : Fresh P n) (hn : n ≤ 4096) (h2 : 2 ≤ log) (h3 : log + 3 ≤ n) : formatE P log = 0 ∧ ∃ S, Inv n S (formatJ log) (fun _ => zeroB) ∧ Live (formatP P log) S (fun _ => none) ∧ (formatP P log).n = n ∧ (formatP P log).fails = false := by
  obtain ⟨hPn, hL, hf⟩ := h
  obtain ⟨r1, _⟩ := run_two (l := zerosL n) (k := headsL log) hL
    (fun x hx => by obtain ⟨_, h2, h3⟩ := zerosL_mem hx; exact ⟨by omega, by rw [h3]; exact neat_zero⟩)
    (fun x hx => by
      simp only [headsL, List.mem_cons, List.not_mem_nil, or_false] at hx
      rcases hx with rfl | rfl
      · exact ⟨by show 0 < P.n; omega, neat_pack _⟩
      · exact ⟨by show 1 < P.n; omega, neat_pack _⟩) (can_any hf 0) (ws := zerosW n ++ formatW n log) (by
        unfold zerosW formatW zerosL headsL wrs
        simp [List.map_map, Function.comp_def])
  obtain ⟨e1, e2, e3⟩ := r1 (can_any hf _)
  rw [runE_append] at e1
  rw [runP_append] at e2 e3
  have hz : runE (zerosW n) P = 0 := by
    by_cases h : runE (zerosW n) P = 0
    · exact h
    · rw [if_pos h] at e1; exact e1
  rw [hz] at e1 e2 e3
  simp only [ne_eq, not_true_eq_false, if_false] at e1 e2 e3
  have hno : ¬ ((log : Int) < 2 ∨ (P.n : Int) < (log : Int) + 3) := by omega
  have hE : formatE P log = 0 := by
    unfold formatE
    rw [hL.dead, if_neg (by simp), if_neg hno, hPn, hz, Int.toNat_natCast]
    simpa using e1
  have hP : formatP P log = runP (formatW n log) (runP (zerosW n) P) := by
    unfold formatP
    rw [hL.dead, if_neg (by simp), if_neg hno, hPn, hz, Int.toNat_natCast]
    simp
  rw [hE, hP]
  refine ⟨rfl, _, ?_, e2, e3.n.trans hPn, e3.fails.trans hf⟩
  have hlow : ∀ i, 2 ≤ i → setAll (setAll (fun _ => zeroS) (zerosL n)) (headsL log) i = zeroS := fun i hi => by
    rw [setAll_out (fun x hx => by simp only [headsL, List.mem_cons, List.not_mem_nil, or_false] at hx; rcases hx with rfl | rfl <;> simp only <;> omega)]
    rcases setAll_or (fun _ => zeroS) (zerosL n) i with e | e
    · exact e
    · exact (zerosL_mem e).2.2
  have hnd : ((headsL log).map (·.1)).Nodup := by simp [headsL]
  have g0 : setAll (setAll (fun _ => zeroS) (zerosL n)) (headsL log) 0 = packS (headSct 1 log 0 1) := setAll_in (x := (0, packS (headSct 1 log 0 1))) hnd (List.mem_cons_self ..)
  have g1 : setAll (setAll (fun _ => zeroS) (zerosL n)) (headsL log) 1 = packS (headSct 2 log 0 1) := setAll_in (x := (1, packS (headSct 2 log 0 1))) hnd (List.mem_cons_of_mem _ (List.mem_singleton.2 rfl))
  refine ⟨hn, h2, h3, rfl, ⟨0, 1, by show 0 < log; omega, by omega, (by have e : ((formatJ log).head + 1) % 2 = 1 := (by simp [formatJ]); rw [e]; exact g1), Led.base⟩, ⟨0, 1, by show 0 < log; omega, by omega, by omega, (by have e : (formatJ log).head % 2 = 0 := (by simp [formatJ]); rw [e]; exact g0)⟩, ⟨Nat.le_refl _, by show (2 : Nat) < 1099511627776; decide⟩, by show (1 : Nat) < 1099511627776; decide, fun k _ => .inl (hlow _ (by omega)), fun i _ => .inl ⟨hlow _ (by omega), rfl⟩, fun _ => flat_zero⟩
/-! ### It is opened -/
theorem open_inv {n : Nat} {S : Nat → Sec} {J : Jn} (h : Core n S J) {P : Pl} (hP : Live P S (fun _ => none)) (hn : P.n = n) (hf : P.fails = false) : P.flushE = 0 ∧ openJ P.flush = some J ∧ Live P.flush S (fun _ => none) ∧ P.flush.n = n ∧ P.flush.fails = false := by
  have hc := can_any hf 1
  obtain ⟨e1, e2⟩ := flush_can hP.dead hc
  have e2' : P.flush = (spent P 1).settled := e2
  have hsp : spent P 1 = P := by unfold spent; rw [hf]; simp
  rw [hsp] at e2'
  have hL : Live P.flush S (fun _ => none) := by rw [e2']; exact ⟨hP.dead, seen_live hP, rfl⟩
  have hn' : P.flush.n = n := by rw [e2']; exact hn
  exact ⟨e1, h.open_ hL hn', hL, hn', by rw [e2']; exact hf⟩
/-- The power is back. -/
theorem boot_down {P : Pl} {S : Nat → Sec} {n : Nat} (h : Down P S n) : Live P.boot S (fun _ => none) ∧ P.boot.n = n ∧ P.boot.fails = false := ⟨⟨rfl, h.stays, h.waits⟩, h.n, rfl⟩
/-! ### A bit is turned -/
open Math in
theorem flip_cut {b : Sec} {k : Nat} (hk : k < 448) : cutS (Pl.flip b k) 0 56 = (cutS b 0 56).set (k / 8) ((cutS b 0 56).getD (k / 8) 0 ^^^ (1#8 <<< (k % 8))) := by
  apply List.ext_getElem?
  intro j
  have hl : ∀ c : Sec, (cutS c 0 56).length = 56 := fun c => cutS_length _ _ _
  by_cases hj : j < 56
  · have hg : ∀ c : Sec, (cutS c 0 56)[j]? = some (c j) := fun c => by simp [cutS, hj]
    have hg2 : (cutS b 0 56).getD (k / 8) 0 = b (k / 8) := by simp [cutS, List.getD_eq_getElem?_getD, show k / 8 < 56 by omega]
    rw [hg, hg2]
    unfold Pl.flip
    by_cases e : j = k / 8
    · rw [e, upd_same, List.getElem?_set_self (by rw [hl]; omega)]
    · rw [upd_other _ _ e, List.getElem?_set_ne (fun h => e h.symm), hg]
  · rw [List.getElem?_eq_none (by rw [hl]; omega), List.getElem?_eq_none (by rw [List.length_set, hl]; omega)]
open Math in
/-- One bit that is turned makes another sum. -/
theorem sum_bit (l : List Byte) {k : Nat} (hk : k < 8 * l.length) : sumOf (l.set (k / 8) (l.getD (k / 8) 0 ^^^ (1#8 <<< (k % 8)))) ≠ sumOf l := by
  have h := sum_turned l k (by omega) 1#64
  have hf : ∀ m, 0 < m → flips l k 1#64 m = l.set (k / 8) (l.getD (k / 8) 0 ^^^ (1#8 <<< (k % 8))) ∧ turned l.length k 1#64 m = true := by
    intro m hm
    induction m with
    | zero => omega
    | succ m ih =>
      by_cases h0 : m = 0
      · subst h0
        simp [flips, turned, hk]
      · obtain ⟨i1, i2⟩ := ih (by omega)
        have hb : (1#64).getLsbD m = false := by
          rw [BitVec.getLsbD_one]; simp [h0]
        unfold flips turned
        rw [hb, i1, i2]
        simp
  obtain ⟨h1, h2⟩ := hf 64 (by omega)
  rw [h1, h2] at h
  exact (h.2 rfl).symm
theorem cut_getN_inj : ∀ {l k : List Byte}, l.length = k.length → getN l = getN k → l = k := by
  intro l
  induction l using snoc_ind with
  | nil => intro k h _; exact (List.eq_nil_of_length_eq_zero h.symm).symm
  | append_singleton l x ih =>
    intro k
    induction k using snoc_ind with
    | nil => intro h _; simp at h
    | append_singleton k y _ =>
      intro h e
      rw [getN_snoc, getN_snoc] at e
      have hx := x.isLt
      have hy := y.isLt
      have e1 : getN l = getN k := by omega
      have e2 : x = y := BitVec.eq_of_toNat_eq (by omega)
      rw [ih (by simpa using h) e1, e2]
theorem flip_bad {s : Sct} {k : Nat} (hk : k < 512) : parseOk (Pl.flip (packS s) k) = false := by
  obtain ⟨_, _, _, h4, h5⟩ := pack_cuts s
  have hok := pack_ok s
  unfold parseOk at hok ⊢
  rw [decide_eq_true_eq] at hok
  rw [decide_eq_false_iff_not]
  intro e
  by_cases hlt : k < 448
  · have e1 : cutS (Pl.flip (packS s) k) 56 8 = cutS (packS s) 56 8 := by
      apply List.map_congr_left
      intro j hj
      rw [List.mem_range] at hj
      exact upd_other _ _ (by omega)
    rw [e1, flip_cut hlt, hok] at e
    exact sum_bit (cutS (packS s) 0 56) (k := k) (by rw [cutS_length]; omega) e.symm
  · have e1 : cutS (Pl.flip (packS s) k) 0 56 = cutS (packS s) 0 56 := by
      apply List.map_congr_left
      intro j hj
      rw [List.mem_range] at hj
      exact upd_other _ _ (by omega)
    rw [e1, ← hok] at e
    have hlt8 : ∀ b : Sec, getN (cutS b 56 8) < 18446744073709551616 := fun b => by
      have := getN_lt (cutS b 56 8)
      rw [cutS_length] at this
      exact this
    have e2 : getN (cutS (Pl.flip (packS s) k) 56 8) = getN (cutS (packS s) 56 8) := by
      have := congrArg BitVec.toNat e
      rw [BitVec.toNat_ofNat, BitVec.toNat_ofNat, Nat.mod_eq_of_lt (hlt8 _), Nat.mod_eq_of_lt (hlt8 _)] at this
      exact this
    have e3 := cut_getN_inj (by rw [cutS_length, cutS_length]) e2
    have e4 := congrArg (fun l => l[k / 8 - 56]?) e3
    simp only [cutS, List.getElem?_map, List.getElem?_range (show k / 8 - 56 < 8 by omega), Option.map_some, Option.some.injEq] at e4
    rw [show 56 + (k / 8 - 56) = k / 8 by omega] at e4
    unfold Pl.flip at e4
    rw [upd_same] at e4
    have e5 : (1#8 <<< (k % 8)) = 0#8 := by
      have := congrArg (fun z => packS s (k / 8) ^^^ z) e4
      simp only [← BitVec.xor_assoc, BitVec.xor_self, BitVec.zero_xor] at this
      exact this
    have e6 := congrArg (fun z : Byte => z.getLsbD (k % 8)) e5
    have : k % 8 < 8 := by omega
    simp [this] at e6
theorem flip_not_blank {s : Sct} (h : s.Fits) (h0 : s.kind ≠ 0) (h1 : s.turn ≠ 0) {k : Nat} : isBlank (Pl.flip (packS s) k) = false := by
  cases hb : isBlank (Pl.flip (packS s) k)
  · rfl
  · exfalso
    have h2 := blank_eq.1 hb
    by_cases hk : k / 8 = 0
    · have hz : ∀ j, 1 ≤ j → j < 6 → packS s j = 0 := fun j hj hj2 => by
        have := h2 j (by omega)
        unfold Pl.flip at this
        rwa [upd_other _ _ (by omega)] at this
      have h3 := congrArg Sct.turn (pack_parse h)
      have h4 : cutS (packS s) 1 5 = [0, 0, 0, 0, 0] := by
        show (List.range 5).map _ = _
        simp only [List.range_succ, List.range_zero, List.nil_append, List.map_cons, List.map_nil, List.cons_append, Nat.reduceAdd]
        rw [hz 1 (by omega) (by omega), hz 2 (by omega) (by omega), hz 3 (by omega) (by omega), hz 4 (by omega) (by omega), hz 5 (by omega) (by omega)]
      simp only [parseS] at h3
      rw [h4] at h3
      exact h1 h3.symm
    · have h3 := h2 0 (by omega)
      unfold Pl.flip at h3
      rw [upd_other _ _ (by omega)] at h3
      have h4 := congrArg Sct.kind (pack_parse h)
      simp only [parseS] at h4
      rw [h3] at h4
      exact h0 h4.symm
end Go.Proofs.YtdhidcoglioalaaGreat.Plain
namespace Go.Proofs.YtdhidcoglioalaaGreat.Plain
open Math (W sumOf)
set_option linter.unusedVariables false

theorem numB_congr : ∀ (n : Nat) (v v' : Int), v % 256 ^ n = v' % 256 ^ n → numB n v = numB n v'
  | 0, _, _, _ => rfl
  | n + 1, v, v', h => by
    rw [Int.pow_succ, Int.mul_comm, mod_mul, mod_mul] at h
    have h1 := Int.emod_nonneg v (show (256 : Int) ≠ 0 by omega)
    have h2 := Int.emod_nonneg v' (show (256 : Int) ≠ 0 by omega)
    have h3 := Int.emod_lt_of_pos v (show (0 : Int) < 256 by omega)
    have h4 := Int.emod_lt_of_pos v' (show (0 : Int) < 256 by omega)
    have e1 : v % 256 = v' % 256 := by generalize (v / 256) % 256 ^ n = a at *; generalize (v' / 256) % 256 ^ n = b at *; omega
    have e2 : (v / 256) % 256 ^ n = (v' / 256) % 256 ^ n := by generalize (v / 256) % 256 ^ n = a at *; generalize (v' / 256) % 256 ^ n = b at *; omega
    show numB n (v / 256) ++ [BitVec.ofInt 8 v] = numB n (v' / 256) ++ [BitVec.ofInt 8 v']
    rw [numB_congr n _ _ e2]
    congr 2
    apply BitVec.eq_of_toNat_eq
    have a1 := ofInt_byte v
    have a2 := ofInt_byte v'
    omega
theorem numB_take {n k : Nat} (v : Int) (h : k < n) : (numB n v).take (k + 1) = (numB n v).take k ++ [BitVec.ofInt 8 (v / 256 ^ (n - 1 - k))] := by
  have hl := numB_length n v
  rw [List.take_succ_eq_append_getElem (by omega)]
  have := Walks.numB_get n v k h
  rw [List.getElem?_eq_getElem (by omega)] at this
  rw [Option.some.inj this]
theorem numB_getN (l : List Byte) : numB l.length (getN l) = l := by
  induction l using snoc_ind with
  | nil => rfl
  | append_singleton l x ih =>
    rw [List.length_append, List.length_singleton, getN_snoc]
    show numB l.length (((getN l * 256 + x.toNat : Nat) : Int) / 256) ++ [BitVec.ofInt 8 ((getN l * 256 + x.toNat : Nat) : Int)] = _
    have hx := x.isLt
    rw [show ((getN l * 256 + x.toNat : Nat) : Int) / 256 = (getN l : Int) by omega, ih]
    congr 2
    apply BitVec.eq_of_toNat_eq
    have a1 := ofInt_byte ((getN l * 256 + x.toNat : Nat) : Int)
    omega
theorem sum_num (s : W) : numB 8 s.toInt = numB 8 (s.toNat : Int) := by
  apply numB_congr
  have h := BitVec.toInt_eq_toNat_cond s
  have hs := s.isLt
  have e : ((256 : Int) ^ 8) = 18446744073709551616 := by decide
  have e' : (2 ^ 64 : Nat) = 18446744073709551616 := by decide
  rw [e]
  rw [e'] at *
  split at h <;> omega
/-- The document pads with noughts. -/
theorem pad_bytes {l : List Byte} (h : l.length ≤ 48) : l ++ List.replicate (48 - l.length) 0 = bytesB (blkOf l) := by
  apply List.ext_getElem?
  intro j
  by_cases hj : j < 48
  · rw [bytesB_get _ hj]
    unfold blkOf
    rw [if_pos hj, List.getD_eq_getElem?_getD]
    by_cases hl : j < l.length
    · rw [List.getElem?_append_left hl, List.getElem?_eq_getElem hl]; rfl
    · rw [List.getElem?_append_right (by omega), List.getElem?_replicate, if_pos (by omega), List.getElem?_eq_none (by omega)]; rfl
  · rw [List.getElem?_eq_none (by simp; omega), List.getElem?_eq_none (by rw [bytesB_length]; omega)]
def sctOf (k t n : Int) (d : List Byte) : Sct := ⟨k, t, n, blkOf d⟩
theorem head_pad (k t n : Int) {d : List Byte} (h : d.length ≤ 48) : BitVec.ofInt 8 k :: (numB 5 t ++ (numB 2 n ++ (d ++ List.replicate (48 - d.length) 0))) = headL (sctOf k t n d) := by
  rw [pad_bytes h]; rfl
theorem head_parse (b : Sec) : headL (parseS b) = cutS b 0 56 := by
  have h1 : numB 5 (getN (cutS b 1 5) : Int) = cutS b 1 5 := by have := numB_getN (cutS b 1 5); rwa [cutS_length] at this
  have h2 : numB 2 (getN (cutS b 6 2) : Int) = cutS b 6 2 := by have := numB_getN (cutS b 6 2); rwa [cutS_length] at this
  have h3 : bytesB (blkOf (cutS b 8 48)) = cutS b 8 48 := bytes_blk (cutS_length _ _ _)
  have h0 : BitVec.ofInt 8 ((b 0).toNat : Int) = b 0 := by
    apply BitVec.eq_of_toNat_eq
    have := ofInt_byte ((b 0).toNat : Int)
    have := (b 0).isLt
    omega
  unfold headL parseS
  simp only [h0, h1, h2, h3]
  have e : cutS b 0 56 = cutS b 0 1 ++ (cutS b 1 5 ++ (cutS b 6 2 ++ cutS b 8 48)) := by
    unfold cutS
    rw [show (56 : Nat) = 1 + (5 + (2 + 48)) by rfl, List.range_add, List.map_append, List.range_add, List.map_append, List.map_append, List.range_add, List.map_append, List.map_append, List.map_append]
    simp only [List.map_map]
    congr 1
  rw [e]
  rfl
theorem bytes_cut (b : Sec) : bytesOf b = cutS b 0 56 ++ cutS b 56 8 := by
  unfold cutS bytesOf
  rw [show (64 : Nat) = 56 + 8 by rfl, List.range_add, List.map_append, List.map_map]
  congr 1
theorem unpack_ok (b : Sec) : decide (packL (parseS b) = bytesOf b) = parseOk b := by
  unfold parseOk packL
  rw [head_parse, bytes_cut]
  congr 1
  rw [List.append_cancel_left_eq, sum_num, eq_iff_iff]
  have hl : (cutS b 56 8).length = 8 := cutS_length _ _ _
  have hlt := getN_lt (cutS b 56 8)
  rw [hl] at hlt
  have e1 : (256 : Nat) ^ 8 = 18446744073709551616 := by decide
  rw [e1] at hlt
  generalize sumOf (cutS b 0 56) = s at *
  have hs := s.isLt
  constructor
  · intro h
    apply BitVec.eq_of_toNat_eq
    rw [BitVec.toNat_ofNat, ← h]
    have h2 := getN_num 8 (s.toNat : Int)
    have e2 : ((256 : Int) ^ 8) = 18446744073709551616 := by decide
    rw [e2] at h2
    generalize getN (numB 8 (s.toNat : Int)) = g at *
    omega
  · intro h
    rw [← h, BitVec.toNat_ofNat, Nat.mod_eq_of_lt (by omega)]
    have := numB_getN (cutS b 56 8)
    rwa [hl] at this
/-! ### What is pending, as a list -/
abbrev PL := List (Nat × Blk)
def pendN (f : Pend) (N : Nat) : PL := (List.range N).filterMap fun i => (f i).map fun b => (i, b)
/-- One step of the document's loop. -/
def stepH (x : Nat × Blk) (s : PL × Bool) (y : Nat × Blk) : PL × Bool :=
  ((if !s.2 && decide (x.1 ≤ y.1) then s.1 ++ [x] else s.1) ++ (if y.1 = x.1 then [] else [y]), s.2 || decide (x.1 ≤ y.1))
def foldH (x : Nat × Blk) (l : PL) : PL × Bool := l.foldl (stepH x) ([], false)
def hasH (x : Nat × Blk) (l : PL) : PL := if (foldH x l).2 then (foldH x l).1 else (foldH x l).1 ++ [x]
theorem foldH_take {x : Nat × Blk} {l : PL} {k : Nat} (h : k < l.length) : foldH x (l.take (k + 1)) = stepH x (foldH x (l.take k)) l[k] := by
  unfold foldH
  rw [List.take_succ_eq_append_getElem h, List.foldl_append]
  rfl
def insL (x : Nat × Blk) (l : PL) : PL := l.filter (fun y => decide (y.1 < x.1)) ++ x :: l.filter (fun y => decide (x.1 < y.1))
def Up (l : PL) : Prop := l.Pairwise fun a b => a.1 < b.1
theorem fold_put (x : Nat × Blk) : ∀ (l out : PL), (∀ y ∈ l, x.1 < y.1) → l.foldl (stepH x) (out, true) = (out ++ l, true)
  | [], out, _ => by simp
  | y :: l, out, h => by
    have hy := h y List.mem_cons_self
    have e : stepH x (out, true) y = (out ++ [y], true) := by
      unfold stepH
      rw [if_neg (by simp), if_neg (by omega)]
      simp
    rw [List.foldl_cons, e, fold_put x l _ fun z hz => h z (List.mem_cons_of_mem _ hz)]
    simp
theorem fold_ins (x : Nat × Blk) : ∀ (l out : PL), Up l → (let s := l.foldl (stepH x) (out, false); (if s.2 then s.1 else s.1 ++ [x]) = out ++ insL x l)
  | [], out, _ => by simp [insL]
  | y :: l, out, h => by
    have hl : ∀ z ∈ l, y.1 < z.1 := (List.pairwise_cons.1 h).1
    have hu : Up l := (List.pairwise_cons.1 h).2
    by_cases hxy : x.1 ≤ y.1
    · have e : stepH x (out, false) y = (out ++ [x] ++ (if y.1 = x.1 then [] else [y]), true) := by
        unfold stepH
        simp [hxy]
      have hall : ∀ z ∈ l, x.1 < z.1 := fun z hz => by have := hl z hz; omega
      have f1 : l.filter (fun z => decide (z.1 < x.1)) = [] := List.filter_eq_nil_iff.2 fun z hz => by have := hall z hz; simp; omega
      have f2 : l.filter (fun z => decide (x.1 < z.1)) = l := List.filter_eq_self.2 fun z hz => by simpa using hall z hz
      simp only [List.foldl_cons, e, fold_put x l _ hall, if_true]
      unfold insL
      by_cases hq : y.1 = x.1
      · simp [hq, f1, f2]
      · have hlt : x.1 < y.1 := by omega
        simp [hq, f1, f2, hlt, Nat.not_lt.2 hxy]
    · have e : stepH x (out, false) y = (out ++ [y], false) := by
        unfold stepH
        rw [if_neg (by simp [hxy]), if_neg (by omega)]
        simp [hxy]
      have ih := fold_ins x l (out ++ [y]) hu
      simp only [List.foldl_cons, e] at ih ⊢
      rw [ih]
      unfold insL
      have h1 : y.1 < x.1 := by omega
      simp [h1, show ¬ x.1 < y.1 by omega]
theorem hasH_ins {x : Nat × Blk} {l : PL} (h : Up l) : hasH x l = insL x l := by
  have := fold_ins x l [] h
  rw [List.nil_append] at this
  exact this
theorem pendN_succ (f : Pend) (N : Nat) : pendN f (N + 1) = pendN f N ++ (match f N with | some b => [(N, b)] | none => []) := by
  unfold pendN
  rw [List.range_succ, List.filterMap_append]
  cases h : f N <;> simp [h]
theorem pendN_mem {f : Pend} {N : Nat} {x : Nat × Blk} : x ∈ pendN f N ↔ x.1 < N ∧ f x.1 = some x.2 := by
  unfold pendN
  rw [List.mem_filterMap]
  constructor
  · rintro ⟨i, hi, h⟩
    rw [List.mem_range] at hi
    cases hf : f i with
    | none => rw [hf] at h; cases h
    | some b => rw [hf] at h; simp at h; subst h; exact ⟨hi, hf⟩
  · rintro ⟨h1, h2⟩
    exact ⟨x.1, List.mem_range.2 h1, by rw [h2]; rfl⟩
theorem pendN_up (f : Pend) : ∀ N, Up (pendN f N)
  | 0 => List.Pairwise.nil
  | N + 1 => by
    rw [pendN_succ]
    refine List.pairwise_append.2 ⟨pendN_up f N, ?_, ?_⟩
    · split
      · exact List.pairwise_singleton _ _
      · exact List.Pairwise.nil
    · intro a ha b hb
      have h1 := (pendN_mem.1 ha).1
      split at hb
      · simp at hb; subst hb; exact h1
      · simp at hb
theorem pendN_filter_lt (f : Pend) (k : Nat) : ∀ N, (pendN f N).filter (fun y => decide (y.1 < k)) = pendN f (min k N)
  | 0 => by simp [pendN]
  | N + 1 => by
    rw [pendN_succ, List.filter_append, pendN_filter_lt f k N]
    by_cases h : N < k
    · rw [show min k (N + 1) = min k N + 1 by omega, pendN_succ, show min k N = N by omega]
      congr 1
      split <;> simp [h]
    · rw [show min k (N + 1) = min k N by omega]
      split <;> simp [h]
theorem pendN_congr {f g : Pend} : ∀ {N : Nat}, (∀ i, i < N → f i = g i) → pendN f N = pendN g N
  | 0, _ => rfl
  | N + 1, h => by rw [pendN_succ, pendN_succ, pendN_congr fun i hi => h i (by omega), h N (by omega)]
theorem pendN_ins (f : Pend) {x : Nat × Blk} : ∀ {N : Nat}, x.1 < N → insL x (pendN f N) = pendN (upd f x.1 (some x.2)) N
  | 0, h => by omega
  | N + 1, h => by
    rw [pendN_succ, pendN_succ]
    by_cases hx : x.1 = N
    · have e : pendN (upd f x.1 (some x.2)) N = pendN f N := pendN_congr fun i hi => upd_other _ _ (by omega)
      rw [e, ← hx, upd_same]
      unfold insL
      rw [List.filter_append, List.filter_append, pendN_filter_lt, Nat.min_self]
      have h2 : (pendN f x.1).filter (fun y => decide (x.1 < y.1)) = [] := List.filter_eq_nil_iff.2 fun z hz => by have := (pendN_mem.1 hz).1; simp; omega
      rw [h2]
      cases f x.1 <;> simp
    · have ih := pendN_ins f (x := x) (N := N) (by omega)
      rw [upd_other _ _ (show N ≠ x.1 by omega), ← ih]
      unfold insL
      rw [List.filter_append, List.filter_append]
      cases f N with
      | none => simp
      | some b => simp [show ¬ N < x.1 by omega, show x.1 < N by omega]
theorem pend_has (f : Pend) {x : Nat × Blk} {N : Nat} (h : x.1 < N) : hasH x (pendN f N) = pendN (upd f x.1 (some x.2)) N := by
  rw [hasH_ins (pendN_up f N), pendN_ins f h]
theorem pendN_length (f : Pend) : ∀ N, (pendN f N).length ≤ N
  | 0 => by simp [pendN]
  | N + 1 => by
    have := pendN_length f N
    rw [pendN_succ, List.length_append]
    split <;> simp <;> omega
theorem pendN_keys (J : Jn) (n : Nat) : (J.keys n).map (fun i => (i, (J.pend i).getD zeroB)) = pendN J.pend (n - 2 - J.log) := by
  unfold Jn.keys
  generalize n - 2 - J.log = N
  induction N with
  | zero => rfl
  | succ N ih =>
    rw [pendN_succ, List.range_succ, List.filter_append, List.map_append, ih]
    congr 1
    cases h : J.pend N <;> simp [h]
theorem pendN_none (N : Nat) : pendN (fun _ => none) N = [] := by
  induction N with
  | zero => rfl
  | succ N ih => rw [pendN_succ, ih]; rfl
/-- As puts. -/
def putsP (l : PL) : List (Int × List Byte) := l.map fun x => ((x.1 : Int), bytesB x.2)
end Go.Proofs.YtdhidcoglioalaaGreat.Plain
namespace Go.Proofs.YtdhidcoglioalaaGreat.Bits
open Math

theorem wrapU (r : W) : IntKind.u64.wrap (r.toNat : Int) = (r.toNat : Int) := by
  have := r.isLt
  rw [IntKind.wrap_u64]; omega

theorem ofIntU (x : W) : BitVec.ofInt 64 (x.toNat : Int) = x := by
  rw [BitVec.ofInt_natCast]; simp

theorem xorU (x y : W) : bits .xor .u64 (x.toNat : Int) (y.toNat : Int) = ((x ^^^ y).toNat : Int) := by
  show IntKind.u64.wrap ((BitVec.ofInt 64 (x.toNat : Int) ^^^ BitVec.ofInt 64 (y.toNat : Int)).toNat : Int) = _
  rw [ofIntU, ofIntU, wrapU]
theorem andU (x y : W) : bits .and .u64 (x.toNat : Int) (y.toNat : Int) = ((x &&& y).toNat : Int) := by
  show IntKind.u64.wrap ((BitVec.ofInt 64 (x.toNat : Int) &&& BitVec.ofInt 64 (y.toNat : Int)).toNat : Int) = _
  rw [ofIntU, ofIntU, wrapU]
theorem and1U (x : W) : bits .and .u64 (x.toNat : Int) 1 = ((x &&& 1#64).toNat : Int) := andU x 1#64
theorem negU (x : W) : IntKind.u64.wrap (-(x.toNat : Int)) = ((-x).toNat : Int) := by
  have := x.isLt
  rw [IntKind.wrap_u64, BitVec.toNat_neg]; omega
theorem shr1U (x : W) : (x.toNat : Int) / (2 : Int) = ((x >>> 1).toNat : Int) := by
  rw [BitVec.toNat_ushiftRight, Nat.shiftRight_eq_div_pow]; simp

theorem sh1_int (x : W) : bits .xor .u64 ((x.toNat : Int) / 2) (bits .and .u64 14514072000185962306 (IntKind.u64.wrap (-bits .and .u64 (x.toNat : Int) 1))) = ((sh1 x).toNat : Int) := by
  rw [show (x.toNat : Int) / (2 : Int) = ((x >>> 1).toNat : Int) from shr1U x, and1U, negU]
  have h := andU poly (-(x &&& 1#64))
  have e : (poly.toNat : Int) = 14514072000185962306 := by rfl
  rw [e] at h
  rw [h, xorU]
  rfl

theorem setW (c : BitVec 8) : (c.toNat : Int) = ((c.setWidth 64 : W).toNat : Int) := by
  have := c.isLt
  rw [BitVec.toNat_setWidth]; omega
theorem xorByte (x : W) (c : BitVec 8) : bits .xor .u64 (x.toNat : Int) (c.toNat : Int) = ((x ^^^ c.setWidth 64).toNat : Int) := by
  rw [setW, xorU]

theorem odd_and (x : W) (h : x.toNat % 2 = 1) : x &&& 1#64 = 1#64 := by
  apply BitVec.eq_of_toNat_eq
  rw [BitVec.toNat_and]
  show x.toNat &&& 1 = 1
  rw [Nat.and_one_is_mod]; exact h
theorem even_and (x : W) (h : x.toNat % 2 = 0) : x &&& 1#64 = 0#64 := by
  apply BitVec.eq_of_toNat_eq
  rw [BitVec.toNat_and]
  show x.toNat &&& 1 = 0
  rw [Nat.and_one_is_mod]; exact h

theorem ref_odd (x : W) (h : ((x.toNat : Int) % 2 == 1) = true) : bits .xor .u64 ((x.toNat : Int) / 2) 14514072000185962306 = ((sh1 x).toNat : Int) := by
  rw [show (x.toNat : Int) / (2 : Int) = ((x >>> 1).toNat : Int) from shr1U x]
  have e := xorU (x >>> 1) poly
  rw [show (poly.toNat : Int) = 14514072000185962306 from rfl] at e
  rw [e]
  have h1 : x.toNat % 2 = 1 := by simp at h; omega
  have h2 : poly &&& -(1#64) = poly := by decide
  unfold sh1
  rw [odd_and x h1, h2]
theorem ref_even (x : W) (h : ((x.toNat : Int) % 2 == 1) = false) : (x.toNat : Int) / 2 = ((sh1 x).toNat : Int) := by
  rw [show (x.toNat : Int) / (2 : Int) = ((x >>> 1).toNat : Int) from shr1U x]
  have h1 : x.toNat % 2 = 0 := by simp at h; omega
  have h2 : poly &&& -(0#64) = 0#64 := by decide
  unfold sh1
  rw [even_and x h1, h2, BitVec.xor_zero]

theorem wrapB (r : BitVec 8) : IntKind.u8.wrap (r.toNat : Int) = (r.toNat : Int) := by
  have := r.isLt
  rw [IntKind.wrap_u8']; omega
theorem ofIntB (x : BitVec 8) : BitVec.ofInt 8 (x.toNat : Int) = x := by
  rw [BitVec.ofInt_natCast]; simp
theorem lowByte (x : W) : IntKind.u8.wrap (x.toNat : Int) = ((x.setWidth 8).toNat : Int) := by
  rw [IntKind.wrap_u8', BitVec.toNat_setWidth]; omega
theorem xorB (x y : BitVec 8) : bits .xor .u8 (x.toNat : Int) (y.toNat : Int) = ((x ^^^ y).toNat : Int) := by
  show IntKind.u8.wrap ((BitVec.ofInt 8 (x.toNat : Int) ^^^ BitVec.ofInt 8 (y.toNat : Int)).toNat : Int) = _
  rw [ofIntB, ofIntB, wrapB]
theorem shr8U (x : W) : (x.toNat : Int) / (256 : Int) = ((x >>> 8).toNat : Int) := by
  rw [BitVec.toNat_ushiftRight, Nat.shiftRight_eq_div_pow]; simp
theorem byteXor (x : W) (c : BitVec 8) : bits .xor .u8 ((x.toNat : Int) % (256 : Int)) (c.toNat : Int) = ((x.setWidth 8 ^^^ c).toNat : Int) := by
  have := lowByte x
  rw [IntKind.wrap_u8'] at this
  rw [show (x.toNat : Int) % (256 : Int) = ((x.setWidth 8).toNat : Int) from this, xorB]
theorem add_step_int (S : W) (c y : BitVec 8) (hy : y = S.setWidth 8 ^^^ c) : bits .xor .u64 (bits .xor .u64 ((S.toNat : Int) / (256 : Int)) ((lo (y.toNat % 16)).toNat : Int)) ((hi (y.toNat / 16)).toNat : Int) = ((stp S c).toNat : Int) := by
  subst hy
  rw [show (S.toNat : Int) / (256 : Int) = ((S >>> 8).toNat : Int) from shr8U S, xorU, xorU, ← stp_halves]
theorem addL_take_succ (s : W) (l : List (BitVec 8)) (k : Nat) (h : k < l.length) : addL s (l.take (k + 1)) = stp (addL s (l.take k)) l[k] := by
  rw [List.take_succ_eq_append_getElem h, addL_append]; rfl
theorem notU (x : W) : bits .xor .u64 IntKind.u64.max (x.toNat : Int) = ((~~~x).toNat : Int) := by
  have h := xorU (BitVec.allOnes 64) x
  rw [show ((BitVec.allOnes 64 : W).toNat : Int) = IntKind.u64.max from by decide] at h
  rw [h, BitVec.allOnes_xor]

end Go.Proofs.YtdhidcoglioalaaGreat.Bits
