/-
  A journal is made; it is opened anew; heads and homes of which a bit is turned.
-/
import Derived.Test.YtdhidcoglioalaaJrnC
namespace Go.Proofs.Ytdhidcoglioalaa.Plain
open Jn
/-- A plate that is as it was made. -/
structure Fresh (P : Pl) (n : Nat) : Prop where
  n : P.n = n
  live : Live P (fun _ => zeroS) (fun _ => none)
  fails : P.fails = false
theorem fresh_made (n : Nat) : Fresh (Pl.made n) n := ⟨rfl, ⟨rfl, rfl, rfl⟩, rfl⟩
theorem can_any {P : Pl} (h : P.fails = false) (m : Nat) : Can P m := fun hf => by rw [h] at hf; cases hf
def zerosL (n : Nat) : List (Nat × Sec) := (List.range (n - 2)).map fun i => (2 + i, zeroS)
theorem zerosL_mem {n : Nat} {x : Nat × Sec} (h : x ∈ zerosL n) : 2 ≤ x.1 ∧ x.1 < n ∧ x.2 = zeroS := by
  obtain ⟨i, hi, rfl⟩ := List.mem_map.1 h
  rw [List.mem_range] at hi
  exact ⟨by show 2 ≤ 2 + i; omega, by show 2 + i < n; omega, rfl⟩
def headsL (log : Nat) : List (Nat × Sec) := [(0, packS (headSct 1 log 0 1)), (1, packS (headSct 2 log 0 1))]
theorem format_fresh {P : Pl} {n log : Nat} (h : Fresh P n) (hn : n ≤ 4096) (h2 : 2 ≤ log) (h3 : log + 3 ≤ n) : formatE P log = 0 ∧ ∃ S, Inv n S (formatJ log) (fun _ => zeroB) ∧ Live (formatP P log) S (fun _ => none) ∧ (formatP P log).n = n ∧ (formatP P log).fails = false := by
  obtain ⟨hPn, hL, hf⟩ := h
  obtain ⟨r1, _⟩ := run_two (l := zerosL n) (k := headsL log) hL
    (fun x hx => by obtain ⟨_, h2, h3⟩ := zerosL_mem hx; exact ⟨by omega, by rw [h3]; exact neat_zero⟩)
    (fun x hx => by
      simp only [headsL, List.mem_cons, List.not_mem_nil, or_false] at hx
      rcases hx with rfl | rfl
      · exact ⟨by show 0 < P.n; omega, neat_pack _⟩
      · exact ⟨by show 1 < P.n; omega, neat_pack _⟩) (can_any hf 0) (ws := zerosW n ++ formatW n log) (by
        unfold zerosW formatW zerosL headsL wrs
        simp [List.map_map, Function.comp_def])
  obtain ⟨e1, e2, e3⟩ := r1 (can_any hf _)
  rw [runE_append] at e1
  rw [runP_append] at e2 e3
  have hz : runE (zerosW n) P = 0 := by
    by_cases h : runE (zerosW n) P = 0
    · exact h
    · rw [if_pos h] at e1; exact e1
  rw [hz] at e1 e2 e3
  simp only [ne_eq, not_true_eq_false, if_false] at e1 e2 e3
  have hno : ¬ ((log : Int) < 2 ∨ (P.n : Int) < (log : Int) + 3) := by omega
  have hE : formatE P log = 0 := by
    unfold formatE
    rw [hL.dead, if_neg (by simp), if_neg hno, hPn, hz, Int.toNat_natCast]
    simpa using e1
  have hP : formatP P log = runP (formatW n log) (runP (zerosW n) P) := by
    unfold formatP
    rw [hL.dead, if_neg (by simp), if_neg hno, hPn, hz, Int.toNat_natCast]
    simp
  rw [hE, hP]
  refine ⟨rfl, _, ?_, e2, e3.n.trans hPn, e3.fails.trans hf⟩
  have hlow : ∀ i, 2 ≤ i → setAll (setAll (fun _ => zeroS) (zerosL n)) (headsL log) i = zeroS := fun i hi => by
    rw [setAll_out (fun x hx => by simp only [headsL, List.mem_cons, List.not_mem_nil, or_false] at hx; rcases hx with rfl | rfl <;> simp only <;> omega)]
    rcases setAll_or (fun _ => zeroS) (zerosL n) i with e | e
    · exact e
    · exact (zerosL_mem e).2.2
  have hnd : ((headsL log).map (·.1)).Nodup := by simp [headsL]
  have g0 : setAll (setAll (fun _ => zeroS) (zerosL n)) (headsL log) 0 = packS (headSct 1 log 0 1) := setAll_in (x := (0, packS (headSct 1 log 0 1))) hnd (List.mem_cons_self ..)
  have g1 : setAll (setAll (fun _ => zeroS) (zerosL n)) (headsL log) 1 = packS (headSct 2 log 0 1) := setAll_in (x := (1, packS (headSct 2 log 0 1))) hnd (List.mem_cons_of_mem _ (List.mem_singleton.2 rfl))
  refine ⟨hn, h2, h3, rfl, ⟨0, 1, by show 0 < log; omega, by omega, (by have e : ((formatJ log).head + 1) % 2 = 1 := (by simp [formatJ]); rw [e]; exact g1), Led.base⟩, ⟨0, 1, by show 0 < log; omega, by omega, by omega, (by have e : (formatJ log).head % 2 = 0 := (by simp [formatJ]); rw [e]; exact g0)⟩, ⟨Nat.le_refl _, by show (2 : Nat) < 1099511627776; decide⟩, by show (1 : Nat) < 1099511627776; decide, fun k _ => .inl (hlow _ (by omega)), fun i _ => .inl ⟨hlow _ (by omega), rfl⟩, fun _ => flat_zero⟩
/-! ### It is opened -/
theorem open_inv {n : Nat} {S : Nat → Sec} {J : Jn} (h : Core n S J) {P : Pl} (hP : Live P S (fun _ => none)) (hn : P.n = n) (hf : P.fails = false) : P.flushE = 0 ∧ openJ P.flush = some J ∧ Live P.flush S (fun _ => none) ∧ P.flush.n = n ∧ P.flush.fails = false := by
  have hc := can_any hf 1
  obtain ⟨e1, e2⟩ := flush_can hP.dead hc
  have e2' : P.flush = (spent P 1).settled := e2
  have hsp : spent P 1 = P := by unfold spent; rw [hf]; simp
  rw [hsp] at e2'
  have hL : Live P.flush S (fun _ => none) := by rw [e2']; exact ⟨hP.dead, seen_live hP, rfl⟩
  have hn' : P.flush.n = n := by rw [e2']; exact hn
  exact ⟨e1, h.open_ hL hn', hL, hn', by rw [e2']; exact hf⟩
/-- The power is back. -/
theorem boot_down {P : Pl} {S : Nat → Sec} {n : Nat} (h : Down P S n) : Live P.boot S (fun _ => none) ∧ P.boot.n = n ∧ P.boot.fails = false := ⟨⟨rfl, h.stays, h.waits⟩, h.n, rfl⟩
/-! ### A bit is turned -/
open Math in
theorem flip_cut {b : Sec} {k : Nat} (hk : k < 448) : cutS (Pl.flip b k) 0 56 = (cutS b 0 56).set (k / 8) ((cutS b 0 56).getD (k / 8) 0 ^^^ (1#8 <<< (k % 8))) := by
  apply List.ext_getElem?
  intro j
  have hl : ∀ c : Sec, (cutS c 0 56).length = 56 := fun c => cutS_length _ _ _
  by_cases hj : j < 56
  · have hg : ∀ c : Sec, (cutS c 0 56)[j]? = some (c j) := fun c => by simp [cutS, hj]
    have hg2 : (cutS b 0 56).getD (k / 8) 0 = b (k / 8) := by simp [cutS, List.getD_eq_getElem?_getD, show k / 8 < 56 by omega]
    rw [hg, hg2]
    unfold Pl.flip
    by_cases e : j = k / 8
    · rw [e, upd_same, List.getElem?_set_self (by rw [hl]; omega)]
    · rw [upd_other _ _ e, List.getElem?_set_ne (fun h => e h.symm), hg]
  · rw [List.getElem?_eq_none (by rw [hl]; omega), List.getElem?_eq_none (by rw [List.length_set, hl]; omega)]
open Math in
/-- One bit that is turned makes another sum. -/
theorem sum_bit (l : List Byte) {k : Nat} (hk : k < 8 * l.length) : sumOf (l.set (k / 8) (l.getD (k / 8) 0 ^^^ (1#8 <<< (k % 8)))) ≠ sumOf l := by
  have h := sum_turned l k (by omega) 1#64
  have hf : ∀ m, 0 < m → flips l k 1#64 m = l.set (k / 8) (l.getD (k / 8) 0 ^^^ (1#8 <<< (k % 8))) ∧ turned l.length k 1#64 m = true := by
    intro m hm
    induction m with
    | zero => omega
    | succ m ih =>
      by_cases h0 : m = 0
      · subst h0
        simp [flips, turned, hk]
      · obtain ⟨i1, i2⟩ := ih (by omega)
        have hb : (1#64).getLsbD m = false := by
          rw [BitVec.getLsbD_one]; simp [h0]
        unfold flips turned
        rw [hb, i1, i2]
        simp
  obtain ⟨h1, h2⟩ := hf 64 (by omega)
  rw [h1, h2] at h
  exact (h.2 rfl).symm
theorem cut_getN_inj : ∀ {l k : List Byte}, l.length = k.length → getN l = getN k → l = k := by
  intro l
  induction l using snoc_ind with
  | nil => intro k h _; exact (List.eq_nil_of_length_eq_zero h.symm).symm
  | append_singleton l x ih =>
    intro k
    induction k using snoc_ind with
    | nil => intro h _; simp at h
    | append_singleton k y _ =>
      intro h e
      rw [getN_snoc, getN_snoc] at e
      have hx := x.isLt
      have hy := y.isLt
      have e1 : getN l = getN k := by omega
      have e2 : x = y := BitVec.eq_of_toNat_eq (by omega)
      rw [ih (by simpa using h) e1, e2]
theorem flip_bad {s : Sct} {k : Nat} (hk : k < 512) : parseOk (Pl.flip (packS s) k) = false := by
  obtain ⟨_, _, _, h4, h5⟩ := pack_cuts s
  have hok := pack_ok s
  unfold parseOk at hok ⊢
  rw [decide_eq_true_eq] at hok
  rw [decide_eq_false_iff_not]
  intro e
  by_cases hlt : k < 448
  · have e1 : cutS (Pl.flip (packS s) k) 56 8 = cutS (packS s) 56 8 := by
      apply List.map_congr_left
      intro j hj
      rw [List.mem_range] at hj
      exact upd_other _ _ (by omega)
    rw [e1, flip_cut hlt, hok] at e
    exact sum_bit (cutS (packS s) 0 56) (k := k) (by rw [cutS_length]; omega) e.symm
  · have e1 : cutS (Pl.flip (packS s) k) 0 56 = cutS (packS s) 0 56 := by
      apply List.map_congr_left
      intro j hj
      rw [List.mem_range] at hj
      exact upd_other _ _ (by omega)
    rw [e1, ← hok] at e
    have hlt8 : ∀ b : Sec, getN (cutS b 56 8) < 18446744073709551616 := fun b => by
      have := getN_lt (cutS b 56 8)
      rw [cutS_length] at this
      exact this
    have e2 : getN (cutS (Pl.flip (packS s) k) 56 8) = getN (cutS (packS s) 56 8) := by
      have := congrArg BitVec.toNat e
      rw [BitVec.toNat_ofNat, BitVec.toNat_ofNat, Nat.mod_eq_of_lt (hlt8 _), Nat.mod_eq_of_lt (hlt8 _)] at this
      exact this
    have e3 := cut_getN_inj (by rw [cutS_length, cutS_length]) e2
    have e4 := congrArg (fun l => l[k / 8 - 56]?) e3
    simp only [cutS, List.getElem?_map, List.getElem?_range (show k / 8 - 56 < 8 by omega), Option.map_some, Option.some.injEq] at e4
    rw [show 56 + (k / 8 - 56) = k / 8 by omega] at e4
    unfold Pl.flip at e4
    rw [upd_same] at e4
    have e5 : (1#8 <<< (k % 8)) = 0#8 := by
      have := congrArg (fun z => packS s (k / 8) ^^^ z) e4
      simp only [← BitVec.xor_assoc, BitVec.xor_self, BitVec.zero_xor] at this
      exact this
    have e6 := congrArg (fun z : Byte => z.getLsbD (k % 8)) e5
    have : k % 8 < 8 := by omega
    simp [this] at e6
theorem flip_not_blank {s : Sct} (h : s.Fits) (h0 : s.kind ≠ 0) (h1 : s.turn ≠ 0) {k : Nat} : isBlank (Pl.flip (packS s) k) = false := by
  cases hb : isBlank (Pl.flip (packS s) k)
  · rfl
  · exfalso
    have h2 := blank_eq.1 hb
    by_cases hk : k / 8 = 0
    · have hz : ∀ j, 1 ≤ j → j < 6 → packS s j = 0 := fun j hj hj2 => by
        have := h2 j (by omega)
        unfold Pl.flip at this
        rwa [upd_other _ _ (by omega)] at this
      have h3 := congrArg Sct.turn (pack_parse h)
      have h4 : cutS (packS s) 1 5 = [0, 0, 0, 0, 0] := by
        show (List.range 5).map _ = _
        simp only [List.range_succ, List.range_zero, List.nil_append, List.map_cons, List.map_nil, List.cons_append, Nat.reduceAdd]
        rw [hz 1 (by omega) (by omega), hz 2 (by omega) (by omega), hz 3 (by omega) (by omega), hz 4 (by omega) (by omega), hz 5 (by omega) (by omega)]
      simp only [parseS] at h3
      rw [h4] at h3
      exact h1 h3.symm
    · have h3 := h2 0 (by omega)
      unfold Pl.flip at h3
      rw [upd_other _ _ (by omega)] at h3
      have h4 := congrArg Sct.kind (pack_parse h)
      simp only [parseS] at h4
      rw [h3] at h4
      exact h0 h4.symm
end Go.Proofs.Ytdhidcoglioalaa.Plain
