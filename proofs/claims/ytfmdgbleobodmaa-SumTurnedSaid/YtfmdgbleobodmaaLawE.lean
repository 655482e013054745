/-
  The walk of the law SumTurned.
-/
import Derived.Test.YtfmdgbleobodmaaLawB
namespace Go.Proofs.Ytfmdgbleobodmaa.Walks
open Go.RowKit Math Bits
set_option linter.unusedVariables false

set_option maxHeartbeats 400000 in
theorem bring_any (i n : Int) (w : World) (h0 : 0 < n) (h1 : n ≤ 4611686018427387904) (hi0 : -9223372036854775808 ≤ i) (hi1 : i ≤ 9223372036854775807) :
    Calls Try.prog 23 #[.int .i64 i, .int .i64 n] w fun e w' => (∃ r : Int, e = .returned (.int .i64 r) ∧ 0 ≤ r ∧ r < n) ∧ w = w' := by
  have q1 : ¬ n ≤ 0 := by omega
  have q2 : i.tmod n < n := Int.tmod_lt_of_pos _ h0
  have q3 : -n < i.tmod n := by
    have := Int.tmod_lt_of_pos (-i) h0
    rw [Int.neg_tmod] at this
    omega
  go_enter Try.func23, Try.ntmps23
  go_wp2
  all_goals
    go_ret
    exact ⟨⟨_, rfl, by omega, by omega⟩, rfl⟩

theorem bit_test (x : W) (k : Nat) : (bits .and .u64 ((x.toNat : Int) / 2 ^ k) 1 == 1) = x.getLsbD k := by
  have e : (x.toNat : Int) / 2 ^ k = ((x >>> k).toNat : Int) := by
    rw [BitVec.toNat_ushiftRight, Nat.shiftRight_eq_div_pow]; simp
  rw [e, and1U]
  have h : ((x >>> k) &&& 1#64).toNat = if x.getLsbD k then 1 else 0 := by
    rw [BitVec.toNat_and, BitVec.toNat_ushiftRight]
    show x.toNat >>> k &&& 1 = _
    rw [Nat.and_one_is_mod]
    have : x.getLsbD k = (x.toNat >>> k % 2 == 1) := by
      simp [BitVec.getLsbD, Nat.testBit]
    rw [this]
    by_cases h1 : x.toNat >>> k % 2 = 1
    · simp [h1]
    · have : x.toNat >>> k % 2 = 0 := by omega
      simp [this]
  rw [h]
  cases x.getLsbD k <;> rfl

/-- Bytes that the call itself has made. -/
def BR (w : World) (g : Nat) (l : List (BitVec 8)) : Prop := ∃ cur, w.heap[g]? = some (.cells cur 5 (0, 0)) ∧ l.length ≤ cur.size ∧ ∀ i (h : i < l.length), cur[i]? = some (byteV l[i])
theorem BR.cell {w : World} {g : Nat} {l : List (BitVec 8)} (h : BR w g l) {i : Nat} (hi : i < l.length) : w.cell? ⟨g, i, none⟩ = some (byteV l[i]) := by
  obtain ⟨cur, h1, _, h2⟩ := h
  rw [cell_of_row _ _ _ _ _ _ h1]
  exact h2 i hi
theorem BR.free {w : World} {g : Nat} {l : List (BitVec 8)} (h : BR w g l) (i : Nat) : w.frozen? ⟨g, i, none⟩ = false := by
  obtain ⟨cur, h1, _, h2⟩ := h
  exact frozen_of_row _ _ _ _ _ h1
theorem BR.bts {w : World} {g : Nat} {l : List (BitVec 8)} (h : BR w g l) (hm : l.length ≤ 9223372036854775807) : Bts w (some ⟨g, 0, none⟩) l :=
  ⟨hm, .inr ⟨g, 0, rfl, fun i hi => by rw [Nat.zero_add]; exact h.cell hi⟩⟩
theorem BR.set {w : World} {g : Nat} {l : List (BitVec 8)} (h : BR w g l) (j : Nat) (x : BitVec 8) : BR (w.setCell ⟨g, j, none⟩ (byteV x)) g (l.set j x) := by
  obtain ⟨cur, h1, h2, h3⟩ := h
  refine ⟨cur.setIfInBounds j (byteV x), heap_setCell_same _ _ _ _ _ _ h1, by simpa using h2, fun i hi => ?_⟩
  simp only [List.length_set] at hi
  rw [Array.getElem?_setIfInBounds, List.getElem_set]
  by_cases e : j = i
  · subst e
    have : j < cur.size := by omega
    simp [this]
  · simp only [e, if_false]
    exact h3 i hi
theorem BR.drew {w : World} {g : Nat} {l : List (BitVec 8)} (h : BR w g l) : BR w.drew g l := h
theorem ownsRow_br {w : World} {base : Nat} {v : Value} {l : List (BitVec 8)} (h0 : l ≠ []) (h : w.ownsRow base 5 1 v l.length (l.map byteV)) :
    ∃ g cap, v = .slice (some ⟨g, 0, none⟩) l.length cap ∧ BR w g l ∧ base ≤ g ∧ l.length ≤ cap := by
  obtain ⟨_, ⟨rfl, h1⟩ | ⟨g, cap, cur, rfl, hb, hg, hcap, _, hs, ht⟩⟩ := h
  · exact absurd (List.eq_nil_of_length_eq_zero h1) h0
  · refine ⟨g, cap, rfl, ⟨cur, hg, by omega, fun i hi => ?_⟩, hb, hcap⟩
    have := congrArg (fun z => z[i]?) ht
    simp only [List.getElem?_take, Nat.mul_one, hi, if_true, List.getElem?_map, List.getElem?_eq_getElem hi, Option.map_some] at this
    rw [← Array.getElem?_toList]
    exact this

theorem BR.below {w w' : World} {g : Nat} {l : List (BitVec 8)} (h : BR w g l) (hb : Below w.heap.size w w') : BR w' g l := by
  obtain ⟨cur, h1, h2, h3⟩ := h
  exact ⟨cur, (hb.block g (Array.getElem?_eq_some_iff.1 h1).1).trans h1, h2, h3⟩
theorem flip_int (c : BitVec 8) (m : Nat) : bits .xor .u8 (c.toNat : Int) (2 ^ (m % 8) % 256) = ((c ^^^ (1#8 <<< (m % 8))).toNat : Int) := by
  have e : (2 ^ (m % 8) % 256 : Int) = ((1#8 <<< (m % 8)).toNat : Int) := by
    have : m % 8 < 8 := by omega
    generalize m % 8 = j at *
    rcases (by omega : j = 0 ∨ j = 1 ∨ j = 2 ∨ j = 3 ∨ j = 4 ∨ j = 5 ∨ j = 6 ∨ j = 7) with rfl | rfl | rfl | rfl | rfl | rfl | rfl | rfl <;> rfl
  rw [e, xorB]
theorem flips_stop (l : List (BitVec 8)) (p : Nat) (x : W) (k n : Nat) (h : 8 * l.length ≤ p + k) : flips l p x (k + n) = flips l p x k ∧ turned l.length p x (k + n) = turned l.length p x k := by
  induction n with
  | zero => exact ⟨rfl, rfl⟩
  | succ n ih =>
    rw [show k + (n + 1) = k + n + 1 from rfl]
    have hf : decide (p + (k + n) < 8 * l.length) = false := decide_eq_false (by omega)
    constructor
    · rw [← ih.1]
      show (if x.getLsbD (k + n) && decide (p + (k + n) < 8 * l.length) then _ else flips l p x (k + n)) = _
      rw [hf, Bool.and_false]
      rfl
    · rw [← ih.2]
      show (turned l.length p x (k + n) || (x.getLsbD (k + n) && decide (p + (k + n) < 8 * l.length))) = _
      rw [hf, Bool.and_false, Bool.or_false]
theorem turned_int (l : List (BitVec 8)) (p : Nat) (x : W) (k : Nat) (hp : p ≤ 8 * l.length) (hk : k = 64 ∨ (k ≤ 64 ∧ 8 * l.length ≤ p + k)) :
    ((((sumOf l).toNat : Int) != ((sumOf (flips l p x k)).toNat : Int)) == turned l.length p x k) = true := by
  have e : flips l p x k = flips l p x 64 ∧ turned l.length p x k = turned l.length p x 64 := by
    rcases hk with rfl | ⟨h1, h2⟩
    · exact ⟨rfl, rfl⟩
    · have := flips_stop l p x k (64 - k) h2
      rw [show k + (64 - k) = 64 by omega] at this
      exact ⟨this.1.symm, this.2.symm⟩
  rw [e.1, e.2, beq_iff_eq, Bool.eq_iff_iff, ← sum_turned l p hp x]
  rw [bne, beq_cast]
  simp

set_option maxHeartbeats 1000000 in
theorem sumTurned_core (a0 : Option Addr) (cap0 : Nat) (l : List (BitVec 8)) (at0 : Int) (x : W) (w : World) (hB : Bts w a0 l) (hn : a0 = none → cap0 = 0) (hl : l ≠ []) (hx : x ≠ 0#64) (hr : l.length ≤ 140737488351232)
    (ha0 : -9223372036854775808 ≤ at0) (ha1 : at0 ≤ 9223372036854775807) :
    Calls Try.prog 8 #[.slice a0 l.length cap0, .int .i64 at0, .int .u64 (x.toNat : Int)] w fun e w' => e = .returned (.bool true) ∧ Below w.heap.size w w' := by
  have HB := Lib.hid hB
  have HN := Lib.hid hn
  have hl0 : 0 < l.length := List.length_pos_iff.2 hl
  have t1 : ((l.length : Int) == 0) = false := by simp; omega
  have t2 : ((x.toNat : Int) == 0) = false := by
    have : x.toNat ≠ 0 := fun h => hx (BitVec.eq_of_toNat_eq h)
    simp; omega
  have HX := Lib.hid hx
  have HA0 := Lib.hid ha0
  have HA1 := Lib.hid ha1
  clear hB hn hx ha0 ha1
  go_enter Try.func8, Try.ntmps8
  go_wp2_with fail
  refine (works_any _).mono ?_
  rintro e w1 ⟨rfl, hb1⟩
  have s1 := hb1.size
  go_wp2_with fail
  refine Calls.mono (bring_any at0 (8 * (l.length : Int)) _ (by omega) (by omega) HA0.out HA1.out) ?_
  rintro e w2 ⟨⟨r, rfl, hr0, hr1⟩, rfl⟩
  obtain ⟨p, rfl⟩ := Int.eq_ofNat_of_zero_le hr0
  have hp : p < 8 * l.length := by omega
  clear hr0 hr1
  go_wp2_with fail
  refine Calls.mono (copy_any a0 cap0 l _ (HB.out.below_self hb1) HN.out (by omega)) ?_
  rintro e w2 ⟨v, rfl, hown, hb2⟩
  obtain ⟨g, cap, rfl, hbr, hg, hcap⟩ := ownsRow_br hl hown
  have hb12 := hb1.trans (hb2.mono hb1.size)
  have hgw : w.heap.size ≤ g := by omega
  have HBR := Lib.hid hbr
  have HL := Lib.hid hl
  clear hown hb1 hb2 hbr hl t1 t2
  go_wp2_with fail
  go_loopw [8, 9] (fun tv iv wr => ∃ k : Nat, k ≤ 64 ∧ iv = .int .i64 k ∧ tv = .bool (turned l.length p x k) ∧ BR wr g (flips l p x k) ∧ Below w.heap.size w wr) (fun _ i _ => 64 - (intOf i).toNat)
  case atStart => exact ⟨0, by omega, rfl, rfl, HBR.out, hb12⟩
  case round =>
    obtain ⟨k, hk, rfl, rfl, hbr, hb⟩ := hrel
    have HR := Lib.hid hbr
    clear hbr
    by_cases hlt : k < 64
    · by_cases hin : p + k < 8 * l.length
      · cases hbit : x.getLsbD k with
        | true =>
          have t1 : (bits .and .u64 ((x.toNat : Int) / 2 ^ k) 1 == 1) = true := by rw [bit_test, hbit]
          have hj : (p + k) / 8 < (flips l p x k).length := by rw [flips_length]; omega
          have HBIT := Lib.hid hbit
          clear hbit
          obtain ⟨c, hc⟩ : ∃ c, c = (flips l p x k).getD ((p + k) / 8) 0#8 := ⟨_, rfl⟩
          have hcell : wr.cell? ⟨g, (p + k) / 8, none⟩ = some (.int .u8 (c.toNat : Int)) := by
            rw [HR.out.cell hj, hc]; simp [byteV, hj]
          have hfree := HR.out.free ((p + k) / 8)
          have HC := Lib.hid hc
          clear hc
          go_wp2_with fail
          go_region
          go_wp2
          go_roundw
          case rel =>
            have hnew : BR (wr.setCell ⟨g, (p + k) / 8, none⟩ (.int .u8 (bits .xor .u8 (c.toNat : Int) (2 ^ ((p + k) % 8) % 256)))) g (flips l p x (k + 1)) := by
              have := HR.out.set ((p + k) / 8) (c ^^^ (1#8 <<< ((p + k) % 8)))
              rw [flip_int]
              unfold flips
              rw [HBIT.out, decide_eq_true hin, ← HC.out]
              exact this
            exact ⟨k + 1, by omega, by go_num, by simp [turned, HBIT.out, hin], hnew.drew, (hb.setCell (by exact hgw) _).drew⟩
          case measure => simp [intOf]; omega
        | false =>
          have t1 : (bits .and .u64 ((x.toNat : Int) / 2 ^ k) 1 == 1) = false := by rw [bit_test, hbit]
          have HBIT := Lib.hid hbit
          clear hbit
          go_wp2
          go_roundw
          case rel => exact ⟨k + 1, by omega, by go_num, by simp [turned, HBIT.out], by unfold flips; rw [HBIT.out]; exact HR.out, hb⟩
          case measure => simp [intOf]; omega
      · go_wp2_with fail
        refine Calls.mono (of_any a0 cap0 l _ (HB.out.below_self hb)) ?_
        rintro e w3 ⟨rfl, hb3⟩
        have HR3 : BR w3 g (flips l p x k) := HR.out.below hb3
        go_wp2_with fail
        refine Calls.mono (of_n (some ⟨g, 0, none⟩) cap (flips l p x k) _ _ (HR3.bts (by rw [flips_length]; omega)) (flips_length _ _ _ _)) ?_
        rintro e w4 ⟨rfl, hb4⟩
        have hb34 := hb.trans (hb3.mono hb.size)
        go_wp2
        go_ret
        exact ⟨ret_true (turned_int l p x k (by omega) (by omega)), hb34.trans (hb4.mono hb34.size)⟩
    · go_wp2_with fail
      refine Calls.mono (of_any a0 cap0 l _ (HB.out.below_self hb)) ?_
      rintro e w3 ⟨rfl, hb3⟩
      have HR3 : BR w3 g (flips l p x k) := HR.out.below hb3
      go_wp2_with fail
      refine Calls.mono (of_n (some ⟨g, 0, none⟩) cap (flips l p x k) _ _ (HR3.bts (by rw [flips_length]; omega)) (flips_length _ _ _ _)) ?_
      rintro e w4 ⟨rfl, hb4⟩
      have hb34 := hb.trans (hb3.mono hb.size)
      go_wp2
      go_ret
      exact ⟨ret_true (turned_int l p x k (by omega) (by omega)), hb34.trans (hb4.mono hb34.size)⟩

theorem sumTurned_walk (a0 : Option Addr) (len0 cap0 : Nat) (z0 : List Int) (a1 a2 : Int) (w : World) (w0 : IsRow .u8 w a0 len0 cap0 z0) (r0 : cap0 * 1 ≤ 140737488351232) (w1 : (Lit.int .i64 a1).wf = true) (w2 : (Lit.int .u64 a2).wf = true) :
    Calls Try.prog 8 #[.slice a0 len0 cap0, .int .i64 a1, .int .u64 a2] w fun e w' => e = .returned (.bool true) ∧ Below w.heap.size w w' := by
  obtain ⟨l, rfl, hB, hn, hlc⟩ := bytes_of w0 r0
  obtain ⟨x, rfl⟩ := u64_of w2
  obtain ⟨h1, h2⟩ := bounds_i64 w1
  by_cases hl : l = []
  · subst hl
    clear hB hn w0 w1 w2
    go_enter Try.func8, Try.ntmps8
    go_wp2_with fail
    refine (works_any _).mono ?_
    rintro e w1 ⟨rfl, hb1⟩
    go_wp2
    go_ret
    exact ⟨rfl, hb1⟩
  · by_cases hx : x = 0#64
    · subst hx
      have t1 : ((l.length : Int) == 0) = false := by
        have := List.length_pos_iff.2 hl
        simp; omega
      clear hB hn w0 w1 w2 hl
      go_enter Try.func8, Try.ntmps8
      go_wp2_with fail
      refine (works_any _).mono ?_
      rintro e w1 ⟨rfl, hb1⟩
      go_wp2
      go_ret
      exact ⟨rfl, hb1⟩
    · exact sumTurned_core a0 cap0 l a1 x w hB hn hl hx (by omega) (by omega) (by omega)
end Go.Proofs.Ytfmdgbleobodmaa.Walks
