/-
  The walks of the laws SumStep, SumOf, SumAdd, SumSteps, SumBack, SumBytes.
-/
import Derived.Test.YtfmdgbleobodmaaWalkD
import Derived.OpenShut
namespace Go.Proofs.Ytfmdgbleobodmaa.Walks
open Go.RowKit Math Bits

/-- What a slice of integers that came in is: nil, or a row of 'cap' cells of which the first 'len' are its elements. -/
def IsRow (k : IntKind) (w : World) (a : Option Addr) (len cap : Nat) (zs : List Int) : Prop :=
  (a = none ∧ len = 0 ∧ cap = 0 ∧ zs = []) ∨
  ∃ x, a = some x ∧ len ≤ cap ∧ cap ≤ maxLen ∧ zs.length = cap ∧ (∀ i, i < zs.length → w.cell? (x.add i) = some (.int k (zs.getD i 0))) ∧ ∀ n ∈ zs, (Lit.int k n).wf = true

theorem u64_of {a : Int} (h : (Lit.int .u64 a).wf = true) : ∃ x : W, a = (x.toNat : Int) := by
  obtain ⟨h0, h1⟩ := bounds_u64 h
  exact ⟨BitVec.ofInt 64 a, (ofInt_toNat a h0 (by omega)).symm⟩

theorem u8_of {a : Int} (h : (Lit.int .u8 a).wf = true) : ∃ x : BitVec 8, a = (x.toNat : Int) := by
  obtain ⟨h0, h1⟩ := bounds_u8 h
  refine ⟨BitVec.ofInt 8 a, ?_⟩
  obtain ⟨m, rfl⟩ := Int.eq_ofNat_of_zero_le h0
  rw [BitVec.ofInt_natCast, BitVec.toNat_ofNat]; omega

/-- Bytes that came in. -/
theorem bytes_of {w : World} {a : Option Addr} {len cap : Nat} {z : List Int} (h : IsRow .u8 w a len cap z) (hr : cap * 1 ≤ 140737488351232) :
    ∃ l : List (BitVec 8), l.length = len ∧ Bts w a l ∧ (a = none → cap = 0) ∧ len ≤ cap := by
  rcases h with ⟨rfl, rfl, rfl, rfl⟩ | ⟨x, rfl, hl, hm, hz, hc, hw⟩
  · exact ⟨[], rfl, ⟨by simp, .inl rfl⟩, fun _ => rfl, Nat.le_refl _⟩
  · refine ⟨(z.take len).map (BitVec.ofInt 8), by simp; omega, ⟨by simp; omega, ?_⟩, (by intro h; cases h), hl⟩
    by_cases h0 : len = 0
    · subst h0; left; simp
    right
    have hx := hc 0 (by omega)
    obtain ⟨b, off, s⟩ := x
    have hspot : s = none := by simpa [Addr.add] using World.cell?_spot hx
    subst hspot
    refine ⟨b, off, rfl, fun i hi => ?_⟩
    simp at hi
    have := hc i (by omega)
    rw [Addr.add_mid] at this
    have hzi : z.getD i 0 = z[i]'(by omega) := by simp [List.getD, List.getElem?_eq_getElem (show i < z.length by omega)]
    obtain ⟨y, hy⟩ := u8_of (hw (z[i]'(by omega)) (List.getElem_mem _))
    rw [this, List.getElem_map, List.getElem_take, hzi, hy, BitVec.ofInt_natCast]
    simp

theorem ret_true {b : Bool} (h : b = true) : Ending.returned (.bool b) = .returned (.bool true) := by rw [h]
theorem beq_cast {n : Nat} (x y : BitVec n) : ((x.toNat : Int) == (y.toNat : Int)) = decide (x = y) := by
  rw [Bool.eq_iff_iff]
  simp only [beq_iff_eq, decide_eq_true_eq]
  exact ⟨fun h => BitVec.eq_of_toNat_eq (by omega), fun h => by rw [h]⟩
theorem back_int (x y : W) (c : BitVec 8) : ((((stp x c).toNat : Int) == ((stp y c).toNat : Int)) == ((x.toNat : Int) == (y.toNat : Int))) = true := by
  rw [beq_cast, beq_cast, beq_iff_eq, decide_eq_decide, stp_back]
theorem bytes_int (x : W) (c d : BitVec 8) : ((((stp x c).toNat : Int) == ((stp x d).toNat : Int)) == ((c.toNat : Int) == (d.toNat : Int))) = true := by
  rw [beq_cast, beq_cast, beq_iff_eq, decide_eq_decide, stp_bytes]

theorem sumStep_walk (a0 a1 : Int) (w : World) (w0 : (Lit.int .u64 a0).wf = true) (w1 : (Lit.int .u8 a1).wf = true) :
    Calls Try.prog 3 #[.int .u64 a0, .int .u8 a1] w fun e w' => e = .returned (.bool true) ∧ Below w.heap.size w w' := by
  obtain ⟨x, rfl⟩ := u64_of w0
  obtain ⟨c, rfl⟩ := u8_of w1
  clear w0 w1
  go_enter Try.func3, Try.ntmps3
  go_wp2_with fail
  refine (step_any x c _).mono ?_
  rintro e w' ⟨rfl, rfl⟩
  go_wp2_with fail
  refine (refStep_any x c _).mono ?_
  rintro e w' ⟨rfl, rfl⟩
  go_wp2_with fail
  refine (works_any _).mono ?_
  rintro e w' ⟨rfl, hb⟩
  go_wp2
  go_ret
  exact ⟨rfl, hb⟩

theorem sumOf_walk (a0 : Option Addr) (len0 cap0 : Nat) (z0 : List Int) (w : World) (w0 : IsRow .u8 w a0 len0 cap0 z0) (r0 : cap0 * 1 ≤ 140737488351232) :
    Calls Try.prog 4 #[.slice a0 len0 cap0] w fun e w' => e = .returned (.bool true) ∧ Below w.heap.size w w' := by
  obtain ⟨l, rfl, hB, hn, hlc⟩ := bytes_of w0 r0
  have HB := Lib.hid hB
  have HN := Lib.hid hn
  clear w0 hB hn
  go_enter Try.func4, Try.ntmps4
  go_wp2_with fail
  refine (copy_any a0 cap0 l _ HB.out HN.out (by omega)).mono ?_
  rintro e w1 ⟨v, rfl, hown, hb1⟩
  obtain ⟨a1, cap1, rfl, hB1⟩ := ownsRow_bts HB.out.1 hown
  have H1 := Lib.hid hB1
  clear hown hB1
  go_wp2_with fail
  refine (of_any a1 cap1 l _ H1.out).mono ?_
  rintro e w2 ⟨rfl, hb2⟩
  go_wp2_with fail
  refine (refOf_any a0 cap0 l _ ((HB.out.below_self hb1).below_self hb2)).mono ?_
  rintro e w' ⟨rfl, rfl⟩
  go_wp2_with fail
  refine (eq_same a1 a0 cap1 cap0 l _ (H1.out.below_self hb2) ((HB.out.below_self hb1).below_self hb2)).mono ?_
  rintro e w3 ⟨rfl, hb3⟩
  go_wp2_with fail
  refine (works_any _).mono ?_
  rintro e w4 ⟨rfl, hb4⟩
  go_wp2
  go_ret
  have hb12 := hb1.trans (hb2.mono hb1.size)
  have hb13 := hb12.trans (hb3.mono hb12.size)
  exact ⟨rfl, hb13.trans (hb4.mono hb13.size)⟩

theorem sumAdd_walk (s0 : Int) (a0 : Option Addr) (len0 cap0 : Nat) (z0 : List Int) (w : World) (ws : (Lit.int .u64 s0).wf = true) (w0 : IsRow .u8 w a0 len0 cap0 z0) (r0 : cap0 * 1 ≤ 140737488351232) :
    Calls Try.prog 5 #[.int .u64 s0, .slice a0 len0 cap0] w fun e w' => e = .returned (.bool true) ∧ Below w.heap.size w w' := by
  obtain ⟨s, rfl⟩ := u64_of ws
  obtain ⟨l, rfl, hB, hn, hlc⟩ := bytes_of w0 r0
  have HB := Lib.hid hB
  have HN := Lib.hid hn
  clear w0 hB hn ws
  go_enter Try.func5, Try.ntmps5
  go_wp2_with fail
  refine (copy_any a0 cap0 l _ HB.out HN.out (by omega)).mono ?_
  rintro e w1 ⟨v, rfl, hown, hb1⟩
  obtain ⟨a1, cap1, rfl, hB1⟩ := ownsRow_bts HB.out.1 hown
  have H1 := Lib.hid hB1
  clear hown hB1
  go_wp2_with fail
  refine (add_any s a1 cap1 l _ H1.out).mono ?_
  rintro e w2 ⟨rfl, hb2⟩
  go_wp2_with fail
  refine (refAdd_any s a0 cap0 l _ ((HB.out.below_self hb1).below_self hb2)).mono ?_
  rintro e w' ⟨rfl, rfl⟩
  go_wp2_with fail
  refine (eq_same a1 a0 cap1 cap0 l _ (H1.out.below_self hb2) ((HB.out.below_self hb1).below_self hb2)).mono ?_
  rintro e w3 ⟨rfl, hb3⟩
  go_wp2_with fail
  refine (works_any _).mono ?_
  rintro e w4 ⟨rfl, hb4⟩
  go_wp2
  go_ret
  have hb12 := hb1.trans (hb2.mono hb1.size)
  have hb13 := hb12.trans (hb3.mono hb12.size)
  exact ⟨rfl, hb13.trans (hb4.mono hb13.size)⟩

theorem sumSteps_walk (a0 : Option Addr) (len0 cap0 : Nat) (z0 : List Int) (w : World) (w0 : IsRow .u8 w a0 len0 cap0 z0) (r0 : cap0 * 1 ≤ 140737488351232) :
    Calls Try.prog 7 #[.slice a0 len0 cap0] w fun e w' => e = .returned (.bool true) ∧ Below w.heap.size w w' := by
  obtain ⟨l, rfl, hB, hn, hlc⟩ := bytes_of w0 r0
  have hm := hB.1
  have HB := Lib.hid hB
  clear w0 hB hn
  go_enter Try.func7, Try.ntmps7
  go_wp2_with fail
  refine (works_any _).mono ?_
  rintro e w1 ⟨rfl, hb1⟩
  have H1 := Lib.hid (HB.out.below_self hb1)
  go_wp2_with fail
  obtain ⟨t, ht⟩ : ∃ t : W, t = ~~~(0#64) := ⟨_, rfl⟩
  have et : (18446744073709551615 : Int) = (t.toNat : Int) := by rw [ht]; rfl
  rw [et]
  have HT := Lib.hid ht
  clear ht et
  go_loop [3, 4] (fun st i => ∃ k : Nat, k ≤ l.length ∧ i = .int .i64 k ∧ st = .int .u64 ((addL t (l.take k)).toNat : Int))
    (fun _ i => l.length - (intOf i).toNat)
  case atStart => exact ⟨0, by omega, rfl, rfl⟩
  case round =>
    obtain ⟨k, hk, rfl, rfl⟩ := hrel
    by_cases hlt : k < l.length
    · obtain ⟨b, off, rfl, hb0, hc⟩ := H1.out.at_lt hlt
      have hcell := hc k hlt
      clear hc
      generalize hS : addL t (l.take k) = S
      have HS := Lib.hid hS
      clear hS
      go_wp2_with fail
      refine (step_any S l[k] _).mono ?_
      rintro e w' ⟨rfl, rfl⟩
      go_wp2
      go_round
      case rel => exact ⟨k + 1, by omega, by go_num, val_int (by rw [addL_take_succ _ _ _ hlt, HS.out])⟩
      case measure => simp [intOf]; omega
    · obtain ⟨S, hS⟩ : ∃ S, S = addL t (l.take k) := ⟨_, rfl⟩
      rw [← hS]
      have HS : Hid (sumOf l = ~~~S) := Lib.hid (by rw [hS, List.take_of_length_le (by omega), HT.out]; rfl)
      clear hS
      go_wp2_with fail
      refine (of_any _ cap0 l _ H1.out).mono ?_
      rintro e w2 ⟨rfl, hb2⟩
      go_wp2_with fail
      rw [notU, HS.out]
      go_ret
      exact ⟨by simp, hb1.trans (hb2.mono hb1.size)⟩

theorem sumBack_walk (a0 a1 a2 : Int) (w : World) (w0 : (Lit.int .u64 a0).wf = true) (w1 : (Lit.int .u64 a1).wf = true) (w2 : (Lit.int .u8 a2).wf = true) :
    Calls Try.prog 10 #[.int .u64 a0, .int .u64 a1, .int .u8 a2] w fun e w' => e = .returned (.bool true) ∧ Below w.heap.size w w' := by
  obtain ⟨x, rfl⟩ := u64_of w0
  obtain ⟨y, rfl⟩ := u64_of w1
  obtain ⟨c, rfl⟩ := u8_of w2
  clear w0 w1 w2
  go_enter Try.func10, Try.ntmps10
  go_wp2_with fail
  refine (works_any _).mono ?_
  rintro e w1 ⟨rfl, hb1⟩
  go_wp2_with fail
  refine (step_any x c _).mono ?_
  rintro e w' ⟨rfl, rfl⟩
  go_wp2_with fail
  refine (step_any y c _).mono ?_
  rintro e w' ⟨rfl, rfl⟩
  go_wp2
  go_ret
  exact ⟨ret_true (back_int x y c), hb1⟩

theorem sumBytes_walk (a0 a1 a2 : Int) (w : World) (w0 : (Lit.int .u64 a0).wf = true) (w1 : (Lit.int .u8 a1).wf = true) (w2 : (Lit.int .u8 a2).wf = true) :
    Calls Try.prog 11 #[.int .u64 a0, .int .u8 a1, .int .u8 a2] w fun e w' => e = .returned (.bool true) ∧ Below w.heap.size w w' := by
  obtain ⟨x, rfl⟩ := u64_of w0
  obtain ⟨c, rfl⟩ := u8_of w1
  obtain ⟨d, rfl⟩ := u8_of w2
  clear w0 w1 w2
  go_enter Try.func11, Try.ntmps11
  go_wp2_with fail
  refine (works_any _).mono ?_
  rintro e w1 ⟨rfl, hb1⟩
  go_wp2_with fail
  refine (step_any x c _).mono ?_
  rintro e w' ⟨rfl, rfl⟩
  go_wp2_with fail
  refine (step_any x d _).mono ?_
  rintro e w' ⟨rfl, rfl⟩
  go_wp2
  go_ret
  exact ⟨ret_true (bytes_int x c d), hb1⟩
end Go.Proofs.Ytfmdgbleobodmaa.Walks
