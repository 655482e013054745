/-
  Numbers as bytes; blank sectors.
-/
import Derived.Test.YtdhidcoglioalaaRowN
import Derived.Test.YtdhidcoglioalaaPlateD
import Derived.Test.YtdhidcoglioalaaJrnQ
import Derived.Laws.Shifts
namespace Go.Proofs.Ytdhidcoglioalaa.Walks
open Go.RowKit Plain
set_option linter.unusedVariables false

theorem setCell_swap (w : World) (g : Nat) {i j : Nat} (x y : Value) (h : i ≠ j) : (w.setCell ⟨g, i, none⟩ x).setCell ⟨g, j, none⟩ y = (w.setCell ⟨g, j, none⟩ y).setCell ⟨g, i, none⟩ x := by
  unfold World.setCell
  congr 1
  apply Array.ext_getElem?
  intro k
  simp only [Array.getElem?_modify]
  by_cases e : g = k
  · subst e
    simp only [if_true]
    cases w.heap[g]? with
    | none => rfl
    | some ob =>
      cases ob <;> simp [Array.setIfInBounds_comm _ _ h]
  · simp [e]
theorem setCells_swap (g : Nat) {i : Nat} (x : Value) : ∀ (vs : List Value) (j : Nat) (w : World), i < j → (w.setCells g j vs).setCell ⟨g, i, none⟩ x = (w.setCell ⟨g, i, none⟩ x).setCells g j vs
  | [], _, _, _ => rfl
  | v :: vs, j, w, h => by
    rw [World.setCells, World.setCells, setCells_swap g x vs (j + 1) _ (by omega), setCell_swap w g _ _ (by omega)]
theorem numB_get : ∀ (n : Nat) (v : Int) (k : Nat), k < n → (numB n v)[k]? = some (BitVec.ofInt 8 (v / 256 ^ (n - 1 - k)))
  | 0, _, _, h => by omega
  | n + 1, v, k, h => by
    show (numB n (v / 256) ++ [BitVec.ofInt 8 v])[k]? = _
    have hl := numB_length n (v / 256)
    by_cases e : k < n
    · rw [List.getElem?_append_left (by omega), numB_get n _ k e, Int.ediv_ediv_of_nonneg (by omega), show n + 1 - 1 - k = (n - 1 - k) + 1 by omega, Int.pow_succ, Int.mul_comm]
    · obtain rfl : k = n := by omega
      rw [List.getElem?_append_right (by omega), hl]
      simp
theorem numB_drop {n k : Nat} (v : Int) (h : k < n) : (numB n v).drop k = BitVec.ofInt 8 (v / 256 ^ (n - 1 - k)) :: (numB n v).drop (k + 1) := by
  have hl := numB_length n v
  rw [List.drop_eq_getElem_cons (by omega)]
  have := numB_get n v k h
  rw [List.getElem?_eq_getElem (by omega)] at this
  rw [Option.some.inj this]
theorem byte_of (v : Int) : Value.int .u8 (IntKind.u8.wrap v) = byteV (BitVec.ofInt 8 v) := by
  unfold byteV
  rw [ofInt_byte, IntKind.wrap_u8']
theorem there_out {w : World} {g o n : Nat} (h : w.there g o n) {j : Nat} (hj : j < n) (k : Nat) (vs : List Value) : ((w.setCells g k vs).cell? ⟨g, o + j, none⟩).isSome = true ∧ (w.setCells g k vs).frozen? ⟨g, o + j, none⟩ = false :=
  World.there_setCells h _ _ _ j hj
set_option maxRecDepth 10000 in
theorem put_any (w : World) (g o n cap : Nat) (v : Int) (hv : -9223372036854775808 ≤ v ∧ v ≤ 9223372036854775807) (hr : RoomN n w ⟨g, o, none⟩) (hn : n ≤ 64) :
    Calls Try.prog 94 #[.slice (some ⟨g, o, none⟩) n cap, .int .i64 v] w fun e w' => (∃ u, e = .returned u) ∧ w' = w.setCells g o ((numB n v).map byteV) := by
  have HV := Lib.hid hv
  have HR := Lib.hid hr
  clear hv hr
  go_enter Try.func94, Try.ntmps94
  go_wp2
  go_loopw [1, 4] (fun vv i wr => ∃ (z : Int) (k : Nat), k ≤ n ∧ z = (k : Int) - 1 ∧ i = .int .i64 z ∧ vv = .int .i64 (v / 256 ^ (n - k)) ∧ wr = w.setCells g (o + k) (((numB n v).drop k).map byteV)) (fun _ i _ => (RowKit.intOf i + 1).toNat)
  case atStart =>
    refine ⟨_, n, Nat.le_refl _, rfl, rfl, ?_, ?_⟩
    · rw [Nat.sub_self, Int.pow_zero, Int.ediv_one]
    · rw [List.drop_of_length_le (by rw [numB_length]; omega)]; rfl
  case round =>
    obtain ⟨z, k, hk, hz, rfl, rfl, rfl⟩ := hrel
    by_cases h0 : k = 0
    · subst h0
      obtain rfl : z = -1 := by omega
      clear hz
      obtain ⟨y, hy⟩ : ∃ y, y = v / 256 ^ (n - 0) := ⟨_, rfl⟩
      rw [← hy]
      clear hy
      go_wp2
      go_end0
      exact ⟨⟨_, rfl⟩, rfl⟩
    · obtain ⟨m, rfl⟩ : ∃ m, k = m + 1 := ⟨k - 1, by omega⟩
      obtain rfl : z = (m : Int) := by omega
      obtain ⟨y, hy⟩ : ∃ y, y = v / 256 ^ (n - (m + 1)) := ⟨_, rfl⟩
      rw [← hy]
      have HY := Lib.hid hy
      obtain ⟨hc, hf⟩ := there_out HR.out.2 (show m < n by omega) (o + (m + 1)) (((numB n v).drop (m + 1)).map byteV)
      obtain ⟨wr, hw⟩ : ∃ wr, wr = w.setCells g (o + (m + 1)) (((numB n v).drop (m + 1)).map byteV) := ⟨_, rfl⟩
      rw [← hw] at hc hf ⊢
      obtain ⟨u, hu⟩ := Option.isSome_iff_exists.1 hc
      have HW := Lib.hid hw
      have hlt : m < n := by omega
      clear hy hw hz hk h0 hc
      go_wp2
      go_roundw
      case rel =>
        refine ⟨_, m, by omega, rfl, rfl, ?_, ?_⟩
        · rw [HY.out, Int.ediv_ediv_of_nonneg (Int.pow_nonneg (by omega)), show n - m = (n - (m + 1)) + 1 by omega, Int.pow_succ]
        · rw [HW.out, setCells_swap g _ _ _ _ (by omega), numB_drop v hlt, HY.out, show n - 1 - m = n - (m + 1) by omega, List.map_cons, World.setCells, ← byte_of, IntKind.wrap_u8', Nat.add_assoc]
      case measure => simp [RowKit.intOf]
/-- The number of bytes, as an int. -/
def getV (l : List Byte) : Int := (BitVec.ofNat 64 (getN l)).toInt
theorem getV_small {l : List Byte} (h : l.length ≤ 7) : getV l = getN l := by
  have h1 := getN_lt l
  have h2 : 256 ^ l.length ≤ 256 ^ 7 := Nat.pow_le_pow_right (by omega) h
  have h3 : (256 : Nat) ^ 7 = 72057594037927936 := by decide
  unfold getV
  rw [BitVec.toInt_eq_toNat_cond, BitVec.toNat_ofNat]
  omega
theorem getN_take_succ (l : List Byte) {k : Nat} (h : k < l.length) : getN (l.take (k + 1)) = getN (l.take k) * 256 + l[k].toNat := by
  rw [List.take_succ_eq_append_getElem h, getN_snoc]
theorem or_step (N : Nat) (x : Byte) : bits .or .i64 (wrap64 ((BitVec.ofNat 64 N).toInt * 256)) (x.toNat : Int) = (BitVec.ofNat 64 (N * 256 + x.toNat)).toInt := by
  have hx := x.isLt
  have e1 : BitVec.ofInt 64 (wrap64 ((BitVec.ofNat 64 N).toInt * 256)) = BitVec.ofNat 64 (N * 256) := by
    apply BitVec.eq_of_toNat_eq
    have h := BitVec.toInt_eq_toNat_cond (BitVec.ofNat 64 N)
    rw [BitVec.toNat_ofNat] at h
    generalize (BitVec.ofNat 64 N).toInt = z at *
    rw [BitVec.toNat_ofInt, BitVec.toNat_ofNat]
    unfold wrap64
    have e : (((2 ^ 64 : Nat) : Int)) = 18446744073709551616 := by decide
    rw [e] at *
    have e' : (2 ^ 64 : Nat) = 18446744073709551616 := by decide
    rw [e'] at *
    split at h <;> omega
  have e2 : BitVec.ofInt 64 (x.toNat : Int) = BitVec.ofNat 64 x.toNat := BitVec.ofInt_natCast ..
  have e3 : BitVec.ofNat 64 (N * 256) ||| BitVec.ofNat 64 x.toNat = BitVec.ofNat 64 (N * 256 + x.toNat) := by
    apply BitVec.eq_of_toNat_eq
    rw [BitVec.toNat_or, BitVec.toNat_ofNat, BitVec.toNat_ofNat, BitVec.toNat_ofNat]
    have e' : (2 ^ 64 : Nat) = 18446744073709551616 := by decide
    rw [e', show N * 256 % 18446744073709551616 = (N % 72057594037927936) <<< 8 by rw [Nat.shiftLeft_eq]; omega, Nat.mod_eq_of_lt (show x.toNat < 18446744073709551616 by omega), ← Nat.shiftLeft_add_eq_or_of_lt (by omega), Nat.shiftLeft_eq]
    omega
  show IntKind.i64.wrap (((BitVec.ofInt 64 (wrap64 ((BitVec.ofNat 64 N).toInt * 256)) ||| BitVec.ofInt 64 (x.toNat : Int)).toNat : Nat) : Int) = _
  rw [e1, e2, e3]
  generalize BitVec.ofNat 64 (N * 256 + x.toNat) = b
  have h := BitVec.toInt_eq_toNat_cond b
  have hb := b.isLt
  rw [IntKind.wrap_i64]
  have e' : (2 ^ 64 : Nat) = 18446744073709551616 := by decide
  rw [e'] at *
  split at h <;> omega
set_option maxRecDepth 10000 in
theorem get_any (w : World) (a : Option Addr) (l : List Byte) (cap : Nat) (hB : Bys w a l) : Calls Try.prog 88 #[.slice a l.length cap] w fun e w' => e = .returned (.int .i64 (getV l)) ∧ w = w' := by
  have hm := hB.1
  have HB := Lib.hid hB
  clear hB
  go_enter Try.func88, Try.ntmps88
  go_wp2
  go_loop [2, 7] (fun v i => ∃ k : Nat, k ≤ l.length ∧ i = .int .i64 k ∧ v = .int .i64 (getV (l.take k))) (fun _ i => l.length - (RowKit.intOf i).toNat)
  case atStart => exact ⟨0, Nat.zero_le _, rfl, rfl⟩
  case round =>
    obtain ⟨k, hk, rfl, rfl⟩ := hrel
    by_cases hlt : k < l.length
    · obtain ⟨b, off, rfl, hb0, hc⟩ := HB.out.at_lt hlt
      have hcell := hc k hlt
      clear hc
      obtain ⟨y, hy⟩ : ∃ y, y = getV (l.take k) := ⟨_, rfl⟩
      obtain ⟨x, hx⟩ : ∃ x, x = l[k] := ⟨_, rfl⟩
      rw [← hx] at hcell
      rw [← hy]
      have HX := Lib.hid hx
      have HY := Lib.hid hy
      clear hy hx
      unfold byteV at hcell
      go_wp2
      go_round
      case rel => exact ⟨k + 1, by omega, by go_num, by rw [HY.out, getV, or_step, getV, getN_take_succ l hlt, HX.out]⟩
      case measure => simp [RowKit.intOf]; omega
    · obtain rfl : k = l.length := by omega
      go_wp2
      go_ret
      exact ⟨rfl, rfl⟩
theorem nz_any (w : World) (x : Byte) : Calls Try.prog 90 #[.int .u8 (x.toNat : Int)] w fun e w' => e = .returned (.bool (!(x == 0))) ∧ w = w' := by
  have hq : ((x.toNat : Int) != 0) = !(x == 0) := by
    have : (x.toNat = 0) ↔ x = 0#8 := ⟨fun h => BitVec.eq_of_toNat_eq h, fun h => by rw [h]; rfl⟩
    rw [Bool.eq_iff_iff]
    simp
    exact not_congr this
  go_enter Try.func90, Try.ntmps90
  go_wp2
  go_ret
  exact ⟨rfl, rfl⟩
def zeroL (l : List Byte) : Bool := l.all (· == 0)
theorem zeroL_take (l : List Byte) {k : Nat} (h : k < l.length) (h1 : zeroL (l.take k) = true) : zeroL (l.take (k + 1)) = (l[k] == 0) := by
  unfold zeroL at *
  rw [List.take_succ_eq_append_getElem h, List.all_append, h1]
  simp
theorem zeroL_not (l : List Byte) {k : Nat} (h : k < l.length) (h1 : (l[k] == 0) = false) : zeroL l = false := by
  unfold zeroL
  rw [List.all_eq_false]
  exact ⟨l[k], List.getElem_mem _, by rw [h1]; exact Bool.false_ne_true⟩
set_option maxRecDepth 10000 in
theorem indexNz_any (w : World) (a : Option Addr) (l : List Byte) (cap : Nat) (hB : Bys w a l) : Calls Try.prog 99 #[.slice a l.length cap, .func (.func 90) #[] #[]] w fun e w' => (∃ r : Int, e = .returned (.int .i64 r) ∧ decide (0 ≤ r) = !zeroL l) ∧ w = w' := by
  have hm := hB.1
  have HB := Lib.hid hB
  clear hB
  go_enter Try.func99, Try.ntmps99
  go_wp2
  go_loop [8] (fun i => ∃ k : Nat, k ≤ l.length ∧ i = .int .i64 k ∧ Hid (zeroL (l.take k) = true)) (fun i => l.length - (RowKit.intOf i).toNat)
  case atStart => exact ⟨0, Nat.zero_le _, rfl, Lib.hid rfl⟩
  case round =>
    obtain ⟨k, hk, rfl, HZ⟩ := hrel
    by_cases hlt : k < l.length
    · obtain ⟨b, off, rfl, hb0, hc⟩ := HB.out.at_lt hlt
      have hcell := hc k hlt
      clear hc
      obtain ⟨x, hx⟩ : ∃ x, x = l[k] := ⟨_, rfl⟩
      rw [← hx] at hcell
      have HX := Lib.hid hx
      clear hx
      unfold byteV at hcell
      have hnz := nz_any w x
      cases hq : x == 0
      · rw [hq] at hnz
        have HN := Lib.hid hnz
        have HQ := Lib.hid hq
        clear hnz hq
        go_wp2_with fail
        refine Calls.mono HN.out ?_
        rintro e w' ⟨rfl, rfl⟩
        go_wp2
        go_ret
        refine ⟨⟨_, rfl, ?_⟩, rfl⟩
        rw [zeroL_not l hlt (HX.out ▸ HQ.out)]
        simp
      · rw [hq] at hnz
        have HN := Lib.hid hnz
        have HQ := Lib.hid hq
        clear hnz hq
        go_wp2_with fail
        refine Calls.mono HN.out ?_
        rintro e w' ⟨rfl, rfl⟩
        go_wp2
        go_round
        case rel => exact ⟨k + 1, by omega, by go_num, Lib.hid (by rw [zeroL_take l hlt HZ.out, ← HX.out]; exact HQ.out)⟩
        case measure => simp [RowKit.intOf]; omega
    · obtain rfl : k = l.length := by omega
      go_wp2
      go_ret
      refine ⟨⟨_, rfl, ?_⟩, rfl⟩
      have := HZ.out
      rw [List.take_length] at this
      rw [this]
      rfl
theorem blank_any (w : World) (a : Option Addr) (l : List Byte) (cap : Nat) (hB : Bys w a l) : Calls Try.prog 69 #[.slice a l.length cap] w fun e w' => e = .returned (.bool (zeroL l)) ∧ w = w' := by
  have HI := Lib.hid (indexNz_any w a l cap hB)
  clear hB
  obtain ⟨n, hn⟩ : ∃ n, n = l.length := ⟨_, rfl⟩
  rw [← hn] at HI ⊢
  clear hn
  have HC : Hid (Calls Try.prog 89 #[.slice a n cap, .func (.func 90) #[] #[]] w fun e w' => e = .returned (.bool (!zeroL l)) ∧ w = w') := Lib.hid (by
    go_enter Try.func89, Try.ntmps89
    go_wp2_with fail
    refine Calls.mono HI.out ?_
    rintro e w' ⟨⟨r, rfl, hr⟩, rfl⟩
    go_wp2
    go_ret
    exact ⟨rfl, rfl⟩)
  go_enter Try.func69, Try.ntmps69
  go_wp2_with fail
  refine Calls.mono HC.out ?_
  rintro e w' ⟨rfl, rfl⟩
  go_wp2
  go_ret
  exact ⟨by simp, rfl⟩
end Go.Proofs.Ytdhidcoglioalaa.Walks
