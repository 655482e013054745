/-
  Small helpers of the laws: Bring, the comparisons, a sector full of a byte.
-/
import Derived.Test.YtdhidcoglioalaaPlateG
import Derived.Laws.OwnMore
namespace Go.Proofs.Ytdhidcoglioalaa.Walks
open Go.RowKit Plain
set_option linter.unusedVariables false
attribute [local go_sem ↓] exec_load88 exec_store88 exec_alloc88
attribute [local go_sem] isPt_mk adOf_mk isSec_mk sOf_mk alloc_setCells is_new at_new room_new is_past at_past room_past is_drew at_drew room_drew setCells_past setCells_size setCells_drew

theorem bring_eq (i : Int) {n : Int} (h : 0 < n) : (if i.tmod n < 0 then i.tmod n + n else i.tmod n) = i % n := by
  have h1 : i % n = (i.tmod n) % n := by
    conv => lhs; rw [← Int.tmod_add_mul_tdiv i n]
    rw [Int.add_mul_emod_self_left]
  have h2 : i.tmod n < n := Int.tmod_lt_of_pos _ h
  have h3 : -n < i.tmod n := by
    have := Int.tmod_lt_of_pos (-i) h
    rw [Int.neg_tmod] at this
    omega
  rw [h1]
  split
  · have : (i.tmod n + n) % n = i.tmod n % n := Int.add_emod_right _ _
    rw [← this, Int.emod_eq_of_lt (by omega) (by omega)]
  · rw [Int.emod_eq_of_lt (by omega) (by omega)]
set_option maxHeartbeats 400000 in
theorem bring_any (i n : Int) (w : World) (h0 : 0 < n) (h1 : n ≤ 4611686018427387904) :
    Calls Try.prog 20 #[.int .i64 i, .int .i64 n] w fun e w' => e = .returned (.int .i64 (i % n)) ∧ w = w' := by
  have q1 : ¬ n ≤ 0 := by omega
  have q2 : i.tmod n < n := Int.tmod_lt_of_pos _ h0
  have q3 : -n < i.tmod n := by
    have := Int.tmod_lt_of_pos (-i) h0
    rw [Int.neg_tmod] at this
    omega
  have HE := Lib.hid (bring_eq i h0)
  by_cases hs : i.tmod n < 0
  · go_enter Try.func20, Try.ntmps20
    go_wp2
    all_goals
      go_ret
      exact ⟨ret_int (by rw [← HE.out]; omega), rfl⟩
  · go_enter Try.func20, Try.ntmps20
    go_wp2
    all_goals
      go_ret
      exact ⟨ret_int (by rw [← HE.out]; omega), rfl⟩
set_option maxHeartbeats 1000000 in
theorem eqInts_any (a a' : Option Addr) (cap cap' : Nat) (l l' : List Int) (w : World) (hB : Ints w a l) (hB' : Ints w a' l') :
    Calls Try.prog 47 #[.slice a l.length cap, .slice a' l'.length cap'] w fun e w' => e = .returned (.bool (decide (l = l'))) ∧ Below w.heap.size w w' := by
  by_cases hlen : l.length = l'.length
  · have hm := hB.1
    have H := Lib.hid hB
    have H' := Lib.hid hB'
    obtain ⟨n, hn⟩ : ∃ n, n = l.length := ⟨_, rfl⟩
    have hn' : n = l'.length := by omega
    rw [← hn, ← hn']
    have e1 : l.length = n := by omega
    have e2 : l'.length = n := by omega
    have E1 := Lib.hid e1
    have E2 := Lib.hid e2
    have hm' : n ≤ 9223372036854775807 := by omega
    clear hB hB' hlen hn hn' e1 e2 hm
    go_enter Try.func47, Try.ntmps47
    go_wp2_with fail
    go_loopw [5] (fun i wr => ∃ k : Nat, k ≤ n ∧ i = .int .i64 k ∧ Hid (l.take k = l'.take k) ∧ Below w.heap.size w wr) (fun i _ => n - (RowKit.intOf i).toNat)
    case atStart => exact ⟨0, by omega, rfl, Lib.hid (by simp), Below.refl _ _⟩
    case round =>
      obtain ⟨k, hk, rfl, HK, hb⟩ := hrel
      by_cases hlt : k < n
      · have hk1 : k < l.length := by rw [E1.out]; exact hlt
        have hk2 : k < l'.length := by rw [E2.out]; exact hlt
        obtain ⟨b, off, rfl, hb0, hc⟩ := H.out.at_lt hk1
        obtain ⟨b', off', rfl, hb0', hc'⟩ := H'.out.at_lt hk2
        obtain ⟨x, hx⟩ : ∃ x, x = l[k] := ⟨_, rfl⟩
        obtain ⟨y, hy⟩ : ∃ y, y = l'[k] := ⟨_, rfl⟩
        have hcell : wr.cell? ⟨b, off + k, none⟩ = some (.int .i64 x) := by rw [hx]; exact (hb.cell (by exact hb0)).trans (hc k hk1)
        have hcell' : wr.cell? ⟨b', off' + k, none⟩ = some (.int .i64 y) := by rw [hy]; exact (hb.cell (by exact hb0')).trans (hc' k hk2)
        have HX := Lib.hid hx
        have HY := Lib.hid hy
        have HK1 := Lib.hid hk1
        have HK2 := Lib.hid hk2
        clear hc hc' hx hy
        by_cases hxy : x = y
        · have hq : (x != y) = false := by simp [hxy]
          have HXY := Lib.hid hxy
          clear hxy
          go_wp2_with fail
          go_quiet (fail)
          go_wp2
          go_roundw
          case rel => exact ⟨k + 1, by omega, by go_num, Lib.hid (by rw [List.take_succ_eq_append_getElem HK1.out, List.take_succ_eq_append_getElem HK2.out, HK.out, ← HX.out, ← HY.out, HXY.out]), below_drewN hb _⟩
          case measure => simp [RowKit.intOf]; omega
        · have hq : (x != y) = true := by simp [hxy]
          have HXY := Lib.hid hxy
          clear hxy
          go_wp2_with fail
          go_quiet (fail)
          go_wp2
          go_ret
          refine ⟨ret_bool ?_, below_drewN hb _⟩
          rw [eq_comm, decide_eq_false_iff_not]
          rintro rfl
          exact HXY.out (HX.out.trans HY.out.symm)
      · go_wp2
        go_ret
        refine ⟨ret_bool ?_, hb⟩
        have := HK.out
        rw [List.take_of_length_le (by rw [E1.out]; omega), List.take_of_length_le (by rw [E2.out]; omega)] at this
        rw [eq_comm, decide_eq_true_eq]; exact this
  · have hq : ((l.length : Int) != (l'.length : Int)) = true := by simp; omega
    have HL := Lib.hid hlen
    clear hlen hB hB'
    go_enter Try.func47, Try.ntmps47
    go_wp2
    go_ret
    refine ⟨ret_bool ?_, Below.refl _ _⟩
    rw [eq_comm, decide_eq_false_iff_not]
    rintro rfl
    exact HL.out rfl
set_option maxHeartbeats 1000000 in
theorem eqBytes_any (a a' : Option Addr) (cap cap' : Nat) (l l' : List Byte) (w : World) (hB : Bys w a l) (hB' : Bys w a' l') :
    Calls Try.prog 29 #[.slice a l.length cap, .slice a' l'.length cap'] w fun e w' => e = .returned (.bool (decide (l = l'))) ∧ Below w.heap.size w w' := by
  by_cases hlen : l.length = l'.length
  · have hm := hB.1
    have H := Lib.hid hB
    have H' := Lib.hid hB'
    obtain ⟨n, hn⟩ : ∃ n, n = l.length := ⟨_, rfl⟩
    have hn' : n = l'.length := by omega
    rw [← hn, ← hn']
    have e1 : l.length = n := by omega
    have e2 : l'.length = n := by omega
    have E1 := Lib.hid e1
    have E2 := Lib.hid e2
    have hm' : n ≤ 9223372036854775807 := by omega
    clear hB hB' hlen hn hn' e1 e2 hm
    go_enter Try.func29, Try.ntmps29
    go_wp2_with fail
    go_loopw [5] (fun i wr => ∃ k : Nat, k ≤ n ∧ i = .int .i64 k ∧ Hid (l.take k = l'.take k) ∧ Below w.heap.size w wr) (fun i _ => n - (RowKit.intOf i).toNat)
    case atStart => exact ⟨0, by omega, rfl, Lib.hid (by simp), Below.refl _ _⟩
    case round =>
      obtain ⟨k, hk, rfl, HK, hb⟩ := hrel
      by_cases hlt : k < n
      · have hk1 : k < l.length := by rw [E1.out]; exact hlt
        have hk2 : k < l'.length := by rw [E2.out]; exact hlt
        obtain ⟨b, off, rfl, hb0, hc⟩ := H.out.at_lt hk1
        obtain ⟨b', off', rfl, hb0', hc'⟩ := H'.out.at_lt hk2
        obtain ⟨x, hx⟩ : ∃ x, x = l[k] := ⟨_, rfl⟩
        obtain ⟨y, hy⟩ : ∃ y, y = l'[k] := ⟨_, rfl⟩
        have hcell : wr.cell? ⟨b, off + k, none⟩ = some (.int .u8 (x.toNat : Int)) := by rw [hx]; exact (hb.cell (by exact hb0)).trans (hc k hk1)
        have hcell' : wr.cell? ⟨b', off' + k, none⟩ = some (.int .u8 (y.toNat : Int)) := by rw [hy]; exact (hb.cell (by exact hb0')).trans (hc' k hk2)
        have HX := Lib.hid hx
        have HY := Lib.hid hy
        have HK1 := Lib.hid hk1
        have HK2 := Lib.hid hk2
        clear hc hc' hx hy
        by_cases hxy : x = y
        · have hq : ((x.toNat : Int) != (y.toNat : Int)) = false := by simp [hxy]
          have HXY := Lib.hid hxy
          clear hxy
          go_wp2_with fail
          go_quiet (fail)
          go_wp2
          go_roundw
          case rel => exact ⟨k + 1, by omega, by go_num, Lib.hid (by rw [List.take_succ_eq_append_getElem HK1.out, List.take_succ_eq_append_getElem HK2.out, HK.out, ← HX.out, ← HY.out, HXY.out]), below_drewN hb _⟩
          case measure => simp [RowKit.intOf]; omega
        · have hq : ((x.toNat : Int) != (y.toNat : Int)) = true := by simp; exact fun e => hxy (BitVec.eq_of_toNat_eq (by omega))
          have HXY := Lib.hid hxy
          clear hxy
          go_wp2_with fail
          go_quiet (fail)
          go_wp2
          go_ret
          refine ⟨ret_bool ?_, below_drewN hb _⟩
          rw [eq_comm, decide_eq_false_iff_not]
          rintro rfl
          exact HXY.out (HX.out.trans HY.out.symm)
      · go_wp2
        go_ret
        refine ⟨ret_bool ?_, hb⟩
        have := HK.out
        rw [List.take_of_length_le (by rw [E1.out]; omega), List.take_of_length_le (by rw [E2.out]; omega)] at this
        rw [eq_comm, decide_eq_true_eq]; exact this
  · have hq : ((l.length : Int) != (l'.length : Int)) = true := by simp; omega
    have HL := Lib.hid hlen
    clear hlen hB hB'
    go_enter Try.func29, Try.ntmps29
    go_wp2
    go_ret
    refine ⟨ret_bool ?_, Below.refl _ _⟩
    rw [eq_comm, decide_eq_false_iff_not]
    rintro rfl
    exact HL.out rfl

/-! ### A sector full of a byte -/
def fillS (b : Byte) (k : Nat) : Sec := fun j => if j < k then b else 0
def oneS (b : Byte) : Sec := fun _ => b
theorem fill_step (b : Byte) (k : Nat) : (secC (fillS b k)).setIfInBounds k (.int .u8 (b.toNat : Int)) = secC (fillS b (k + 1)) := by
  have := secC_set (fillS b k) (k := k) b
  rw [show (.int .u8 (b.toNat : Int) : Value) = byteV b from rfl, this]
  congr 1
  funext j
  unfold upd fillS
  by_cases e : j = k
  · subst e; simp
  · rw [if_neg e]
    by_cases h : j < k
    · rw [if_pos h, if_pos (by omega)]
    · rw [if_neg h, if_neg (by omega)]
theorem fill_zero (b : Byte) : secC (fillS b 0) = secC zeroS := secC_congr fun j _ => by simp [fillS, zeroS]
theorem fill_end (b : Byte) : secC (fillS b 64) = secC (oneS b) := secC_congr fun j hj => by simp [fillS, oneS, hj]
theorem info5 : (Try.prog.info? 5).map (fun i => (i.size, i.bytes)) = some (1, 1) := by kernel_rfl
theorem info5z : (Try.prog.info? 5).map (·.zero) = some (some (.int .u8 0)) := by kernel_rfl
theorem make64 (w : World) : (Instr.makeSlice 42 (.int .i64 64) (.int .i64 64)).run Try.prog w = .ok (.slice (some ⟨w.heap.size, 0, none⟩) 64 64) (w.alloc (.cells (secC zeroS) 5)) := by
  cases hi : Try.prog.info? 5 with
  | none => have := info5; rw [hi] at this; cases this
  | some i =>
    have := info5
    rw [hi] at this
    simp only [Option.map_some, Option.some.injEq, Prod.mk.injEq] at this
    obtain ⟨e1, e2⟩ := this
    have hz : i.zero = some (.int .u8 0) := by
      have hz := info5z
      rw [hi] at hz
      exact Option.some.inj hz
    have := run_makeSlice w 42 5 i (.int .u8 0) Try.underlying42 hi hz .i64 .i64 64 64 (by omega) (by omega) (by rw [e1]; simp) (by rw [e2]; omega) (by omega)
    rw [e1] at this
    have e : madeCells (Value.int IntKind.u8 0).cells (Int.toNat 64 * 1) = secC zeroS := by
      rw [zeroC]
      apply Array.ext'
      show (madeCells #[.int .u8 0] 64).toList = _
      rw [toList_madeCells_one]
      simp
    rw [e] at this
    exact this
set_option maxRecDepth 10000 in
theorem full_any (b : Byte) (w : World) : Calls Try.prog 24 #[.int .u8 (b.toNat : Int)] w fun e w' => e = .returned (.slice (some ⟨w.heap.size, 0, none⟩) 64 64) ∧ w' = w.alloc (.cells (secC (oneS b)) 5) := by
  have hmk := make64 w
  go_enter Try.func24, Try.ntmps24
  go_wp2_with fail
  go_loopw [4] (fun i wr => ∃ k : Nat, k ≤ 64 ∧ i = .int .i64 k ∧ wr = w.alloc (.cells (secC (fillS b k)) 5)) (fun i _ => 64 - (RowKit.intOf i).toNat)
  case atStart => exact ⟨0, by omega, rfl, by rw [fill_zero]⟩
  case round =>
    obtain ⟨k, hk, rfl, rfl⟩ := hrel
    by_cases hlt : k < 64
    · have hst := fill_step b k
      have hc : (w.alloc (.cells (secC (fillS b k)) 5)).cell? ⟨w.heap.size, k, none⟩ = some (byteV (fillS b k k)) := by
        rw [cell_new]
        simp [secC, secL_get _ hlt]
      have hf := frozen_new w (secC (fillS b k)) 5 k
      go_wp2
      go_roundw
      case rel => exact ⟨k + 1, by omega, by go_num, rfl⟩
      case measure => simp [RowKit.intOf]; omega
    · obtain rfl : k = 64 := by omega
      go_wp2
      go_ret
      exact ⟨rfl, by rw [fill_end]⟩
theorem bys_sec {w : World} {g : Nat} {s : Sec} {t : TypeId} (h : w.heap[g]? = some (.cells (secC s) t (0, 0))) : Bys w (some ⟨g, 0, none⟩) (bytesOf s) := by
  refine ⟨by rw [bytesOf_length]; omega, .inr ⟨g, 0, rfl, fun i hi => ?_⟩⟩
  rw [bytesOf_length] at hi
  rw [cell_of_row _ _ _ _ _ _ h]
  simp [secC, secL_get _ hi, bytesOf]
theorem secOf_bytes (s : Sec) : secL (secOf (bytesOf s)) = secL s := secL_congr fun j hj => by
  simp [secOf, bytesOf, List.getD_eq_getElem?_getD, hj]
/-- Is a sector full of a byte. -/
def hasB (P : Pl) (i : Int) (b : Byte) : Bool := decide (P.has i = 0) && decide (bytesOf (P.seen i.toNat) = bytesOf (oneS b))
set_option maxRecDepth 10000 in
theorem hasB_any (w : World) (q : PLoc) (P : Pl) (h : PlateAt w q P) (i : Int) (b : Byte) : Calls Try.prog 19 #[pv q, .int .i64 i, .int .u8 (b.toNat : Int)] w fun e w' => e = .returned (.bool (hasB P i b)) ∧ Below w.heap.size w w' := by
  unfold hasB
  by_cases h0 : P.has i = 0
  · obtain ⟨hd, h1, h2⟩ := Pl.has_zero h0
    obtain ⟨k, rfl⟩ : ∃ k : Nat, i = k := ⟨i.toNat, by omega⟩
    have HR := Lib.hid (read_ok w q P h k (by omega) hd)
    rw [decide_eq_true h0]
    rw [Bool.true_and]
    refine (?_ : ∀ s : Sec, Hid (Calls Try.prog 28 #[pv q, .int .i64 k] w fun e w' => Below w.heap.size w w' ∧
        ∃ g, e = .returned (.tuple #[.slice (some ⟨g, 0, none⟩) 64 64, .int .i64 0]) ∧ w.heap.size ≤ g ∧ w'.heap[g]? = some (.cells (secC s) 88 (0, 0))) →
      Calls Try.prog 19 #[pv q, .int .i64 k, .int .u8 (b.toNat : Int)] w fun e w' => e = .returned (.bool (decide (bytesOf s = bytesOf (oneS b)))) ∧ Below w.heap.size w w') (P.seen (Int.toNat k)) HR
    clear h h0 hd h1 h2 HR
    intro s HR
    go_enter Try.func19, Try.ntmps19
    go_wp2_with fail
    refine Calls.mono HR.out ?_
    rintro e w1 ⟨hb1, g, rfl, hg0, hg⟩
    have HB1 := Lib.hid hb1
    have HY := Lib.hid (bys_sec hg)
    clear hb1 hg hg0
    go_wp2_with fail
    refine Calls.mono (full_any b _) ?_
    rintro e w2 ⟨rfl, rfl⟩
    have hl1 := bytesOf_length s
    have hl2 := bytesOf_length (oneS b)
    have hq := eqBytes_any (some ⟨g, 0, none⟩) (some ⟨w1.heap.size, 0, none⟩) 64 64 (bytesOf s) (bytesOf (oneS b)) _ (HY.out.below (Below.new w1 (.cells (secC (oneS b)) 5))) (bys_sec (heap_alloc_new _ _))
    rw [hl1, hl2] at hq
    have HQ := Lib.hid hq
    clear hl1 hl2 hq
    go_wp2_with fail
    refine Calls.mono HQ.out ?_
    rintro e w3 ⟨rfl, hb3⟩
    have HB3 := Lib.hid hb3
    clear hb3
    go_wp2
    go_ret
    exact ⟨rfl, Below.step (Below.step HB1.out (Below.new _ _)) HB3.out⟩
  · have HR := Lib.hid (read_no w q P h i h0)
    rw [decide_eq_false h0]
    have hq : (P.has i == 0) = false := by simpa using h0
    obtain ⟨z, hz⟩ : ∃ z, z = P.has i := ⟨_, rfl⟩
    rw [← hz] at HR hq
    clear h h0 hz
    go_enter Try.func19, Try.ntmps19
    go_wp2_with fail
    refine Calls.mono HR.out ?_
    rintro e w1 ⟨rfl, rfl⟩
    go_wp2
    go_ret
    exact ⟨rfl, Below.refl _ _⟩
end Go.Proofs.Ytdhidcoglioalaa.Walks
