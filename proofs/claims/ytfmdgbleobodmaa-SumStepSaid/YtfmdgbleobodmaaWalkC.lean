/-
  The walks of sum.Add and sum.Of.
-/
import Derived.Test.YtfmdgbleobodmaaWalkB
import Derived.Laws.CopyOwn
import Derived.WalkSmall
namespace Go.Proofs.Ytfmdgbleobodmaa.Walks
open Go.RowKit Math Bits

/-- Bytes lie in memory. -/
def Bts (w : World) (a : Option Addr) (l : List (BitVec 8)) : Prop :=
  l.length ≤ 9223372036854775807 ∧ (l = [] ∨ ∃ b off, a = some ⟨b, off, none⟩ ∧ ∀ i (h : i < l.length), w.cell? ⟨b, off + i, none⟩ = some (.int .u8 (l[i].toNat : Int)))

theorem Bts.at_lt {w : World} {a : Option Addr} {l : List (BitVec 8)} (h : Bts w a l) {k : Nat} (hk : k < l.length) :
    ∃ b off, a = some ⟨b, off, none⟩ ∧ b < w.heap.size ∧ ∀ i (h : i < l.length), w.cell? ⟨b, off + i, none⟩ = some (.int .u8 (l[i].toNat : Int)) := by
  rcases h.2 with rfl | ⟨b, off, ha, hc⟩
  · simp at hk
  · exact ⟨b, off, ha, block_lt_of_cell (hc k hk), hc⟩
theorem Bts.below {w w' : World} {B : Nat} {a : Option Addr} {l : List (BitVec 8)} (h : Bts w a l) (hb : Below B w w') (ha : ∀ x, a = some x → x.block < B) : Bts w' a l := by
  refine ⟨h.1, ?_⟩
  rcases h.2 with rfl | ⟨b, off, rfl, hc⟩
  · exact .inl rfl
  · exact .inr ⟨b, off, rfl, fun i hi => (hb.cell (p := ⟨b, off + i, none⟩) (ha ⟨b, off, none⟩ rfl)).trans (hc i hi)⟩
theorem Bts.below_self {w w' : World} {a : Option Addr} {l : List (BitVec 8)} (h : Bts w a l) (hb : Below w.heap.size w w') : Bts w' a l := by
  refine ⟨h.1, ?_⟩
  rcases h.2 with rfl | ⟨b, off, rfl, hc⟩
  · exact .inl rfl
  · exact .inr ⟨b, off, rfl, fun i hi => (hb.cell (by exact block_lt_of_cell (hc i hi))).trans (hc i hi)⟩

attribute [local go_sem] headOf_mk blockOf_mk
attribute [local go_sem ↓] exec_load40 exec_store40'

abbrev Z16 : Array Value := #[.int .u64 0, .int .u64 0, .int .u64 0, .int .u64 0, .int .u64 0, .int .u64 0, .int .u64 0, .int .u64 0, .int .u64 0, .int .u64 0, .int .u64 0, .int .u64 0, .int .u64 0, .int .u64 0, .int .u64 0, .int .u64 0]

theorem Z16_one : Z16.all (·.oneCell') = true := by decide +kernel

theorem setRow_block (w : World) (g k : Nat) (cs : Array Value) (h : k ≠ g) : (w.setRow g cs).heap[k]? = w.heap[k]? := setRow_other w g k cs h

set_option maxHeartbeats 400000 in
theorem add_any (s : W) (a : Option Addr) (cap : Nat) (l : List (BitVec 8)) (w : World) (hB : Bts w a l) :
    Calls Try.prog 21 #[.int .u64 (s.toNat : Int), .slice a l.length cap] w fun e w' => e = .returned (.int .u64 ((sumFrom s l).toNat : Int)) ∧ Below w.heap.size w w' := by
  have hm := hB.1
  have HB := Lib.hid hB
  clear hB
  go_enter Try.func21, Try.ntmps21
  go_wp2_with fail
  refine (halves_any _).mono ?_
  rintro e w1 ⟨rfl, hb⟩
  have i1 := is16_arr lo 16
  have i2 := is16_arr hi 16
  have q1 : ((w1.alloc (.cells Z16 40)).alloc (.cells Z16 40)).heap[w1.heap.size]? = some (.cells Z16 40 (0, 0)) := heap_alloc2_old _ _ _
  have q2 : ((w1.alloc (.cells Z16 40)).alloc (.cells Z16 40)).heap[w1.heap.size + 1]? = some (.cells Z16 40 (0, 0)) := heap_alloc2_new _ _ _
  have a1 : Row40 ((w1.alloc (.cells Z16 40)).alloc (.cells Z16 40)) w1.heap.size := row40_of q1 rfl Z16_one
  have a2 : Row40 (((w1.alloc (.cells Z16 40)).alloc (.cells Z16 40)).setRow w1.heap.size (arr lo 16)) (w1.heap.size + 1) :=
    row40_of (by rw [setRow_block _ _ _ _ (by omega)]; exact q2) rfl Z16_one
  have hsz := hb.size
  have HQ1 := Lib.hid q1
  have HQ2 := Lib.hid q2
  clear q1 q2
  go_wp2_with fail
  rw [notU]
  obtain ⟨t, ht⟩ : ∃ t, t = ~~~s := ⟨_, rfl⟩
  rw [← ht]
  have HT := Lib.hid ht
  clear ht
  go_loopw [7, 19] (fun st i wr => ∃ k : Nat, k ≤ l.length ∧ i = .int .i64 k ∧ st = .int .u64 ((addL t (l.take k)).toNat : Int) ∧
      wr.heap[w1.heap.size]? = some (.cells (arr lo 16) 40 (0, 0)) ∧ wr.heap[w1.heap.size + 1]? = some (.cells (arr hi 16) 40 (0, 0)) ∧ Below w.heap.size w wr)
    (fun _ i _ => l.length - (intOf i).toNat)
  case atStart =>
    refine ⟨0, by omega, rfl, rfl, ?_, ?_, ?_⟩
    · rw [setRow_block _ _ _ _ (by omega)]
      exact setRow_heap _ _ Z16 _ _ _ HQ1.out
    · refine setRow_heap _ _ Z16 _ _ _ ?_
      rw [setRow_block _ _ _ _ (by omega)]
      exact HQ2.out
    · exact below_setRow (below_setRow ((hb.alloc (by exact hsz) _).alloc (by simp; omega) _) (by omega) _) (by omega) _
  case round =>
    obtain ⟨k, hk, rfl, rfl, hl, hh, hbel⟩ := hrel
    clear a1 a2 i1 i2
    have H1 := Lib.hid hl
    have H2 := Lib.hid hh
    clear hl hh
    by_cases hlt : k < l.length
    · obtain ⟨b, off, rfl, hb0, hc⟩ := HB.out.at_lt hlt
      have hcell : wr.cell? ⟨b, off + k, none⟩ = some (.int .u8 (l[k].toNat : Int)) := (hbel.cell (by exact hb0)).trans (hc k hlt)
      clear hc
      generalize hS : addL t (l.take k) = S
      have HS := Lib.hid hS
      clear hS
      go_wp2_with fail
      rw [byteXor]
      obtain ⟨y, hy⟩ : ∃ y, y = S.setWidth 8 ^^^ l[k] := ⟨_, rfl⟩
      rw [← hy]
      have HY := Lib.hid hy
      clear hy
      have hylt := y.isLt
      have c1 : wr.cell? ⟨w1.heap.size, y.toNat % 16, none⟩ = some (.int .u64 ((lo (y.toNat % 16)).toNat : Int)) := by
        rw [cell_of_row _ _ _ _ _ _ H1.out, arr_at _ _ _ (by omega), if_pos (by omega)]
      have c2 : wr.cell? ⟨w1.heap.size + 1, y.toNat / 16, none⟩ = some (.int .u64 ((hi (y.toNat / 16)).toNat : Int)) := by
        rw [cell_of_row _ _ _ _ _ _ H2.out, arr_at _ _ _ (by omega), if_pos (by omega)]
      have q15 : bits .and .u8 (y.toNat : Int) 15 = (y.toNat : Int) % 16 := u8_and15 _ (by omega) (by omega)
      have b1 : (y.toNat : Int) % 16 < 16 := by omega
      have b2 : 0 ≤ (y.toNat : Int) % 16 := by omega
      have b3 : (y.toNat : Int) / 16 < 16 := by omega
      have b4 : 0 ≤ (y.toNat : Int) / 16 := by omega
      have t1 : ((y.toNat : Int) % 16).toNat = y.toNat % 16 := by omega
      have t2 : ((y.toNat : Int) / 16).toNat = y.toNat / 16 := by omega
      go_quiet (fail)
      go_wp2
      go_roundw
      case rel => exact ⟨k + 1, by omega, by go_num, val_int (by rw [add_step_int S l[k] y HY.out, addL_take_succ _ _ _ hlt, HS.out]), H1.out, H2.out, below_drewN hbel nq⟩
      case measure => simp [intOf]; omega
    · go_wp2
      rw [notU]
      go_ret
      exact ⟨ret_int (by rw [List.take_of_length_le (by omega), HT.out]; rfl), hbel⟩

set_option maxHeartbeats 400000 in
theorem of_any (a : Option Addr) (cap : Nat) (l : List (BitVec 8)) (w : World) (hB : Bts w a l) :
    Calls Try.prog 18 #[.slice a l.length cap] w fun e w' => e = .returned (.int .u64 ((sumOf l).toNat : Int)) ∧ Below w.heap.size w w' := by
  have HB := Lib.hid hB
  clear hB
  go_enter Try.func18, Try.ntmps18
  go_wp2_with fail
  refine (add_any 0#64 a cap l _ HB.out).mono ?_
  rintro e w' ⟨rfl, hb⟩
  go_wp2
  go_ret
  exact ⟨rfl, hb⟩

set_option maxHeartbeats 400000 in
theorem refAdd_any (s : W) (a : Option Addr) (cap : Nat) (l : List (BitVec 8)) (w : World) (hB : Bts w a l) :
    Calls Try.prog 22 #[.int .u64 (s.toNat : Int), .slice a l.length cap] w fun e w' => e = .returned (.int .u64 ((sumFrom s l).toNat : Int)) ∧ w = w' := by
  have hm := hB.1
  have HB := Lib.hid hB
  clear hB
  go_enter Try.func22, Try.ntmps22
  go_wp2_with fail
  rw [notU]
  obtain ⟨t, ht⟩ : ∃ t, t = ~~~s := ⟨_, rfl⟩
  rw [← ht]
  have HT := Lib.hid ht
  clear ht
  go_loop [5, 6] (fun st i => ∃ k : Nat, k ≤ l.length ∧ i = .int .i64 k ∧ st = .int .u64 ((addL t (l.take k)).toNat : Int))
    (fun _ i => l.length - (intOf i).toNat)
  case atStart => exact ⟨0, by omega, rfl, rfl⟩
  case round =>
    obtain ⟨k, hk, rfl, rfl⟩ := hrel
    by_cases hlt : k < l.length
    · obtain ⟨b, off, rfl, hb0, hc⟩ := HB.out.at_lt hlt
      have hcell := hc k hlt
      clear hc
      generalize hS : addL t (l.take k) = S
      have HS := Lib.hid hS
      clear hS
      go_wp2_with fail
      refine (refStep_any S l[k] _).mono ?_
      rintro e w' ⟨rfl, rfl⟩
      go_wp2
      go_round
      case rel => exact ⟨k + 1, by omega, by go_num, val_int (by rw [addL_take_succ _ _ _ hlt, HS.out])⟩
      case measure => simp [intOf]; omega
    · go_wp2
      rw [notU]
      go_ret
      exact ⟨ret_int (by rw [List.take_of_length_le (by omega), HT.out]; rfl), rfl⟩

set_option maxHeartbeats 400000 in
theorem refOf_any (a : Option Addr) (cap : Nat) (l : List (BitVec 8)) (w : World) (hB : Bts w a l) :
    Calls Try.prog 19 #[.slice a l.length cap] w fun e w' => e = .returned (.int .u64 ((sumOf l).toNat : Int)) ∧ w = w' := by
  have HB := Lib.hid hB
  clear hB
  go_enter Try.func19, Try.ntmps19
  go_wp2_with fail
  refine (refAdd_any 0#64 a cap l _ HB.out).mono ?_
  rintro e w' ⟨rfl, rfl⟩
  go_wp2
  go_ret
  exact ⟨rfl, rfl⟩
end Go.Proofs.Ytfmdgbleobodmaa.Walks
