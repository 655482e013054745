/-
  The walk of the law SumXor.
-/
import Derived.Test.YtfmdgbleobodmaaLawB
namespace Go.Proofs.Ytfmdgbleobodmaa.Walks
open Go.RowKit Math Bits
set_option linter.unusedVariables false

/-- The first k of the pairs' xors, and noughts. -/
def xrow (l0 l1 : List (BitVec 8)) (n k : Nat) : Array Value := Array.ofFn (n := n) fun i => if i.val < k then byteV (l0.getD i.val 0 ^^^ l1.getD i.val 0) else byteV 0#8
theorem xrow_size (l0 l1 : List (BitVec 8)) (n k : Nat) : (xrow l0 l1 n k).size = n := by simp [xrow]
theorem xrow_at (l0 l1 : List (BitVec 8)) (n k i : Nat) (h : i < n) : (xrow l0 l1 n k)[i]? = some (if i < k then byteV (l0.getD i 0 ^^^ l1.getD i 0) else byteV 0#8) := by
  simp [xrow, h]
theorem xrow_step (l0 l1 : List (BitVec 8)) (n k : Nat) : (xrow l0 l1 n k).setIfInBounds k (byteV (l0.getD k 0 ^^^ l1.getD k 0)) = xrow l0 l1 n (k + 1) := by
  apply Array.ext_getElem?
  intro i
  by_cases hi : i < n
  · rw [xrow_at _ _ _ _ _ hi, Array.getElem?_setIfInBounds, xrow_at _ _ _ _ _ hi, xrow_size]
    by_cases e : k = i
    · subst e; simp [hi]
    · simp only [e, if_false]
      by_cases h : i < k
      · simp [h, Nat.lt_succ_of_lt h]
      · rw [if_neg h, if_neg (by omega)]
  · rw [Array.getElem?_eq_none (by simp [xrow]; omega), Array.getElem?_eq_none (by simp [xrow]; omega)]
theorem xrow_full (l0 l1 : List (BitVec 8)) (n : Nat) (h0 : n ≤ l0.length) (h1 : n ≤ l1.length) : xrow l0 l1 n n = ((List.zipWith (· ^^^ ·) (l0.take n) (l1.take n)).map byteV).toArray := by
  apply Array.ext_getElem?
  intro i
  by_cases hi : i < n
  · rw [xrow_at _ _ _ _ _ hi, if_pos hi]
    simp [hi, List.getElem?_zipWith, List.getElem?_eq_getElem (show i < l0.length by omega), List.getElem?_eq_getElem (show i < l1.length by omega)]
  · rw [Array.getElem?_eq_none (by simp [xrow]; omega), Array.getElem?_eq_none (by simp; omega)]
theorem xrow_zero (l0 l1 : List (BitVec 8)) (n : Nat) : xrow l0 l1 n 0 = ((List.replicate n 0#8).map byteV).toArray := by
  apply Array.ext_getElem?
  intro i
  by_cases hi : i < n
  · rw [xrow_at _ _ _ _ _ hi, if_neg (by omega)]
    simp [hi]
  · rw [Array.getElem?_eq_none (by simp [xrow]; omega), Array.getElem?_eq_none (by simp; omega)]

/-- n noughts. -/
def zrow (n : Nat) : Array Value := ((List.replicate n 0#8).map byteV).toArray
theorem run_make26 (w : World) (n : Nat) (hn : n ≤ 140737488351232) :
    (Instr.makeSlice 26 (.int .i64 (n : Int)) (.int .i64 (n : Int))).run Try.prog w = .ok (.slice (some ⟨w.heap.size, 0, none⟩) n n) (w.alloc (.cells (zrow n) 5)) := by
  obtain ⟨i0, hi, hz0, hz1, hz2⟩ := info_parts info5
  have h := run_make (P := Try.prog) w 26 5 i0 (.int .u8 0) Try.underlying26 hi hz0 .i64 .i64 (n : Int) (n : Int) (by omega) (by omega) (by rw [hz2]; omega) (by omega)
  have e : madeCells (Value.cells (.int .u8 0)) (n * 1) = zrow n := by
    apply Array.ext_getElem?
    intro i
    by_cases hi : i < n
    · simp [madeCells, zrow, hi, Value.cells, byteV, Nat.mod_one]
    · rw [Array.getElem?_eq_none (by simp [madeCells]; omega), Array.getElem?_eq_none (by simp [zrow]; omega)]
  rw [hz1, Int.toNat_natCast, e] at h
  exact h

theorem xor_int (l0 l1 : List (BitVec 8)) (k : Nat) (h0 : k ≤ l0.length) (h1 : k ≤ l1.length) :
    (bits .xor .u64 ((sumOf (l0.take k)).toNat : Int) ((sumOf (l1.take k)).toNat : Int) == bits .xor .u64 ((sumOf (List.zipWith (· ^^^ ·) (l0.take k) (l1.take k))).toNat : Int) ((sumOf (List.replicate k 0#8)).toNat : Int)) = true := by
  have h := sum_xor (l0.take k) (l1.take k) (by simp; omega)
  rw [List.length_take, Nat.min_eq_left h0] at h
  rw [xorU, xorU, h]
  simp

/-- A block of n noughts. -/
def ZB (n g : Nat) (w : World) : Prop := w.heap[g]? = some (.cells (zrow n) 5 (0, 0))
theorem ZB.new (n : Nat) (w : World) : ZB n w.heap.size (w.alloc (.cells (zrow n) 5)) := heap_alloc_new _ _
theorem ZB.drew {n g : Nat} {w : World} (h : ZB n g w) : ZB n g w.drew := h
theorem ZB.below {n g : Nat} {w w' : World} (h : ZB n g w) (hb : Below w.heap.size w w') : ZB n g w' := (hb.block g (Array.getElem?_eq_some_iff.1 h).1).trans h
theorem of_zb {n g : Nat} {w : World} (hn : n ≤ 140737488351232) (h : ZB n g w) :
    Calls Try.prog 18 #[.slice (some ⟨g, 0, none⟩) n n] w fun e w' => e = .returned (.int .u64 ((sumOf (List.replicate n 0#8)).toNat : Int)) ∧ Below w.heap.size w w' :=
  of_n _ n (List.replicate n 0#8) n _ (bts_block (cs := zrow n) h rfl (by rw [List.length_replicate]; omega)) (by rw [List.length_replicate])

/-- What a region's operations leave alone. -/
def SX (w : World) (g : Nat) (cs : Array Value) (w' : World) : Prop := Below w.heap.size w w' ∧ w'.heap[g]? = some (.cells cs 5 (0, 0)) ∧ w.heap.size ≤ g
theorem SX.bel {w w' : World} {g : Nat} {cs : Array Value} (h : SX w g cs w') : Below w.heap.size w w' := h.1
theorem SX.row {w w' : World} {g : Nat} {cs : Array Value} (h : SX w g cs w') : w'.heap[g]? = some (.cells cs 5 (0, 0)) := h.2.1
theorem SX.drew {w w' : World} {g : Nat} {cs : Array Value} (h : SX w g cs w') : SX w g cs w'.drew := ⟨h.1.drew, h.2.1, h.2.2⟩
theorem SX.lt {w w' : World} {g : Nat} {cs : Array Value} (h : SX w g cs w') : g < w'.heap.size := (Array.getElem?_eq_some_iff.1 h.2.1).1
theorem heap_alloc_lt {w : World} {o : Obj} {i : Nat} (h : i < w.heap.size) : (w.alloc o).heap[i]? = w.heap[i]? := by
  show (w.heap.push o)[i]? = w.heap[i]?
  rw [Array.getElem?_push, if_neg (Nat.ne_of_lt h)]
theorem SX.alloc {w w' : World} {g : Nat} {cs : Array Value} (h : SX w g cs w') (o : Obj) : SX w g cs (w'.alloc o) :=
  ⟨h.1.alloc h.1.size _, (heap_alloc_lt h.lt).trans h.2.1, h.2.2⟩
theorem SX.below {w w' w'' : World} {g : Nat} {cs : Array Value} (h : SX w g cs w') (hb : Below w'.heap.size w' w'') : SX w g cs w'' :=
  ⟨h.1.trans (hb.mono h.1.size), by rw [hb.block g h.lt]; exact h.2.1, h.2.2⟩

set_option maxHeartbeats 1000000 in
theorem sumXor_core (a0 : Option Addr) (cap0 : Nat) (l0 : List (BitVec 8)) (a1 : Option Addr) (cap1 : Nat) (l1 : List (BitVec 8)) (w : World) (hB0 : Bts w a0 l0) (hB1 : Bts w a1 l1)
    (hc0 : l0.length ≤ cap0) (hc1 : l1.length ≤ cap1) (r0 : cap0 ≤ 140737488351232) (r1 : cap1 ≤ 140737488351232) :
    Calls Try.prog 9 #[.slice a0 l0.length cap0, .slice a1 l1.length cap1] w fun e w' => e = .returned (.bool true) ∧ Below w.heap.size w w' := by
  have HB0 := Lib.hid hB0
  have HB1 := Lib.hid hB1
  clear hB0 hB1
  have hb0 : l0.length ≤ 140737488351232 := by omega
  have hb1 : l1.length ≤ 140737488351232 := by omega
  have hmk := run_make26
  go_enter Try.func9, Try.ntmps9
  go_wp2_with fail
  refine (works_any _).mono ?_
  rintro e w1 ⟨rfl, hb1⟩
  have s1 := hb1.size
  go_wp2_with fail
  obtain ⟨n, hn⟩ : ∃ n, n = l1.length := ⟨_, rfl⟩
  have hn0 : n ≤ l0.length := by omega
  have hn1 : n ≤ l1.length := by omega
  rw [← hn]
  clear hn
  rotate_left
  obtain ⟨n, hn⟩ : ∃ n, n = l0.length := ⟨_, rfl⟩
  have hn0 : n ≤ l0.length := by omega
  have hn1 : n ≤ l1.length := by omega
  rw [← hn]
  clear hn
  all_goals
    have hmk' := fun w => run_make26 w n (by omega)
    clear hmk
    go_loopw [7] (fun i wr => ∃ k : Nat, k ≤ n ∧ i = .int .i64 k ∧ wr.heap[w1.heap.size]? = some (.cells (xrow l0 l1 n k) 5 (0, 0)) ∧ Below w.heap.size w wr) (fun i _ => n - (intOf i).toNat)
    case atStart => exact ⟨0, by omega, rfl, by rw [heap_alloc_new, xrow_zero]; rfl, hb1.alloc (by exact s1) _⟩
    case round =>
      obtain ⟨k, hk, rfl, hx, hb⟩ := hrel
      have HX := Lib.hid hx
      clear hx
      by_cases hlt : k < n
      · obtain ⟨b, off, rfl, hbb, hc⟩ := HB0.out.at_lt (show k < l0.length by omega)
        obtain ⟨b', off', rfl, hbb', hc'⟩ := HB1.out.at_lt (show k < l1.length by omega)
        have hcell : wr.cell? ⟨b, off + k, none⟩ = some (.int .u8 ((l0.getD k 0).toNat : Int)) := by
          rw [hb.cell (p := ⟨b, off + k, none⟩) hbb, hc k (by omega)]; simp [show k < l0.length by omega]
        have hcell' : wr.cell? ⟨b', off' + k, none⟩ = some (.int .u8 ((l1.getD k 0).toNat : Int)) := by
          rw [hb.cell (p := ⟨b', off' + k, none⟩) hbb', hc' k (by omega)]; simp [show k < l1.length by omega]
        clear hc hc'
        generalize hc0' : l0.getD k 0 = c0 at *
        generalize hc1' : l1.getD k 0 = c1 at *
        have HC0 := Lib.hid hc0'
        have HC1 := Lib.hid hc1'
        clear hc0' hc1'
        have hcx : wr.cell? ⟨w1.heap.size, k, none⟩ = some (byteV 0#8) := by
          rw [cell_of_row _ _ _ _ _ _ HX.out, xrow_at _ _ _ _ _ hlt, if_neg (by omega)]
        have hfx : wr.frozen? ⟨w1.heap.size, k, none⟩ = false := frozen_of_row _ _ _ _ _ HX.out
        go_wp2_with fail
        go_region
        go_wp2
        go_roundw
        case rel => exact ⟨k + 1, by omega, by go_num, by rw [xorB, ← HC0.out, ← HC1.out, ← xrow_step]; exact heap_setCell_same _ _ _ _ _ _ HX.out, (hb.setCell (by exact s1) _).drew⟩
        case measure => simp [intOf]; omega
      · have : k = n := by omega
        subst this
        go_wp2_with fail
        have kb0 : (0 : Int) ≤ (k : Int) := by omega
        have kb1 : (k : Int) ≤ (cap0 : Int) := by omega
        have kb2 : (k : Int) ≤ (cap1 : Int) := by omega
        have hS : SX w w1.heap.size (xrow l0 l1 k k) wr := ⟨hb, HX.out, s1⟩
        go_region_held3 (fun w' => SX w w1.heap.size (xrow l0 l1 k k) w')
          (first | exact SX.drew hS | assumption | exact SX.drew (by assumption) | exact SX.below (by assumption) hb2 | exact SX.below (by assumption) hb3 | exact SX.below (by assumption) hb4 | exact SX.below (by assumption) hb5 | exact SX.alloc (by assumption) _)
          ((first
            | (go_at_call_of 18 (Value.slice a0 k cap0); refine Calls.mono (of_take a0 cap0 l0 k _ (HB0.out.below_self (SX.bel (by assumption))) hn0) ?_; rintro e w2 ⟨rfl, hb2⟩)
            | (go_at_call_of 18 (Value.slice a1 k cap1); refine Calls.mono (of_take a1 cap1 l1 k _ (HB1.out.below_self (SX.bel (by assumption))) hn1) ?_; rintro e w3 ⟨rfl, hb3⟩)
            | (go_at_call_of 18 (Value.slice (some ⟨w1.heap.size, 0, none⟩) k k); refine Calls.mono (of_n (some ⟨w1.heap.size, 0, none⟩) k (List.zipWith (· ^^^ ·) (l0.take k) (l1.take k)) k _ (bts_block (SX.row (by assumption)) (xrow_full l0 l1 k hn0 hn1) (by simp; omega)) (by simp; omega)) ?_; rintro e w4 ⟨rfl, hb4⟩)
            | (go_at_call 18; with_reducible refine Calls.mono (of_zb (Nat.le_trans hn0 hb0) (ZB.new k w4)) ?_; rintro e w5 ⟨rfl, hb5⟩)
            | (go_at_call 18; with_reducible refine Calls.mono (of_zb (Nat.le_trans hn0 hb0) ((ZB.new k w3).below hb4)) ?_; rintro e w5 ⟨rfl, hb5⟩)
            | (go_at_call 18; with_reducible refine Calls.mono (of_zb (Nat.le_trans hn0 hb0) (((ZB.new k w2).below hb3).below hb4)) ?_; rintro e w5 ⟨rfl, hb5⟩)
            | (go_at_call 18; with_reducible refine Calls.mono (of_zb (Nat.le_trans hn0 hb0) ((((ZB.new k wr).drew.below hb2).below hb3).below hb4)) ?_; rintro e w5 ⟨rfl, hb5⟩)))
        all_goals
          have hlast := SX.bel (w := w) (g := w1.heap.size) (cs := xrow l0 l1 k k) (w' := w5) (by assumption)
          go_wp2
          go_ret
          exact ⟨ret_true (xor_int l0 l1 k hn0 hn1), hlast⟩

theorem sumXor_walk (a0 : Option Addr) (len0 cap0 : Nat) (z0 : List Int) (a1 : Option Addr) (len1 cap1 : Nat) (z1 : List Int) (w : World) (w0 : IsRow .u8 w a0 len0 cap0 z0) (r0 : cap0 * 1 ≤ 140737488351232)
    (w1 : IsRow .u8 w a1 len1 cap1 z1) (r1 : cap1 * 1 ≤ 140737488351232) :
    Calls Try.prog 9 #[.slice a0 len0 cap0, .slice a1 len1 cap1] w fun e w' => e = .returned (.bool true) ∧ Below w.heap.size w w' := by
  obtain ⟨l0, rfl, hB0, hn0, hlc0⟩ := bytes_of w0 r0
  obtain ⟨l1, rfl, hB1, hn1, hlc1⟩ := bytes_of w1 r1
  exact sumXor_core a0 cap0 l0 a1 cap1 l1 w hB0 hB1 hlc0 hlc1 (by omega) (by omega)
end Go.Proofs.Ytfmdgbleobodmaa.Walks
