/-
  The walks of the sums.
-/
import Derived.Test.YtdhidcoglioalaaRows
import Derived.Test.YtdhidcoglioalaaSumP
import Derived.Test.YtdhidcoglioalaaSumBits
import Derived.WalkKit
import Derived.Lib.Hide
import Derived.Deep.RegionWith
import Derived.Deep.QuietTactic
import Derived.BigQuiet
import Derived.Laws.Rows
import Derived.Laws.CopyOwn
import Derived.WalkSmall
namespace Go.Proofs.Ytdhidcoglioalaa.SumW
open Go.RowKit Math Bits

theorem ret_int {k : IntKind} {a b : Int} (h : a = b) : Ending.returned (.int k a) = .returned (.int k b) := by rw [h]
theorem val_int {k : IntKind} {a b : Int} (h : a = b) : Value.int k a = .int k b := by rw [h]

set_option maxHeartbeats 400000 in
theorem shift_any (x : W) (w : World) :
    Calls Try.prog 119 #[.int .u64 (x.toNat : Int)] w fun e w' => e = .returned (.int .u64 ((shN 8 x).toNat : Int)) ∧ w = w' := by
  go_enter Try.func119, Try.ntmps119
  go_wp2
  go_loop [0, 3] (fun s i => ∃ k : Nat, k ≤ 8 ∧ i = .int .i64 k ∧ s = .int .u64 ((shN k x).toNat : Int)) (fun _ i => 8 - (intOf i).toNat)
  case atStart => exact ⟨0, Nat.zero_le _, rfl, rfl⟩
  case round =>
    obtain ⟨k, hk, rfl, rfl⟩ := hrel
    go_wp2
    · go_round
      case rel => exact ⟨k + 1, by omega, by go_num, val_int (sh1_int _)⟩
      case measure => simp [intOf]; omega
    · have : k = 8 := by omega
      subst this
      go_ret
      exact ⟨rfl, rfl⟩

theorem ofInt_toNat (n : Int) (h0 : 0 ≤ n) (h1 : n < 18446744073709551616) : ((BitVec.ofInt 64 n).toNat : Int) = n := by
  obtain ⟨m, rfl⟩ := Int.eq_ofNat_of_zero_le h0
  rw [BitVec.ofInt_natCast, BitVec.toNat_ofNat]; omega

theorem shift_int (n : Int) (h0 : 0 ≤ n) (h1 : n < 4096) (w : World) :
    Calls Try.prog 119 #[.int .u64 n] w fun e w' => e = .returned (.int .u64 ((shN 8 (BitVec.ofInt 64 n)).toNat : Int)) ∧ w = w' := by
  have h := shift_any (BitVec.ofInt 64 n) w
  rw [ofInt_toNat n h0 (by omega)] at h
  exact h

/-- Sixteen numbers, the first k of which are set. -/
def arr (f : Nat → W) (k : Nat) : Array Value := Array.ofFn (n := 16) fun i => if i.val < k then .int .u64 ((f i.val).toNat : Int) else .int .u64 0

theorem arr_size (f : Nat → W) (k : Nat) : (arr f k).size = 16 := by simp [arr]
theorem arr_at (f : Nat → W) (k i : Nat) (h : i < 16) : (arr f k)[i]? = some (if i < k then .int .u64 ((f i).toNat : Int) else .int .u64 0) := by
  simp [arr, h]
theorem arr_step (f : Nat → W) (k : Nat) : (arr f k).setIfInBounds k (.int .u64 ((f k).toNat : Int)) = arr f (k + 1) := by
  apply Array.ext_getElem?
  intro i
  by_cases hi : i < 16
  · rw [arr_at _ _ _ hi, Array.getElem?_setIfInBounds, arr_at _ _ _ hi, arr_size]
    by_cases e : k = i
    · subst e; simp [hi]
    · simp only [e, if_false]
      by_cases h : i < k
      · simp [h, Nat.lt_succ_of_lt h]
      · rw [if_neg h, if_neg (by omega)]
  · rw [Array.getElem?_eq_none (by simp [arr]; omega), Array.getElem?_eq_none (by simp [arr]; omega)]

theorem arr_one (f : Nat → W) (k : Nat) : (arr f k).all (·.oneCell') = true := by
  rw [Array.all_eq_true]
  intro i hi
  simp only [arr, Array.getElem_ofFn]
  split <;> rfl
theorem setRow_id (w : World) (g : Nat) (cs : Array Value) (t : TypeId) (hg : w.heap[g]? = some (.cells cs t (0, 0))) : w.setRow g cs = w := by
  have : w.heap.modify g (fun | .cells _ elem frozen => .cells cs elem frozen | o => o) = w.heap := by
    apply Array.ext_getElem?
    intro i
    rw [Array.getElem?_modify]
    by_cases e : g = i
    · subst e; simp [hg]
    · simp [e]
  show { w with heap := w.heap.modify g _ } = w
  exact congrArg (fun h => { w with heap := h }) this

/-- The cells of a block. -/
def rowOf (w : World) (g : Nat) : Array Value := match w.heap[g]? with | some (.cells c _ _) => c | _ => #[]
/-- A block is an array of sixteen numbers. -/
def Row40 (w : World) (g : Nat) : Prop := w.heap[g]? = some (.cells (rowOf w g) 155 (0, 0)) ∧ (rowOf w g).size = 16 ∧ (rowOf w g).all (·.oneCell') = true
theorem rowOf_of {w : World} {g : Nat} {cs : Array Value} (h : w.heap[g]? = some (.cells cs 155 (0, 0))) : rowOf w g = cs := by simp [rowOf, h]
theorem row40_of {w : World} {g : Nat} {cs : Array Value} (h : w.heap[g]? = some (.cells cs 155 (0, 0))) (h1 : cs.size = 16) (h2 : cs.all (·.oneCell') = true) : Row40 w g := by
  have e := rowOf_of h
  exact ⟨by rw [e]; exact h, by rw [e]; exact h1, by rw [e]; exact h2⟩

theorem z40 : (Try.prog.info? 155).map (·.size) = some 16 := by kernel_rfl

theorem load40 {w : World} {g : Nat} (h : Row40 w g) : (Instr.loadAt 155 (.pointer (some ⟨g, 0, none⟩))).run Try.prog w = .ok (.agg (rowOf w g)) w := by
  simp only [Instr.loadAt, Instr.sureAddr, Sem.run_bind, Sem.run_pure, Result.andThen_ok]
  exact run_loadVar_row w g 155 155 _ (0, 0) _ h.1 Try.underlying155 rfl (by rw [h.2.1]; exact z40)
theorem store40 {w : World} {g : Nat} (h : Row40 w g) : (Instr.storeAt 155 (.pointer (some ⟨g, 0, none⟩)) (.agg (rowOf w g))).run Try.prog w = .ok () w := by
  simp only [Instr.storeAt, Instr.sureAddr, Sem.run_bind, Sem.run_pure, Result.andThen_ok]
  rw [run_storeVar_row w g 155 155 _ _ h.1 (by rw [h.2.1]; exact z40) rfl h.2.2, setRow_id w _ _ _ h.1]
def headOf : Value → Bool
  | .pointer (some ⟨_, 0, none⟩) => true
  | _ => false
def blockOf : Value → Nat
  | .pointer (some a) => a.block
  | _ => 0
theorem headOf_mk (g : Nat) : headOf (.pointer (some ⟨g, 0, none⟩)) = true := rfl
theorem blockOf_mk (g o : Nat) (s : Option Nat) : blockOf (.pointer (some ⟨g, o, s⟩)) = g := rfl
theorem head_eq {v : Value} (h : headOf v = true) : v = .pointer (some ⟨blockOf v, 0, none⟩) := by
  unfold headOf at h
  split at h
  · rfl
  · cases h
theorem exec_load40 {ρ : Operand → Value} {d : Option Tmp} {x : Operand} {t : TypeId} {p : String} {af : Array Edge} {gd : Option (Nat × Bool)} {w : World} (h1 : headOf (ρ x) = true) (h2 : Row40 w (blockOf (ρ x))) :
    (execOp ρ ⟨d, .load 155 x, t, p, af, gd⟩).run Try.prog w = .ok (.value (.agg (rowOf w (blockOf (ρ x))))) w := by
  have e := head_eq h1
  simp only [execOp]
  rw [e] at h2 ⊢
  simp only [blockOf_mk] at h2 ⊢
  simp [load40 h2, Result.andThen]
theorem exec_store40 {ρ : Operand → Value} {d : Option Tmp} {x y : Operand} {t : TypeId} {p : String} {af : Array Edge} {gd : Option (Nat × Bool)} {w : World} (h1 : headOf (ρ x) = true) (h2 : Row40 w (blockOf (ρ x))) (h3 : ρ y = .agg (rowOf w (blockOf (ρ x)))) :
    (execOp ρ ⟨d, .store 155 x y, t, p, af, gd⟩).run Try.prog w = .ok .skip w := by
  have e := head_eq h1
  simp only [execOp]
  rw [h3, e] at *
  simp only [blockOf_mk] at h2 ⊢
  simp [store40 h2, Result.andThen]
/-- Sixteen cells. -/
def is16 (v : Value) : Prop := v = .agg v.cells ∧ v.cells.size = 16 ∧ v.cells.all (·.oneCell') = true
theorem exec_store40' {ρ : Operand → Value} {d : Option Tmp} {x y : Operand} {t : TypeId} {p : String} {af : Array Edge} {gd : Option (Nat × Bool)} {w : World} (h1 : headOf (ρ x) = true) (h2 : Row40 w (blockOf (ρ x))) (h3 : is16 (ρ y)) :
    (execOp ρ ⟨d, .store 155 x y, t, p, af, gd⟩).run Try.prog w = .ok .skip (w.setRow (blockOf (ρ x)) (ρ y).cells) := by
  have e := head_eq h1
  simp only [execOp]
  obtain ⟨h3, h4, h5⟩ := h3
  rw [e] at h2 ⊢
  rw [h3]
  simp only [blockOf_mk] at h2 ⊢
  have := run_storeVar_row (P := Try.prog) w (blockOf (ρ x)) 155 155 _ (ρ y).cells h2.1 (by rw [h4]; exact z40) (by rw [h2.2.1, h4]) h5
  simp [Instr.storeAt, Instr.sureAddr, this, Result.andThen]
  rfl
theorem is16_arr (f : Nat → W) (k : Nat) : is16 (.agg (arr f k)) := ⟨rfl, arr_size _ _, arr_one _ _⟩
attribute [local go_sem] headOf_mk blockOf_mk blockOf_mk
attribute [local go_sem ↓] exec_load40 exec_store40

set_option maxHeartbeats 400000 in
theorem halves_any (w : World) :
    Calls Try.prog 112 #[] w fun e w' => e = .returned (.tuple #[.agg (arr lo 16), .agg (arr hi 16)]) ∧ Below w.heap.size w w' := by
  go_enter Try.func112, Try.ntmps112
  go_wp2
  go_loopw [3] (fun i wr => ∃ k : Nat, k ≤ 16 ∧ i = .int .i64 k ∧ wr.heap[w.heap.size]? = some (.cells (arr lo k) 155 (0, 0)) ∧ wr.heap[w.heap.size + 1]? = some (.cells (arr hi k) 155 (0, 0)) ∧ Below w.heap.size w wr)
    (fun i _ => 16 - (intOf i).toNat)
  case atStart =>
    refine ⟨0, by omega, rfl, ?_, ?_, ((Below.refl _ _).alloc (Nat.le_refl _) _).alloc (by simp) _⟩
    · rw [heap_alloc2_old]; rfl
    · rw [heap_alloc2_new]; rfl
  case round =>
    obtain ⟨k, hk, rfl, hl, hh, hb⟩ := hrel
    have H := Lib.hid hl
    have H2 := Lib.hid hh
    clear hl hh
    go_wp2
    · have hlt : (k : Int) < 16 := by assumption
      have c1 : wr.cell? ⟨w.heap.size, k, none⟩ = some (.int .u64 0) := by
        rw [cell_of_row _ _ _ _ _ _ H.out, arr_at _ _ _ (by omega), if_neg (by omega)]
      have c2 : wr.cell? ⟨w.heap.size + 1, k, none⟩ = some (.int .u64 0) := by
        rw [cell_of_row _ _ _ _ _ _ H2.out, arr_at _ _ _ (by omega), if_neg (by omega)]
      have f1 : wr.frozen? ⟨w.heap.size, k, none⟩ = false := frozen_of_row _ _ _ _ _ H.out
      have f2 : wr.frozen? ⟨w.heap.size + 1, k, none⟩ = false := frozen_of_row _ _ _ _ _ H2.out
      have e1 : IntKind.u64.wrap (k : Int) = (k : Int) := by rw [IntKind.wrap_u64]; omega
      have e2 : IntKind.u64.wrap ((k : Int) * 16) = (k : Int) * 16 := by rw [IntKind.wrap_u64]; omega
      go_region_with (first | (go_at_call 119; refine (shift_int _ (by clear e1 e2; omega) (by clear e1 e2; omega) _).mono ?_; rintro e w' ⟨rfl, rfl⟩))
      all_goals clear e1 e2
      go_wp2
      go_roundw
      case rel =>
        have g1 : ((wr.setCell ⟨w.heap.size, k, none⟩ (.int .u64 ((lo k).toNat : Int))).setCell ⟨w.heap.size + 1, k, none⟩ (.int .u64 ((hi k).toNat : Int))).heap[w.heap.size]? = some (.cells (arr lo (k + 1)) 155 (0, 0)) := by
          rw [heap_setCell_other _ _ _ _ (by simp), heap_setCell_same _ _ _ _ _ _ H.out, arr_step]
        have g2 : ((wr.setCell ⟨w.heap.size, k, none⟩ (.int .u64 ((lo k).toNat : Int))).setCell ⟨w.heap.size + 1, k, none⟩ (.int .u64 ((hi k).toNat : Int))).heap[w.heap.size + 1]? = some (.cells (arr hi (k + 1)) 155 (0, 0)) := by
          rw [heap_setCell_same _ _ _ (arr hi k) 155 _ (by rw [heap_setCell_other _ _ _ _ (by simp)]; exact H2.out), arr_step]
        exact ⟨k + 1, by omega, by go_num, g1, g2, ((hb.setCell (by simp) _).setCell (by simp) _).drew⟩
      case measure => simp [intOf]; omega
    · have : k = 16 := by omega
      subst this
      have a1 : Row40 wr.drew w.heap.size := row40_of H.out (arr_size _ _) (arr_one _ _)
      have a2 : Row40 wr.drew (w.heap.size + 1) := row40_of H2.out (arr_size _ _) (arr_one _ _)
      go_region
      go_wp2
      have r1 := run_loadVar_row (P := Try.prog) wr.drew w.heap.size 155 155 (arr lo 16) (0, 0) _ H.out Try.underlying155 rfl (by rw [arr_size]; exact z40)
      have r2 := run_loadVar_row (P := Try.prog) wr.drew (w.heap.size + 1) 155 155 (arr hi 16) (0, 0) _ H2.out Try.underlying155 rfl (by rw [arr_size]; exact z40)
      exact bodyPost_ret (v := .tuple #[.agg (arr lo 16), .agg (arr hi 16)]) (by simp [results, Try.results112, asAddr, r1, r2, Result.andThen]) rfl ⟨rfl, hb.drew⟩
/-- Bytes lie in memory. -/
def Bts (w : World) (a : Option Addr) (l : List (BitVec 8)) : Prop :=
  l.length ≤ 9223372036854775807 ∧ (l = [] ∨ ∃ b off, a = some ⟨b, off, none⟩ ∧ ∀ i (h : i < l.length), w.cell? ⟨b, off + i, none⟩ = some (.int .u8 (l[i].toNat : Int)))

theorem Bts.at_lt {w : World} {a : Option Addr} {l : List (BitVec 8)} (h : Bts w a l) {k : Nat} (hk : k < l.length) :
    ∃ b off, a = some ⟨b, off, none⟩ ∧ b < w.heap.size ∧ ∀ i (h : i < l.length), w.cell? ⟨b, off + i, none⟩ = some (.int .u8 (l[i].toNat : Int)) := by
  rcases h.2 with rfl | ⟨b, off, ha, hc⟩
  · simp at hk
  · exact ⟨b, off, ha, block_lt_of_cell (hc k hk), hc⟩
theorem Bts.below {w w' : World} {B : Nat} {a : Option Addr} {l : List (BitVec 8)} (h : Bts w a l) (hb : Below B w w') (ha : ∀ x, a = some x → x.block < B) : Bts w' a l := by
  refine ⟨h.1, ?_⟩
  rcases h.2 with rfl | ⟨b, off, rfl, hc⟩
  · exact .inl rfl
  · exact .inr ⟨b, off, rfl, fun i hi => (hb.cell (p := ⟨b, off + i, none⟩) (ha ⟨b, off, none⟩ rfl)).trans (hc i hi)⟩
theorem Bts.below_self {w w' : World} {a : Option Addr} {l : List (BitVec 8)} (h : Bts w a l) (hb : Below w.heap.size w w') : Bts w' a l := by
  refine ⟨h.1, ?_⟩
  rcases h.2 with rfl | ⟨b, off, rfl, hc⟩
  · exact .inl rfl
  · exact .inr ⟨b, off, rfl, fun i hi => (hb.cell (by exact block_lt_of_cell (hc i hi))).trans (hc i hi)⟩

attribute [local go_sem] headOf_mk blockOf_mk
attribute [local go_sem ↓] exec_load40 exec_store40'

abbrev Z16 : Array Value := #[.int .u64 0, .int .u64 0, .int .u64 0, .int .u64 0, .int .u64 0, .int .u64 0, .int .u64 0, .int .u64 0, .int .u64 0, .int .u64 0, .int .u64 0, .int .u64 0, .int .u64 0, .int .u64 0, .int .u64 0, .int .u64 0]

theorem Z16_one : Z16.all (·.oneCell') = true := by decide +kernel

theorem setRow_block (w : World) (g k : Nat) (cs : Array Value) (h : k ≠ g) : (w.setRow g cs).heap[k]? = w.heap[k]? := setRow_other w g k cs h

set_option maxHeartbeats 400000 in
theorem add_any (s : W) (a : Option Addr) (cap : Nat) (l : List (BitVec 8)) (w : World) (hB : Bts w a l) :
    Calls Try.prog 100 #[.int .u64 (s.toNat : Int), .slice a l.length cap] w fun e w' => e = .returned (.int .u64 ((sumFrom s l).toNat : Int)) ∧ Below w.heap.size w w' := by
  have hm := hB.1
  have HB := Lib.hid hB
  clear hB
  go_enter Try.func100, Try.ntmps100
  go_wp2_with fail
  refine (halves_any _).mono ?_
  rintro e w1 ⟨rfl, hb⟩
  have i1 := is16_arr lo 16
  have i2 := is16_arr hi 16
  have q1 : ((w1.alloc (.cells Z16 155)).alloc (.cells Z16 155)).heap[w1.heap.size]? = some (.cells Z16 155 (0, 0)) := heap_alloc2_old _ _ _
  have q2 : ((w1.alloc (.cells Z16 155)).alloc (.cells Z16 155)).heap[w1.heap.size + 1]? = some (.cells Z16 155 (0, 0)) := heap_alloc2_new _ _ _
  have a1 : Row40 ((w1.alloc (.cells Z16 155)).alloc (.cells Z16 155)) w1.heap.size := row40_of q1 rfl Z16_one
  have a2 : Row40 (((w1.alloc (.cells Z16 155)).alloc (.cells Z16 155)).setRow w1.heap.size (arr lo 16)) (w1.heap.size + 1) :=
    row40_of (by rw [setRow_block _ _ _ _ (by omega)]; exact q2) rfl Z16_one
  have hsz := hb.size
  have HQ1 := Lib.hid q1
  have HQ2 := Lib.hid q2
  clear q1 q2
  go_wp2_with fail
  rw [notU]
  obtain ⟨t, ht⟩ : ∃ t, t = ~~~s := ⟨_, rfl⟩
  rw [← ht]
  have HT := Lib.hid ht
  clear ht
  go_loopw [7, 19] (fun st i wr => ∃ k : Nat, k ≤ l.length ∧ i = .int .i64 k ∧ st = .int .u64 ((addL t (l.take k)).toNat : Int) ∧
      wr.heap[w1.heap.size]? = some (.cells (arr lo 16) 155 (0, 0)) ∧ wr.heap[w1.heap.size + 1]? = some (.cells (arr hi 16) 155 (0, 0)) ∧ Below w.heap.size w wr)
    (fun _ i _ => l.length - (intOf i).toNat)
  case atStart =>
    refine ⟨0, by omega, rfl, rfl, ?_, ?_, ?_⟩
    · rw [setRow_block _ _ _ _ (by omega)]
      exact setRow_heap _ _ Z16 _ _ _ HQ1.out
    · refine setRow_heap _ _ Z16 _ _ _ ?_
      rw [setRow_block _ _ _ _ (by omega)]
      exact HQ2.out
    · exact below_setRow (below_setRow ((hb.alloc (by exact hsz) _).alloc (by simp; omega) _) (by omega) _) (by omega) _
  case round =>
    obtain ⟨k, hk, rfl, rfl, hl, hh, hbel⟩ := hrel
    clear a1 a2 i1 i2
    have H1 := Lib.hid hl
    have H2 := Lib.hid hh
    clear hl hh
    by_cases hlt : k < l.length
    · obtain ⟨b, off, rfl, hb0, hc⟩ := HB.out.at_lt hlt
      have hcell : wr.cell? ⟨b, off + k, none⟩ = some (.int .u8 (l[k].toNat : Int)) := (hbel.cell (by exact hb0)).trans (hc k hlt)
      clear hc
      generalize hS : addL t (l.take k) = S
      have HS := Lib.hid hS
      clear hS
      go_wp2_with fail
      rw [byteXor]
      obtain ⟨y, hy⟩ : ∃ y, y = S.setWidth 8 ^^^ l[k] := ⟨_, rfl⟩
      rw [← hy]
      have HY := Lib.hid hy
      clear hy
      have hylt := y.isLt
      have c1 : wr.cell? ⟨w1.heap.size, y.toNat % 16, none⟩ = some (.int .u64 ((lo (y.toNat % 16)).toNat : Int)) := by
        rw [cell_of_row _ _ _ _ _ _ H1.out, arr_at _ _ _ (by omega), if_pos (by omega)]
      have c2 : wr.cell? ⟨w1.heap.size + 1, y.toNat / 16, none⟩ = some (.int .u64 ((hi (y.toNat / 16)).toNat : Int)) := by
        rw [cell_of_row _ _ _ _ _ _ H2.out, arr_at _ _ _ (by omega), if_pos (by omega)]
      have q15 : bits .and .u8 (y.toNat : Int) 15 = (y.toNat : Int) % 16 := u8_and15 _ (by omega) (by omega)
      have b1 : (y.toNat : Int) % 16 < 16 := by omega
      have b2 : 0 ≤ (y.toNat : Int) % 16 := by omega
      have b3 : (y.toNat : Int) / 16 < 16 := by omega
      have b4 : 0 ≤ (y.toNat : Int) / 16 := by omega
      have t1 : ((y.toNat : Int) % 16).toNat = y.toNat % 16 := by omega
      have t2 : ((y.toNat : Int) / 16).toNat = y.toNat / 16 := by omega
      go_quiet (fail)
      go_wp2
      go_roundw
      case rel => exact ⟨k + 1, by omega, by go_num, val_int (by rw [add_step_int S l[k] y HY.out, addL_take_succ _ _ _ hlt, HS.out]), H1.out, H2.out, below_drewN hbel nq⟩
      case measure => simp [intOf]; omega
    · go_wp2
      rw [notU]
      go_ret
      exact ⟨ret_int (by rw [List.take_of_length_le (by omega), HT.out]; rfl), hbel⟩

set_option maxHeartbeats 400000 in
theorem of_any (a : Option Addr) (cap : Nat) (l : List (BitVec 8)) (w : World) (hB : Bts w a l) :
    Calls Try.prog 91 #[.slice a l.length cap] w fun e w' => e = .returned (.int .u64 ((sumOf l).toNat : Int)) ∧ Below w.heap.size w w' := by
  have HB := Lib.hid hB
  clear hB
  go_enter Try.func91, Try.ntmps91
  go_wp2_with fail
  refine (add_any 0#64 a cap l _ HB.out).mono ?_
  rintro e w' ⟨rfl, hb⟩
  go_wp2
  go_ret
  exact ⟨rfl, hb⟩

end Go.Proofs.Ytdhidcoglioalaa.SumW
