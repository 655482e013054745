/-
  Small helpers of the laws: Bring, the comparisons, a sector full of a byte.
  The walks of the sums.
-/
import Derived.Test.YtdhidcoglioalaaGreatM10
import Derived.Laws.OwnMore
import Derived.Test.YtdhidcoglioalaaGreatRows
import Derived.Test.YtdhidcoglioalaaGreatM05
import Derived.Test.YtdhidcoglioalaaGreatM09
import Derived.WalkKit
import Derived.Lib.Hide
import Derived.Deep.RegionWith
import Derived.Deep.QuietTactic
import Derived.BigQuiet
import Derived.Laws.Rows
import Derived.Laws.CopyOwn
import Derived.WalkSmall
namespace Go.Proofs.YtdhidcoglioalaaGreat.Walks
open Go.RowKit Plain
set_option linter.unusedVariables false
attribute [local go_sem ↓] exec_load88 exec_store88 exec_alloc88
attribute [local go_sem] isPt_mk adOf_mk isSec_mk sOf_mk alloc_setCells is_new at_new room_new is_past at_past room_past is_drew at_drew room_drew setCells_past setCells_size setCells_drew

theorem bring_eq (i : Int) {n : Int} (h : 0 < n) : (if i.tmod n < 0 then i.tmod n + n else i.tmod n) = i % n := by
  have h1 : i % n = (i.tmod n) % n := by
    conv => lhs; rw [← Int.tmod_add_mul_tdiv i n]
    rw [Int.add_mul_emod_self_left]
  have h2 : i.tmod n < n := Int.tmod_lt_of_pos _ h
  have h3 : -n < i.tmod n := by
    have := Int.tmod_lt_of_pos (-i) h
    rw [Int.neg_tmod] at this
    omega
  rw [h1]
  split
  · have : (i.tmod n + n) % n = i.tmod n % n := Int.add_emod_right _ _
    rw [← this, Int.emod_eq_of_lt (by omega) (by omega)]
  · rw [Int.emod_eq_of_lt (by omega) (by omega)]
set_option maxHeartbeats 400000 in
theorem bring_any (i n : Int) (w : World) (h0 : 0 < n) (h1 : n ≤ 4611686018427387904) :
    Calls Tryz.prog 36 #[.int .i64 i, .int .i64 n] w fun e w' => e = .returned (.int .i64 (i % n)) ∧ w = w' := by
  have q1 : ¬ n ≤ 0 := by omega
  have q2 : i.tmod n < n := Int.tmod_lt_of_pos _ h0
  have q3 : -n < i.tmod n := by
    have := Int.tmod_lt_of_pos (-i) h0
    rw [Int.neg_tmod] at this
    omega
  have HE := Lib.hid (bring_eq i h0)
  by_cases hs : i.tmod n < 0
  · go_enter Tryz.func36, Tryz.ntmps36
    go_wp2
    all_goals
      go_ret
      exact ⟨ret_int (by rw [← HE.out]; omega), rfl⟩
  · go_enter Tryz.func36, Tryz.ntmps36
    go_wp2
    all_goals
      go_ret
      exact ⟨ret_int (by rw [← HE.out]; omega), rfl⟩
set_option maxHeartbeats 1000000 in
theorem eqInts_any (a a' : Option Addr) (cap cap' : Nat) (l l' : List Int) (w : World) (hB : Ints w a l) (hB' : Ints w a' l') :
    Calls Tryz.prog 89 #[.slice a l.length cap, .slice a' l'.length cap'] w fun e w' => e = .returned (.bool (decide (l = l'))) ∧ Below w.heap.size w w' := by
  by_cases hlen : l.length = l'.length
  · have hm := hB.1
    have H := Lib.hid hB
    have H' := Lib.hid hB'
    obtain ⟨n, hn⟩ : ∃ n, n = l.length := ⟨_, rfl⟩
    have hn' : n = l'.length := by omega
    rw [← hn, ← hn']
    have e1 : l.length = n := by omega
    have e2 : l'.length = n := by omega
    have E1 := Lib.hid e1
    have E2 := Lib.hid e2
    have hm' : n ≤ 9223372036854775807 := by omega
    clear hB hB' hlen hn hn' e1 e2 hm
    go_enter Tryz.func89, Tryz.ntmps89
    go_wp2_with fail
    go_loopw [5] (fun i wr => ∃ k : Nat, k ≤ n ∧ i = .int .i64 k ∧ Hid (l.take k = l'.take k) ∧ Below w.heap.size w wr) (fun i _ => n - (RowKit.intOf i).toNat)
    case atStart => exact ⟨0, by omega, rfl, Lib.hid (by simp), Below.refl _ _⟩
    case round =>
      obtain ⟨k, hk, rfl, HK, hb⟩ := hrel
      by_cases hlt : k < n
      · have hk1 : k < l.length := by rw [E1.out]; exact hlt
        have hk2 : k < l'.length := by rw [E2.out]; exact hlt
        obtain ⟨b, off, rfl, hb0, hc⟩ := H.out.at_lt hk1
        obtain ⟨b', off', rfl, hb0', hc'⟩ := H'.out.at_lt hk2
        obtain ⟨x, hx⟩ : ∃ x, x = l[k] := ⟨_, rfl⟩
        obtain ⟨y, hy⟩ : ∃ y, y = l'[k] := ⟨_, rfl⟩
        have hcell : wr.cell? ⟨b, off + k, none⟩ = some (.int .i64 x) := by rw [hx]; exact (hb.cell (by exact hb0)).trans (hc k hk1)
        have hcell' : wr.cell? ⟨b', off' + k, none⟩ = some (.int .i64 y) := by rw [hy]; exact (hb.cell (by exact hb0')).trans (hc' k hk2)
        have HX := Lib.hid hx
        have HY := Lib.hid hy
        have HK1 := Lib.hid hk1
        have HK2 := Lib.hid hk2
        clear hc hc' hx hy
        by_cases hxy : x = y
        · have hq : (x != y) = false := by simp [hxy]
          have HXY := Lib.hid hxy
          clear hxy
          go_wp2_with fail
          go_quiet (fail)
          go_wp2
          go_roundw
          case rel => exact ⟨k + 1, by omega, by go_num, Lib.hid (by rw [List.take_succ_eq_append_getElem HK1.out, List.take_succ_eq_append_getElem HK2.out, HK.out, ← HX.out, ← HY.out, HXY.out]), below_drewN hb _⟩
          case measure => simp [RowKit.intOf]; omega
        · have hq : (x != y) = true := by simp [hxy]
          have HXY := Lib.hid hxy
          clear hxy
          go_wp2_with fail
          go_quiet (fail)
          go_wp2
          go_ret
          refine ⟨ret_bool ?_, below_drewN hb _⟩
          rw [eq_comm, decide_eq_false_iff_not]
          rintro rfl
          exact HXY.out (HX.out.trans HY.out.symm)
      · go_wp2
        go_ret
        refine ⟨ret_bool ?_, hb⟩
        have := HK.out
        rw [List.take_of_length_le (by rw [E1.out]; omega), List.take_of_length_le (by rw [E2.out]; omega)] at this
        rw [eq_comm, decide_eq_true_eq]; exact this
  · have hq : ((l.length : Int) != (l'.length : Int)) = true := by simp; omega
    have HL := Lib.hid hlen
    clear hlen hB hB'
    go_enter Tryz.func89, Tryz.ntmps89
    go_wp2
    go_ret
    refine ⟨ret_bool ?_, Below.refl _ _⟩
    rw [eq_comm, decide_eq_false_iff_not]
    rintro rfl
    exact HL.out rfl
set_option maxHeartbeats 1000000 in
theorem eqBytes_any (a a' : Option Addr) (cap cap' : Nat) (l l' : List Byte) (w : World) (hB : Bys w a l) (hB' : Bys w a' l') :
    Calls Tryz.prog 65 #[.slice a l.length cap, .slice a' l'.length cap'] w fun e w' => e = .returned (.bool (decide (l = l'))) ∧ Below w.heap.size w w' := by
  by_cases hlen : l.length = l'.length
  · have hm := hB.1
    have H := Lib.hid hB
    have H' := Lib.hid hB'
    obtain ⟨n, hn⟩ : ∃ n, n = l.length := ⟨_, rfl⟩
    have hn' : n = l'.length := by omega
    rw [← hn, ← hn']
    have e1 : l.length = n := by omega
    have e2 : l'.length = n := by omega
    have E1 := Lib.hid e1
    have E2 := Lib.hid e2
    have hm' : n ≤ 9223372036854775807 := by omega
    clear hB hB' hlen hn hn' e1 e2 hm
    go_enter Tryz.func65, Tryz.ntmps65
    go_wp2_with fail
    go_loopw [5] (fun i wr => ∃ k : Nat, k ≤ n ∧ i = .int .i64 k ∧ Hid (l.take k = l'.take k) ∧ Below w.heap.size w wr) (fun i _ => n - (RowKit.intOf i).toNat)
    case atStart => exact ⟨0, by omega, rfl, Lib.hid (by simp), Below.refl _ _⟩
    case round =>
      obtain ⟨k, hk, rfl, HK, hb⟩ := hrel
      by_cases hlt : k < n
      · have hk1 : k < l.length := by rw [E1.out]; exact hlt
        have hk2 : k < l'.length := by rw [E2.out]; exact hlt
        obtain ⟨b, off, rfl, hb0, hc⟩ := H.out.at_lt hk1
        obtain ⟨b', off', rfl, hb0', hc'⟩ := H'.out.at_lt hk2
        obtain ⟨x, hx⟩ : ∃ x, x = l[k] := ⟨_, rfl⟩
        obtain ⟨y, hy⟩ : ∃ y, y = l'[k] := ⟨_, rfl⟩
        have hcell : wr.cell? ⟨b, off + k, none⟩ = some (.int .u8 (x.toNat : Int)) := by rw [hx]; exact (hb.cell (by exact hb0)).trans (hc k hk1)
        have hcell' : wr.cell? ⟨b', off' + k, none⟩ = some (.int .u8 (y.toNat : Int)) := by rw [hy]; exact (hb.cell (by exact hb0')).trans (hc' k hk2)
        have HX := Lib.hid hx
        have HY := Lib.hid hy
        have HK1 := Lib.hid hk1
        have HK2 := Lib.hid hk2
        clear hc hc' hx hy
        by_cases hxy : x = y
        · have hq : ((x.toNat : Int) != (y.toNat : Int)) = false := by simp [hxy]
          have HXY := Lib.hid hxy
          clear hxy
          go_wp2_with fail
          go_quiet (fail)
          go_wp2
          go_roundw
          case rel => exact ⟨k + 1, by omega, by go_num, Lib.hid (by rw [List.take_succ_eq_append_getElem HK1.out, List.take_succ_eq_append_getElem HK2.out, HK.out, ← HX.out, ← HY.out, HXY.out]), below_drewN hb _⟩
          case measure => simp [RowKit.intOf]; omega
        · have hq : ((x.toNat : Int) != (y.toNat : Int)) = true := by simp; exact fun e => hxy (BitVec.eq_of_toNat_eq (by omega))
          have HXY := Lib.hid hxy
          clear hxy
          go_wp2_with fail
          go_quiet (fail)
          go_wp2
          go_ret
          refine ⟨ret_bool ?_, below_drewN hb _⟩
          rw [eq_comm, decide_eq_false_iff_not]
          rintro rfl
          exact HXY.out (HX.out.trans HY.out.symm)
      · go_wp2
        go_ret
        refine ⟨ret_bool ?_, hb⟩
        have := HK.out
        rw [List.take_of_length_le (by rw [E1.out]; omega), List.take_of_length_le (by rw [E2.out]; omega)] at this
        rw [eq_comm, decide_eq_true_eq]; exact this
  · have hq : ((l.length : Int) != (l'.length : Int)) = true := by simp; omega
    have HL := Lib.hid hlen
    clear hlen hB hB'
    go_enter Tryz.func65, Tryz.ntmps65
    go_wp2
    go_ret
    refine ⟨ret_bool ?_, Below.refl _ _⟩
    rw [eq_comm, decide_eq_false_iff_not]
    rintro rfl
    exact HL.out rfl

/-! ### A sector full of a byte -/
def fillS (b : Byte) (k : Nat) : Sec := fun j => if j < k then b else 0
def oneS (b : Byte) : Sec := fun _ => b
theorem fill_step (b : Byte) (k : Nat) : (secC (fillS b k)).setIfInBounds k (.int .u8 (b.toNat : Int)) = secC (fillS b (k + 1)) := by
  have := secC_set (fillS b k) (k := k) b
  rw [show (.int .u8 (b.toNat : Int) : Value) = byteV b from rfl, this]
  congr 1
  funext j
  unfold upd fillS
  by_cases e : j = k
  · subst e; simp
  · rw [if_neg e]
    by_cases h : j < k
    · rw [if_pos h, if_pos (by omega)]
    · rw [if_neg h, if_neg (by omega)]
theorem fill_zero (b : Byte) : secC (fillS b 0) = secC zeroS := secC_congr fun j _ => by simp [fillS, zeroS]
theorem fill_end (b : Byte) : secC (fillS b 64) = secC (oneS b) := secC_congr fun j hj => by simp [fillS, oneS, hj]
theorem info5 : (Tryz.prog.info? 5).map (fun i => (i.size, i.bytes)) = some (1, 1) := by kernel_rfl
theorem info5z : (Tryz.prog.info? 5).map (·.zero) = some (some (.int .u8 0)) := by kernel_rfl
theorem make64 (w : World) : (Instr.makeSlice 23 (.int .i64 64) (.int .i64 64)).run Tryz.prog w = .ok (.slice (some ⟨w.heap.size, 0, none⟩) 64 64) (w.alloc (.cells (secC zeroS) 5)) := by
  cases hi : Tryz.prog.info? 5 with
  | none => have := info5; rw [hi] at this; cases this
  | some i =>
    have := info5
    rw [hi] at this
    simp only [Option.map_some, Option.some.injEq, Prod.mk.injEq] at this
    obtain ⟨e1, e2⟩ := this
    have hz : i.zero = some (.int .u8 0) := by
      have hz := info5z
      rw [hi] at hz
      exact Option.some.inj hz
    have := run_makeSlice w 23 5 i (.int .u8 0) Tryz.underlying23 hi hz .i64 .i64 64 64 (by omega) (by omega) (by rw [e1]; simp) (by rw [e2]; omega) (by omega)
    rw [e1] at this
    have e : madeCells (Value.int IntKind.u8 0).cells (Int.toNat 64 * 1) = secC zeroS := by
      rw [zeroC]
      apply Array.ext'
      show (madeCells #[.int .u8 0] 64).toList = _
      rw [toList_madeCells_one]
      simp
    rw [e] at this
    exact this
theorem bys_sec {w : World} {g : Nat} {s : Sec} {t : TypeId} (h : w.heap[g]? = some (.cells (secC s) t (0, 0))) : Bys w (some ⟨g, 0, none⟩) (bytesOf s) := by
  refine ⟨by rw [bytesOf_length]; omega, .inr ⟨g, 0, rfl, fun i hi => ?_⟩⟩
  rw [bytesOf_length] at hi
  rw [cell_of_row _ _ _ _ _ _ h]
  simp [secC, secL_get _ hi, bytesOf]
theorem secOf_bytes (s : Sec) : secL (secOf (bytesOf s)) = secL s := secL_congr fun j hj => by
  simp [secOf, bytesOf, List.getD_eq_getElem?_getD, hj]
/-- Is a sector full of a byte. -/
def hasB (P : Pl) (i : Int) (b : Byte) : Bool := decide (P.has i = 0) && decide (bytesOf (P.seen i.toNat) = bytesOf (oneS b))
end Go.Proofs.YtdhidcoglioalaaGreat.Walks
namespace Go.Proofs.YtdhidcoglioalaaGreat.SumW
open Go.RowKit Math Bits

theorem ret_int {k : IntKind} {a b : Int} (h : a = b) : Ending.returned (.int k a) = .returned (.int k b) := by rw [h]
theorem val_int {k : IntKind} {a b : Int} (h : a = b) : Value.int k a = .int k b := by rw [h]

set_option maxHeartbeats 400000 in
theorem shift_any (x : W) (w : World) :
    Calls Tryz.prog 118 #[.int .u64 (x.toNat : Int)] w fun e w' => e = .returned (.int .u64 ((shN 8 x).toNat : Int)) ∧ w = w' := by
  go_enter Tryz.func118, Tryz.ntmps118
  go_wp2
  go_loop [0, 3] (fun s i => ∃ k : Nat, k ≤ 8 ∧ i = .int .i64 k ∧ s = .int .u64 ((shN k x).toNat : Int)) (fun _ i => 8 - (intOf i).toNat)
  case atStart => exact ⟨0, Nat.zero_le _, rfl, rfl⟩
  case round =>
    obtain ⟨k, hk, rfl, rfl⟩ := hrel
    go_wp2
    · go_round
      case rel => exact ⟨k + 1, by omega, by go_num, val_int (sh1_int _)⟩
      case measure => simp [intOf]; omega
    · have : k = 8 := by omega
      subst this
      go_ret
      exact ⟨rfl, rfl⟩

theorem ofInt_toNat (n : Int) (h0 : 0 ≤ n) (h1 : n < 18446744073709551616) : ((BitVec.ofInt 64 n).toNat : Int) = n := by
  obtain ⟨m, rfl⟩ := Int.eq_ofNat_of_zero_le h0
  rw [BitVec.ofInt_natCast, BitVec.toNat_ofNat]; omega

theorem shift_int (n : Int) (h0 : 0 ≤ n) (h1 : n < 4096) (w : World) :
    Calls Tryz.prog 118 #[.int .u64 n] w fun e w' => e = .returned (.int .u64 ((shN 8 (BitVec.ofInt 64 n)).toNat : Int)) ∧ w = w' := by
  have h := shift_any (BitVec.ofInt 64 n) w
  rw [ofInt_toNat n h0 (by omega)] at h
  exact h

/-- Sixteen numbers, the first k of which are set. -/
def arr (f : Nat → W) (k : Nat) : Array Value := Array.ofFn (n := 16) fun i => if i.val < k then .int .u64 ((f i.val).toNat : Int) else .int .u64 0

theorem arr_size (f : Nat → W) (k : Nat) : (arr f k).size = 16 := by simp [arr]
theorem arr_at (f : Nat → W) (k i : Nat) (h : i < 16) : (arr f k)[i]? = some (if i < k then .int .u64 ((f i).toNat : Int) else .int .u64 0) := by
  simp [arr, h]
theorem arr_step (f : Nat → W) (k : Nat) : (arr f k).setIfInBounds k (.int .u64 ((f k).toNat : Int)) = arr f (k + 1) := by
  apply Array.ext_getElem?
  intro i
  by_cases hi : i < 16
  · rw [arr_at _ _ _ hi, Array.getElem?_setIfInBounds, arr_at _ _ _ hi, arr_size]
    by_cases e : k = i
    · subst e; simp [hi]
    · simp only [e, if_false]
      by_cases h : i < k
      · simp [h, Nat.lt_succ_of_lt h]
      · rw [if_neg h, if_neg (by omega)]
  · rw [Array.getElem?_eq_none (by simp [arr]; omega), Array.getElem?_eq_none (by simp [arr]; omega)]

theorem arr_one (f : Nat → W) (k : Nat) : (arr f k).all (·.oneCell') = true := by
  rw [Array.all_eq_true]
  intro i hi
  simp only [arr, Array.getElem_ofFn]
  split <;> rfl
theorem setRow_id (w : World) (g : Nat) (cs : Array Value) (t : TypeId) (hg : w.heap[g]? = some (.cells cs t (0, 0))) : w.setRow g cs = w := by
  have : w.heap.modify g (fun | .cells _ elem frozen => .cells cs elem frozen | o => o) = w.heap := by
    apply Array.ext_getElem?
    intro i
    rw [Array.getElem?_modify]
    by_cases e : g = i
    · subst e; simp [hg]
    · simp [e]
  show { w with heap := w.heap.modify g _ } = w
  exact congrArg (fun h => { w with heap := h }) this

/-- The cells of a block. -/
def rowOf (w : World) (g : Nat) : Array Value := match w.heap[g]? with | some (.cells c _ _) => c | _ => #[]
/-- A block is an array of sixteen numbers. -/
def Row40 (w : World) (g : Nat) : Prop := w.heap[g]? = some (.cells (rowOf w g) 132 (0, 0)) ∧ (rowOf w g).size = 16 ∧ (rowOf w g).all (·.oneCell') = true
theorem rowOf_of {w : World} {g : Nat} {cs : Array Value} (h : w.heap[g]? = some (.cells cs 132 (0, 0))) : rowOf w g = cs := by simp [rowOf, h]
theorem row40_of {w : World} {g : Nat} {cs : Array Value} (h : w.heap[g]? = some (.cells cs 132 (0, 0))) (h1 : cs.size = 16) (h2 : cs.all (·.oneCell') = true) : Row40 w g := by
  have e := rowOf_of h
  exact ⟨by rw [e]; exact h, by rw [e]; exact h1, by rw [e]; exact h2⟩

theorem z40 : (Tryz.prog.info? 132).map (·.size) = some 16 := by kernel_rfl

theorem load40 {w : World} {g : Nat} (h : Row40 w g) : (Instr.loadAt 132 (.pointer (some ⟨g, 0, none⟩))).run Tryz.prog w = .ok (.agg (rowOf w g)) w := by
  simp only [Instr.loadAt, Instr.sureAddr, Sem.run_bind, Sem.run_pure, Result.andThen_ok]
  exact run_loadVar_row w g 132 132 _ (0, 0) _ h.1 Tryz.underlying132 rfl (by rw [h.2.1]; exact z40)
theorem store40 {w : World} {g : Nat} (h : Row40 w g) : (Instr.storeAt 132 (.pointer (some ⟨g, 0, none⟩)) (.agg (rowOf w g))).run Tryz.prog w = .ok () w := by
  simp only [Instr.storeAt, Instr.sureAddr, Sem.run_bind, Sem.run_pure, Result.andThen_ok]
  rw [run_storeVar_row w g 132 132 _ _ h.1 (by rw [h.2.1]; exact z40) rfl h.2.2, setRow_id w _ _ _ h.1]
def headOf : Value → Bool
  | .pointer (some ⟨_, 0, none⟩) => true
  | _ => false
def blockOf : Value → Nat
  | .pointer (some a) => a.block
  | _ => 0
theorem headOf_mk (g : Nat) : headOf (.pointer (some ⟨g, 0, none⟩)) = true := rfl
theorem blockOf_mk (g o : Nat) (s : Option Nat) : blockOf (.pointer (some ⟨g, o, s⟩)) = g := rfl
theorem head_eq {v : Value} (h : headOf v = true) : v = .pointer (some ⟨blockOf v, 0, none⟩) := by
  unfold headOf at h
  split at h
  · rfl
  · cases h
theorem exec_load40 {ρ : Operand → Value} {d : Option Tmp} {x : Operand} {t : TypeId} {p : String} {af : Array Edge} {gd : Option (Nat × Bool)} {w : World} (h1 : headOf (ρ x) = true) (h2 : Row40 w (blockOf (ρ x))) :
    (execOp ρ ⟨d, .load 132 x, t, p, af, gd⟩).run Tryz.prog w = .ok (.value (.agg (rowOf w (blockOf (ρ x))))) w := by
  have e := head_eq h1
  simp only [execOp]
  rw [e] at h2 ⊢
  simp only [blockOf_mk] at h2 ⊢
  simp [load40 h2, Result.andThen]
theorem exec_store40 {ρ : Operand → Value} {d : Option Tmp} {x y : Operand} {t : TypeId} {p : String} {af : Array Edge} {gd : Option (Nat × Bool)} {w : World} (h1 : headOf (ρ x) = true) (h2 : Row40 w (blockOf (ρ x))) (h3 : ρ y = .agg (rowOf w (blockOf (ρ x)))) :
    (execOp ρ ⟨d, .store 132 x y, t, p, af, gd⟩).run Tryz.prog w = .ok .skip w := by
  have e := head_eq h1
  simp only [execOp]
  rw [h3, e] at *
  simp only [blockOf_mk] at h2 ⊢
  simp [store40 h2, Result.andThen]
/-- Sixteen cells. -/
def is16 (v : Value) : Prop := v = .agg v.cells ∧ v.cells.size = 16 ∧ v.cells.all (·.oneCell') = true
theorem exec_store40' {ρ : Operand → Value} {d : Option Tmp} {x y : Operand} {t : TypeId} {p : String} {af : Array Edge} {gd : Option (Nat × Bool)} {w : World} (h1 : headOf (ρ x) = true) (h2 : Row40 w (blockOf (ρ x))) (h3 : is16 (ρ y)) :
    (execOp ρ ⟨d, .store 132 x y, t, p, af, gd⟩).run Tryz.prog w = .ok .skip (w.setRow (blockOf (ρ x)) (ρ y).cells) := by
  have e := head_eq h1
  simp only [execOp]
  obtain ⟨h3, h4, h5⟩ := h3
  rw [e] at h2 ⊢
  rw [h3]
  simp only [blockOf_mk] at h2 ⊢
  have := run_storeVar_row (P := Tryz.prog) w (blockOf (ρ x)) 132 132 _ (ρ y).cells h2.1 (by rw [h4]; exact z40) (by rw [h2.2.1, h4]) h5
  simp [Instr.storeAt, Instr.sureAddr, this, Result.andThen]
  rfl
theorem is16_arr (f : Nat → W) (k : Nat) : is16 (.agg (arr f k)) := ⟨rfl, arr_size _ _, arr_one _ _⟩
attribute [local go_sem] headOf_mk blockOf_mk blockOf_mk
attribute [local go_sem ↓] exec_load40 exec_store40

set_option maxHeartbeats 400000 in
theorem halves_any (w : World) :
    Calls Tryz.prog 93 #[] w fun e w' => e = .returned (.tuple #[.agg (arr lo 16), .agg (arr hi 16)]) ∧ Below w.heap.size w w' := by
  go_enter Tryz.func93, Tryz.ntmps93
  go_wp2
  go_loopw [3] (fun i wr => ∃ k : Nat, k ≤ 16 ∧ i = .int .i64 k ∧ wr.heap[w.heap.size]? = some (.cells (arr lo k) 132 (0, 0)) ∧ wr.heap[w.heap.size + 1]? = some (.cells (arr hi k) 132 (0, 0)) ∧ Below w.heap.size w wr)
    (fun i _ => 16 - (intOf i).toNat)
  case atStart =>
    refine ⟨0, by omega, rfl, ?_, ?_, ((Below.refl _ _).alloc (Nat.le_refl _) _).alloc (by simp) _⟩
    · rw [heap_alloc2_old]; rfl
    · rw [heap_alloc2_new]; rfl
  case round =>
    obtain ⟨k, hk, rfl, hl, hh, hb⟩ := hrel
    have H := Lib.hid hl
    have H2 := Lib.hid hh
    clear hl hh
    go_wp2
    · have hlt : (k : Int) < 16 := by assumption
      have c1 : wr.cell? ⟨w.heap.size, k, none⟩ = some (.int .u64 0) := by
        rw [cell_of_row _ _ _ _ _ _ H.out, arr_at _ _ _ (by omega), if_neg (by omega)]
      have c2 : wr.cell? ⟨w.heap.size + 1, k, none⟩ = some (.int .u64 0) := by
        rw [cell_of_row _ _ _ _ _ _ H2.out, arr_at _ _ _ (by omega), if_neg (by omega)]
      have f1 : wr.frozen? ⟨w.heap.size, k, none⟩ = false := frozen_of_row _ _ _ _ _ H.out
      have f2 : wr.frozen? ⟨w.heap.size + 1, k, none⟩ = false := frozen_of_row _ _ _ _ _ H2.out
      have e1 : IntKind.u64.wrap (k : Int) = (k : Int) := by rw [IntKind.wrap_u64]; omega
      have e2 : IntKind.u64.wrap ((k : Int) * 16) = (k : Int) * 16 := by rw [IntKind.wrap_u64]; omega
      go_region_with (first | (go_at_call 118; refine (shift_int _ (by clear e1 e2; omega) (by clear e1 e2; omega) _).mono ?_; rintro e w' ⟨rfl, rfl⟩))
      all_goals clear e1 e2
      go_wp2
      go_roundw
      case rel =>
        have g1 : ((wr.setCell ⟨w.heap.size, k, none⟩ (.int .u64 ((lo k).toNat : Int))).setCell ⟨w.heap.size + 1, k, none⟩ (.int .u64 ((hi k).toNat : Int))).heap[w.heap.size]? = some (.cells (arr lo (k + 1)) 132 (0, 0)) := by
          rw [heap_setCell_other _ _ _ _ (by simp), heap_setCell_same _ _ _ _ _ _ H.out, arr_step]
        have g2 : ((wr.setCell ⟨w.heap.size, k, none⟩ (.int .u64 ((lo k).toNat : Int))).setCell ⟨w.heap.size + 1, k, none⟩ (.int .u64 ((hi k).toNat : Int))).heap[w.heap.size + 1]? = some (.cells (arr hi (k + 1)) 132 (0, 0)) := by
          rw [heap_setCell_same _ _ _ (arr hi k) 132 _ (by rw [heap_setCell_other _ _ _ _ (by simp)]; exact H2.out), arr_step]
        exact ⟨k + 1, by omega, by go_num, g1, g2, ((hb.setCell (by simp) _).setCell (by simp) _).drew⟩
      case measure => simp [intOf]; omega
    · have : k = 16 := by omega
      subst this
      have a1 : Row40 wr.drew w.heap.size := row40_of H.out (arr_size _ _) (arr_one _ _)
      have a2 : Row40 wr.drew (w.heap.size + 1) := row40_of H2.out (arr_size _ _) (arr_one _ _)
      go_region
      go_wp2
      have r1 := run_loadVar_row (P := Tryz.prog) wr.drew w.heap.size 132 132 (arr lo 16) (0, 0) _ H.out Tryz.underlying132 rfl (by rw [arr_size]; exact z40)
      have r2 := run_loadVar_row (P := Tryz.prog) wr.drew (w.heap.size + 1) 132 132 (arr hi 16) (0, 0) _ H2.out Tryz.underlying132 rfl (by rw [arr_size]; exact z40)
      exact bodyPost_ret (v := .tuple #[.agg (arr lo 16), .agg (arr hi 16)]) (by simp [results, Tryz.results93, asAddr, r1, r2, Result.andThen]) rfl ⟨rfl, hb.drew⟩
/-- Bytes lie in memory. -/
def Bts (w : World) (a : Option Addr) (l : List (BitVec 8)) : Prop :=
  l.length ≤ 9223372036854775807 ∧ (l = [] ∨ ∃ b off, a = some ⟨b, off, none⟩ ∧ ∀ i (h : i < l.length), w.cell? ⟨b, off + i, none⟩ = some (.int .u8 (l[i].toNat : Int)))

theorem Bts.at_lt {w : World} {a : Option Addr} {l : List (BitVec 8)} (h : Bts w a l) {k : Nat} (hk : k < l.length) :
    ∃ b off, a = some ⟨b, off, none⟩ ∧ b < w.heap.size ∧ ∀ i (h : i < l.length), w.cell? ⟨b, off + i, none⟩ = some (.int .u8 (l[i].toNat : Int)) := by
  rcases h.2 with rfl | ⟨b, off, ha, hc⟩
  · simp at hk
  · exact ⟨b, off, ha, block_lt_of_cell (hc k hk), hc⟩
theorem Bts.below {w w' : World} {B : Nat} {a : Option Addr} {l : List (BitVec 8)} (h : Bts w a l) (hb : Below B w w') (ha : ∀ x, a = some x → x.block < B) : Bts w' a l := by
  refine ⟨h.1, ?_⟩
  rcases h.2 with rfl | ⟨b, off, rfl, hc⟩
  · exact .inl rfl
  · exact .inr ⟨b, off, rfl, fun i hi => (hb.cell (p := ⟨b, off + i, none⟩) (ha ⟨b, off, none⟩ rfl)).trans (hc i hi)⟩
theorem Bts.below_self {w w' : World} {a : Option Addr} {l : List (BitVec 8)} (h : Bts w a l) (hb : Below w.heap.size w w') : Bts w' a l := by
  refine ⟨h.1, ?_⟩
  rcases h.2 with rfl | ⟨b, off, rfl, hc⟩
  · exact .inl rfl
  · exact .inr ⟨b, off, rfl, fun i hi => (hb.cell (by exact block_lt_of_cell (hc i hi))).trans (hc i hi)⟩

attribute [local go_sem] headOf_mk blockOf_mk
attribute [local go_sem ↓] exec_load40 exec_store40'

abbrev Z16 : Array Value := #[.int .u64 0, .int .u64 0, .int .u64 0, .int .u64 0, .int .u64 0, .int .u64 0, .int .u64 0, .int .u64 0, .int .u64 0, .int .u64 0, .int .u64 0, .int .u64 0, .int .u64 0, .int .u64 0, .int .u64 0, .int .u64 0]

theorem Z16_one : Z16.all (·.oneCell') = true := by decide +kernel

theorem setRow_block (w : World) (g k : Nat) (cs : Array Value) (h : k ≠ g) : (w.setRow g cs).heap[k]? = w.heap[k]? := setRow_other w g k cs h

set_option maxHeartbeats 400000 in
theorem add_any (s : W) (a : Option Addr) (cap : Nat) (l : List (BitVec 8)) (w : World) (hB : Bts w a l) :
    Calls Tryz.prog 68 #[.int .u64 (s.toNat : Int), .slice a l.length cap] w fun e w' => e = .returned (.int .u64 ((sumFrom s l).toNat : Int)) ∧ Below w.heap.size w w' := by
  have hm := hB.1
  have HB := Lib.hid hB
  clear hB
  go_enter Tryz.func68, Tryz.ntmps68
  go_wp2_with fail
  refine (halves_any _).mono ?_
  rintro e w1 ⟨rfl, hb⟩
  have i1 := is16_arr lo 16
  have i2 := is16_arr hi 16
  have q1 : ((w1.alloc (.cells Z16 132)).alloc (.cells Z16 132)).heap[w1.heap.size]? = some (.cells Z16 132 (0, 0)) := heap_alloc2_old _ _ _
  have q2 : ((w1.alloc (.cells Z16 132)).alloc (.cells Z16 132)).heap[w1.heap.size + 1]? = some (.cells Z16 132 (0, 0)) := heap_alloc2_new _ _ _
  have a1 : Row40 ((w1.alloc (.cells Z16 132)).alloc (.cells Z16 132)) w1.heap.size := row40_of q1 rfl Z16_one
  have a2 : Row40 (((w1.alloc (.cells Z16 132)).alloc (.cells Z16 132)).setRow w1.heap.size (arr lo 16)) (w1.heap.size + 1) :=
    row40_of (by rw [setRow_block _ _ _ _ (by omega)]; exact q2) rfl Z16_one
  have hsz := hb.size
  have HQ1 := Lib.hid q1
  have HQ2 := Lib.hid q2
  clear q1 q2
  go_wp2_with fail
  rw [notU]
  obtain ⟨t, ht⟩ : ∃ t, t = ~~~s := ⟨_, rfl⟩
  rw [← ht]
  have HT := Lib.hid ht
  clear ht
  go_loopw [7, 19] (fun st i wr => ∃ k : Nat, k ≤ l.length ∧ i = .int .i64 k ∧ st = .int .u64 ((addL t (l.take k)).toNat : Int) ∧
      wr.heap[w1.heap.size]? = some (.cells (arr lo 16) 132 (0, 0)) ∧ wr.heap[w1.heap.size + 1]? = some (.cells (arr hi 16) 132 (0, 0)) ∧ Below w.heap.size w wr)
    (fun _ i _ => l.length - (intOf i).toNat)
  case atStart =>
    refine ⟨0, by omega, rfl, rfl, ?_, ?_, ?_⟩
    · rw [setRow_block _ _ _ _ (by omega)]
      exact setRow_heap _ _ Z16 _ _ _ HQ1.out
    · refine setRow_heap _ _ Z16 _ _ _ ?_
      rw [setRow_block _ _ _ _ (by omega)]
      exact HQ2.out
    · exact below_setRow (below_setRow ((hb.alloc (by exact hsz) _).alloc (by simp; omega) _) (by omega) _) (by omega) _
  case round =>
    obtain ⟨k, hk, rfl, rfl, hl, hh, hbel⟩ := hrel
    clear a1 a2 i1 i2
    have H1 := Lib.hid hl
    have H2 := Lib.hid hh
    clear hl hh
    by_cases hlt : k < l.length
    · obtain ⟨b, off, rfl, hb0, hc⟩ := HB.out.at_lt hlt
      have hcell : wr.cell? ⟨b, off + k, none⟩ = some (.int .u8 (l[k].toNat : Int)) := (hbel.cell (by exact hb0)).trans (hc k hlt)
      clear hc
      generalize hS : addL t (l.take k) = S
      have HS := Lib.hid hS
      clear hS
      go_wp2_with fail
      rw [byteXor]
      obtain ⟨y, hy⟩ : ∃ y, y = S.setWidth 8 ^^^ l[k] := ⟨_, rfl⟩
      rw [← hy]
      have HY := Lib.hid hy
      clear hy
      have hylt := y.isLt
      have c1 : wr.cell? ⟨w1.heap.size, y.toNat % 16, none⟩ = some (.int .u64 ((lo (y.toNat % 16)).toNat : Int)) := by
        rw [cell_of_row _ _ _ _ _ _ H1.out, arr_at _ _ _ (by omega), if_pos (by omega)]
      have c2 : wr.cell? ⟨w1.heap.size + 1, y.toNat / 16, none⟩ = some (.int .u64 ((hi (y.toNat / 16)).toNat : Int)) := by
        rw [cell_of_row _ _ _ _ _ _ H2.out, arr_at _ _ _ (by omega), if_pos (by omega)]
      have q15 : bits .and .u8 (y.toNat : Int) 15 = (y.toNat : Int) % 16 := u8_and15 _ (by omega) (by omega)
      have b1 : (y.toNat : Int) % 16 < 16 := by omega
      have b2 : 0 ≤ (y.toNat : Int) % 16 := by omega
      have b3 : (y.toNat : Int) / 16 < 16 := by omega
      have b4 : 0 ≤ (y.toNat : Int) / 16 := by omega
      have t1 : ((y.toNat : Int) % 16).toNat = y.toNat % 16 := by omega
      have t2 : ((y.toNat : Int) / 16).toNat = y.toNat / 16 := by omega
      go_quiet (fail)
      go_wp2
      go_roundw
      case rel => exact ⟨k + 1, by omega, by go_num, val_int (by rw [add_step_int S l[k] y HY.out, addL_take_succ _ _ _ hlt, HS.out]), H1.out, H2.out, below_drewN hbel nq⟩
      case measure => simp [intOf]; omega
    · go_wp2
      rw [notU]
      go_ret
      exact ⟨ret_int (by rw [List.take_of_length_le (by omega), HT.out]; rfl), hbel⟩

set_option maxHeartbeats 400000 in
theorem of_any (a : Option Addr) (cap : Nat) (l : List (BitVec 8)) (w : World) (hB : Bts w a l) :
    Calls Tryz.prog 50 #[.slice a l.length cap] w fun e w' => e = .returned (.int .u64 ((sumOf l).toNat : Int)) ∧ Below w.heap.size w w' := by
  have HB := Lib.hid hB
  clear hB
  go_enter Tryz.func50, Tryz.ntmps50
  go_wp2_with fail
  refine (add_any 0#64 a cap l _ HB.out).mono ?_
  rintro e w' ⟨rfl, hb⟩
  go_wp2
  go_ret
  exact ⟨rfl, hb⟩

end Go.Proofs.YtdhidcoglioalaaGreat.SumW
