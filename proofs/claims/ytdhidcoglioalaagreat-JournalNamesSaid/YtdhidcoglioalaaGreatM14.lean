/-
  The walks of the document's small functions of bytes: its sums, numbers as bytes, blank bytes.
-/
import Derived.Test.YtdhidcoglioalaaGreatM09
import Derived.Test.YtdhidcoglioalaaGreatM12
import Derived.Test.YtdhidcoglioalaaGreatM13
namespace Go.Proofs.YtdhidcoglioalaaGreat.Walks
open Go.RowKit Plain
set_option linter.unusedVariables false
open Math in
open Bits in
set_option maxHeartbeats 400000 in
theorem rj_step (x : W) (c : BitVec 8) (w : World) :
    Calls Tryz.prog 133 #[.int .u64 (x.toNat : Int), .int .u8 (c.toNat : Int)] w fun e w' => e = .returned (.int .u64 ((stp x c).toNat : Int)) ∧ w = w' := by
  go_enter Tryz.func133, Tryz.ntmps133
  go_wp2
  go_loop [0, 5] (fun s i => ∃ k : Nat, k ≤ 8 ∧ i = .int .i64 k ∧ s = .int .u64 ((shN k (x ^^^ c.setWidth 64)).toNat : Int)) (fun _ i => 8 - (RowKit.intOf i).toNat)
  case atStart => exact ⟨0, by omega, rfl, val_int (xorByte _ _)⟩
  case round =>
    obtain ⟨k, hk, rfl, rfl⟩ := hrel
    go_wp2
    · go_round
      case rel => exact ⟨k + 1, by omega, by go_num, val_int (ref_odd _ ‹_›)⟩
      case measure => simp [RowKit.intOf]; omega
    · go_round
      case rel => exact ⟨k + 1, by omega, by go_num, val_int (ref_even _ ‹_›)⟩
      case measure => simp [RowKit.intOf]; omega
    · have : k = 8 := by omega
      subst this
      go_ret
      exact ⟨rfl, rfl⟩
open Math in
open Bits in
set_option maxHeartbeats 400000 in
theorem rj_add (s : W) (a : Option Addr) (cap : Nat) (l : List (BitVec 8)) (w : World) (hB : Bys w a l) :
    Calls Tryz.prog 132 #[.int .u64 (s.toNat : Int), .slice a l.length cap] w fun e w' => e = .returned (.int .u64 ((sumFrom s l).toNat : Int)) ∧ w = w' := by
  have hm := hB.1
  have HB := Lib.hid hB
  clear hB
  go_enter Tryz.func132, Tryz.ntmps132
  go_wp2_with fail
  rw [notU]
  obtain ⟨t, ht⟩ : ∃ t, t = ~~~s := ⟨_, rfl⟩
  rw [← ht]
  have HT := Lib.hid ht
  clear ht
  go_loop [5, 6] (fun st i => ∃ k : Nat, k ≤ l.length ∧ i = .int .i64 k ∧ st = .int .u64 ((addL t (l.take k)).toNat : Int))
    (fun _ i => l.length - (RowKit.intOf i).toNat)
  case atStart => exact ⟨0, by omega, rfl, rfl⟩
  case round =>
    obtain ⟨k, hk, rfl, rfl⟩ := hrel
    by_cases hlt : k < l.length
    · obtain ⟨b, off, rfl, hb0, hc⟩ := HB.out.at_lt hlt
      have hcell := hc k hlt
      unfold byteV at hcell
      clear hc
      generalize hS : addL t (l.take k) = S
      have HS := Lib.hid hS
      clear hS
      go_wp2_with fail
      refine Calls.mono (rj_step S l[k] _) ?_
      rintro e w' ⟨rfl, rfl⟩
      go_wp2
      go_round
      case rel => exact ⟨k + 1, by omega, by go_num, val_int (by rw [addL_take_succ _ _ _ hlt, HS.out])⟩
      case measure => simp [RowKit.intOf]; omega
    · go_wp2
      rw [notU]
      go_ret
      exact ⟨ret_int (by rw [List.take_of_length_le (by omega), HT.out]; rfl), rfl⟩
theorem rj_of (a : Option Addr) (cap : Nat) (l : List Byte) (w : World) (hB : Bys w a l) :
    Calls Tryz.prog 129 #[.slice a l.length cap] w fun e w' => e = .returned (.int .u64 ((Math.sumOf l).toNat : Int)) ∧ w = w' := by
  have HB := Lib.hid hB
  clear hB
  go_enter Tryz.func129, Tryz.ntmps129
  go_wp2_with fail
  refine Calls.mono (rj_add 0#64 a cap l _ HB.out) ?_
  rintro e w' ⟨rfl, rfl⟩
  go_wp2
  go_ret
  exact ⟨rfl, rfl⟩
theorem rj_ofN (a : Option Addr) (cap : Nat) (l : List Byte) (n : Nat) (hn : l.length = n) (w : World) (hB : Bys w a l) :
    Calls Tryz.prog 129 #[.slice a n cap] w fun e w' => e = .returned (.int .u64 ((Math.sumOf l).toNat : Int)) ∧ w = w' := by
  subst hn
  exact rj_of a cap l w hB
set_option maxRecDepth 10000 in
theorem rj_get (w : World) (a : Option Addr) (l : List Byte) (n cap : Nat) (hn : l.length = n) (hB : Bys w a l) : Calls Tryz.prog 130 #[.slice a n cap] w fun e w' => e = .returned (.int .i64 (getV l)) ∧ w = w' := by
  subst hn
  have hm := hB.1
  have HB := Lib.hid hB
  clear hB
  go_enter Tryz.func130, Tryz.ntmps130
  go_wp2
  go_loop [3, 4] (fun v i => ∃ k : Nat, k ≤ l.length ∧ i = .int .i64 k ∧ v = .int .i64 (getV (l.take k))) (fun _ i => l.length - (RowKit.intOf i).toNat)
  case atStart => exact ⟨0, Nat.zero_le _, rfl, rfl⟩
  case round =>
    obtain ⟨k, hk, rfl, rfl⟩ := hrel
    by_cases hlt : k < l.length
    · obtain ⟨b, off, rfl, hb0, hc⟩ := HB.out.at_lt hlt
      have hcell := hc k hlt
      clear hc
      obtain ⟨y, hy⟩ : ∃ y, y = getV (l.take k) := ⟨_, rfl⟩
      obtain ⟨x, hx⟩ : ∃ x, x = l[k] := ⟨_, rfl⟩
      rw [← hx] at hcell
      rw [← hy]
      have HX := Lib.hid hx
      have HY := Lib.hid hy
      clear hy hx
      unfold byteV at hcell
      go_wp2
      go_round
      case rel => exact ⟨k + 1, by omega, by go_num, by rw [HY.out, getV, or_step, getV, getN_take_succ l hlt, HX.out]⟩
      case measure => simp [RowKit.intOf]; omega
    · obtain rfl : k = l.length := by omega
      go_wp2
      go_ret
      exact ⟨rfl, rfl⟩
theorem zeroL_all {l : List Byte} (h : ∀ i (h : i < l.length), l[i] = 0) : zeroL l = true := by
  unfold zeroL
  rw [List.all_eq_true]
  intro x hx
  obtain ⟨i, hi, rfl⟩ := List.getElem_of_mem hx
  rw [h i hi]
  rfl
set_option maxRecDepth 10000 in
theorem rj_blank (w : World) (a : Option Addr) (l : List Byte) (n cap : Nat) (hn : l.length = n) (hB : Bys w a l) : Calls Tryz.prog 116 #[.slice a n cap] w fun e w' => e = .returned (.bool (zeroL l)) ∧ w = w' := by
  subst hn
  have hm := hB.1
  have HB := Lib.hid hB
  clear hB
  go_enter Tryz.func116, Tryz.ntmps116
  go_wp2
  go_loop [3] (fun i => ∃ k : Nat, k ≤ l.length ∧ i = .int .i64 k ∧ ∀ j (h : j < l.length), j < k → l[j] = 0) (fun i => l.length - (RowKit.intOf i).toNat)
  case atStart => exact ⟨0, Nat.zero_le _, rfl, fun _ _ h => absurd h (Nat.not_lt_zero _)⟩
  case round =>
    obtain ⟨k, hk, rfl, hz⟩ := hrel
    have HZ := Lib.hid hz
    clear hz
    by_cases hlt : k < l.length
    · obtain ⟨b, off, rfl, hb0, hc⟩ := HB.out.at_lt hlt
      have hcell := hc k hlt
      clear hc
      obtain ⟨x, hx⟩ : ∃ x, x = l[k] := ⟨_, rfl⟩
      rw [← hx] at hcell
      have HX := Lib.hid hx
      clear hx
      unfold byteV at hcell
      by_cases h0 : x = 0#8
      · have hq : ((x.toNat : Int) != 0) = false := by rw [h0]; rfl
        have H0 := Lib.hid h0
        clear h0
        go_wp2
        go_round
        case rel => exact ⟨k + 1, by omega, by go_num, fun j h hj => by
          by_cases e : j = k
          · subst e; rw [← HX.out, H0.out]; rfl
          · exact HZ.out j h (by omega)⟩
        case measure => simp [RowKit.intOf]; omega
      · have hq : ((x.toNat : Int) != 0) = true := by
          simp only [bne_iff_ne, ne_eq]
          intro e
          exact h0 (BitVec.eq_of_toNat_eq (by simp; omega))
        have H0 := Lib.hid h0
        clear h0
        go_wp2
        go_ret
        refine ⟨ret_bool ?_, rfl⟩
        cases he : zeroL l
        · rfl
        · exact absurd (by have := List.all_eq_true.1 he _ (List.getElem_mem hlt); rw [HX.out]; simpa using this) H0.out
    · go_wp2
      go_ret
      exact ⟨ret_bool (zeroL_all fun i hi => HZ.out i hi (by omega)).symm, rfl⟩
/-! ### Numbers as bytes -/
abbrev OwnV (w : World) (base : Nat) (v : Value) (l : List Byte) : Prop := w.ownsRow base 5 1 v l.length (l.map byteV)
/-- append(v, x...), v the call's own. -/
theorem wp_append_y {w : World} {ops : Array Oper} {rest : List Oper} {o : Oper} {a : Act} {Q : Exit → Act → World → Prop} (hgd : o.guard = none) (s x : Operand)
    (ho : o.op = .call { callee := .builtin .append, args := #[s, x], argTypes := #[23, 23] }) (base : Nat) (v : Value) (l : List Byte) (hs : a.eval s = v) (hown : OwnV w base v l)
    (xa : Option Addr) (n xc : Nat) (k : List Byte) (hn : k.length = n) (hx : a.eval x = .slice xa n xc) (hB : Bys w xa k) (hxc : xa = none → xc = 0) (hbase : base ≤ w.heap.size) (hlen : l.length + n ≤ 4096) (r : List Byte) (hr : l ++ k = r)
    (h : ∀ v' w', OwnV w' base v' r → Below base w w' → wpList Tryz.prog ops Q rest (a.put o.dst v') w') : wpList Tryz.prog ops Q (o :: rest) a w := by
  obtain ⟨i0, hi, hz0, hz1, hz2⟩ := info_parts info5f
  subst hn
  subst hr
  rcases Option.eq_none_or_eq_some xa with rfl | ⟨ad, rfl⟩
  · have hc0 := hxc rfl
    subst hc0
    have hl : k = [] := by
      rcases hB.2 with h | ⟨b, off, h, _⟩
      · exact h
      · cases h
    subst hl
    exact wpList_append_own_none hgd s x 23 ho base 5 i0 1 Tryz.underlying23 hi v l.length (l.map byteV) hs hown hx (h v w (by rw [List.append_nil]; exact hown) (Below.refl _ _))
  · refine wpList_append_own w hgd s x 23 ho base 5 i0 (.int .u8 0) 1 1 Tryz.underlying23 hi hz0 hz1 hz2 rfl (by decide) v l.length (l.map byteV) hs hown ad k.length xc (k.map byteV) hx (by simp) (news_bys hB) (bys_one _)
      (by unfold maxLen; omega) (by omega) hbase fun v' w' h1 h2 h3 => h v' w' (by unfold OwnV; rw [List.length_append, List.map_append]; exact h1) ?_
    refine ⟨h2.os, h2.tape, h2.output, h2.size, fun i hi => h2.block i (by omega) ?_⟩
    obtain ⟨_, ⟨e, _⟩ | ⟨g, cap', cur, e, hb, _⟩⟩ := hown
    · rw [e]; simp [Value.ownBlock]
    · rw [e]; simp [Value.ownBlock]; omega
theorem OwnV.bys {w : World} {base : Nat} {v : Value} {l : List Byte} (h : OwnV w base v l) (hm : l.length ≤ 4096) : ∃ a c, v = .slice a l.length c ∧ Bys w a l ∧ (∀ ad, a = some ad → base ≤ ad.block ∧ ∀ j, w.frozen? ⟨ad.block, j, none⟩ = false) ∧ (a = none → c = 0) := by
  have h' := h
  obtain ⟨_, ⟨e, h0⟩ | ⟨g, cap', cur, e, _⟩⟩ := h'
  · rw [e, h0]
    exact ⟨none, 0, rfl, OwnBy.bys (cap := 0) (by rw [OwnBy, h0, ← e]; have := h; rwa [OwnV, h0] at this) (by omega)⟩
  · rw [e]
    exact ⟨_, _, rfl, OwnBy.bys (by rw [OwnBy, ← e]; exact h) (by omega)⟩
theorem OwnV.keep {w w' : World} {base : Nat} {v : Value} {l : List Byte} (h : OwnV w base v l) (hb : Below w.heap.size w w') : OwnV w' base v l := by
  refine ⟨h.1, ?_⟩
  rcases h.2 with hn | ⟨g, cap, cur, e, hb0, hgg, rest⟩
  · exact .inl hn
  · exact .inr ⟨g, cap, cur, e, hb0, (hb.block g (lt_of_heap hgg)).trans hgg, rest⟩
theorem OwnV.mono {w : World} {base base' : Nat} {v : Value} {l : List Byte} (h : OwnV w base v l) (hb : base' ≤ base) : OwnV w base' v l :=
  ⟨h.1, h.2.imp id fun ⟨g, cap, cur, e, hb0, rest⟩ => ⟨g, cap, cur, e, Nat.le_trans hb hb0, rest⟩⟩
theorem OwnV.lit (w : World) (base : Nat) (hb : base ≤ w.heap.size) (x : Byte) : OwnV (w.alloc (.cells #[.int .u8 (x.toNat : Int)] 5)) base (.slice (some ⟨w.heap.size, 0, none⟩) 1 1) [x] :=
  ⟨by simp, .inr ⟨w.heap.size, 1, #[.int .u8 (x.toNat : Int)], rfl, hb, heap_alloc_new _ _, by simp, by unfold maxLen; omega, by simp, by simp [byteV]⟩⟩
theorem bys_lit (w : World) (x : Byte) : Bys (w.alloc (.cells #[.int .u8 (x.toNat : Int)] 5)) (some ⟨w.heap.size, 0, none⟩) [x] :=
  ⟨by simp, .inr ⟨w.heap.size, 0, rfl, fun i hi => by
    simp at hi; subst hi
    rw [cell_new]; rfl⟩⟩
theorem shr_pow (v : Int) (k : Nat) : v / 2 ^ (8 * k) % 256 = ((BitVec.ofInt 8 (v / 256 ^ k)).toNat : Int) := by
  rw [ofInt_byte, Int.pow_mul]
  rfl
set_option maxRecDepth 10000 in
set_option maxHeartbeats 1000000 in
theorem rj_number (w : World) (base : Nat) (u : Value) (l : List Byte) (v : Int) (n : Nat) (hu : OwnV w base u l) (hb : base ≤ w.heap.size) (hl : l.length ≤ 1000) (hn : n ≤ 8) (hv : -9223372036854775808 ≤ v ∧ v ≤ 9223372036854775807) :
    Calls Tryz.prog 126 #[u, .int .i64 v, .int .i64 n] w fun e w' => ∃ u', e = .returned u' ∧ OwnV w' base u' (l ++ numB n v) ∧ Below base w w' := by
  have HU := Lib.hid hu
  have HV := Lib.hid hv
  clear hu hv
  go_enter Tryz.func126, Tryz.ntmps126
  go_wp2_with fail
  go_loopw [0, 7] (fun u i wr => ∃ (k : Nat), k ≤ n ∧ i = .int .i64 ((n : Int) - 1 - k) ∧ Hid (OwnV wr base u (l ++ (numB n v).take k)) ∧ Hid (Below base w wr)) (fun _ i _ => (RowKit.intOf i + 1).toNat)
  case atStart => exact ⟨0, Nat.zero_le _, by simp, Lib.hid (by simpa using HU.out), Lib.hid (Below.refl _ _)⟩
  case round =>
    obtain ⟨k, hk, rfl, HO, HB⟩ := hrel
    by_cases hlt : k < n
    · obtain ⟨j, hj⟩ : ∃ j : Nat, (n : Int) - 1 - k = (j : Int) := ⟨n - 1 - k, by omega⟩
      have hj7 : j ≤ 7 := by omega
      rw [hj]
      have hsh := shr_pow v j
      have ht := numB_take v hlt
      rw [show n - 1 - k = j by omega] at ht
      have HT := Lib.hid ht
      obtain ⟨x, hx⟩ : ∃ x, x = BitVec.ofInt 8 (v / 256 ^ j) := ⟨_, rfl⟩
      rw [← hx] at hsh HT
      have HSh := Lib.hid hsh
      have HX := Lib.hid hx
      have HLen := Lib.hid (numB_length n v)
      clear ht hx hsh
      go_wp2_with (first | (at_builtin; go_loud (refine wp_append_y rfl (.tmp 14) (.tmp 20) rfl base _ (l ++ (numB n v).take k) rfl (HO.out.keep (Below.new _ _)) (some ⟨wr.heap.size, 0, none⟩) 1 1 [x] rfl rfl (by rw [HSh.out]; exact bys_lit wr x) (fun e => by cases e) (by have := HB.out.size; simp; omega) (by have := HLen.out; simp; omega) (l ++ (numB n v).take (k + 1)) (by rw [HT.out, List.append_assoc]) ?_)))
      intro u' w' ho hbe
      have HO' := Lib.hid ho
      have HB' := Lib.hid ((HB.out.alloc (Nat.le_trans hb HB.out.size) _).trans hbe)
      clear ho hbe
      go_wp2
      go_roundw
      case rel => exact ⟨k + 1, by omega, by rw [← hj]; go_num, HO', HB'⟩
      case measure => simp [RowKit.intOf]
    · obtain rfl : k = n := by omega
      go_wp2
      go_ret
      refine ⟨_, rfl, ?_, HB.out⟩
      have := HO.out
      rwa [List.take_of_length_le (by rw [numB_length]; omega)] at this
theorem OwnV.form {w : World} {base : Nat} {v : Value} {l : List Byte} (h : OwnV w base v l) (hm : l.length ≤ 4096) : ∃ a c, v = .slice a l.length c := by
  obtain ⟨a, c, e, _⟩ := h.bys hm
  exact ⟨a, c, e⟩
theorem zero_byte : (0 : Int) = ((0#8).toNat : Int) := rfl
def padL (L : List Byte) (m : Nat) : List Byte := L ++ List.replicate m 0
theorem padL_length (L : List Byte) (m : Nat) : (padL L m).length = L.length + m := by simp [padL]
theorem padL_succ (L : List Byte) (m : Nat) : padL L m ++ [0] = padL L (m + 1) := by unfold padL; rw [List.append_assoc, ← List.replicate_succ']
set_option maxRecDepth 10000 in
set_option maxHeartbeats 1000000 in
theorem rj_pack (w : World) (k t n : Int) (da : Option Addr) (dc : Nat) (d : List Byte) (dn : Nat) (hdl : d.length = dn) (h48 : dn ≤ 48) (hB : Bys w da d) (hdc : da = none → dc = 0)
    (ht : -9223372036854775808 ≤ t ∧ t ≤ 9223372036854775807) (hn : -9223372036854775808 ≤ n ∧ n ≤ 9223372036854775807) :
    Calls Tryz.prog 112 #[.agg #[.int .i64 k, .int .i64 t, .int .i64 n, .slice da dn dc]] w fun e w' => ∃ u, e = .returned u ∧ OwnV w' w.heap.size u (packL (sctOf k t n d)) ∧ Below w.heap.size w w' := by
  have HD := Lib.hid hdl
  have HB := Lib.hid hB
  have HC := Lib.hid hdc
  have HT := Lib.hid ht
  have HN := Lib.hid hn
  have hx := ofInt_byte k
  obtain ⟨x, hxx⟩ : ∃ x, x = BitVec.ofInt 8 k := ⟨_, rfl⟩
  rw [← hxx] at hx
  have HX := Lib.hid hxx
  have HXV := Lib.hid hx.symm
  have H5 := Lib.hid (numB_length 5 t)
  have H2 := Lib.hid (numB_length 2 n)
  have H56 : Hid (∀ m, d.length + m = 48 → [x] ++ numB 5 t ++ numB 2 n ++ d ++ List.replicate m 0 = headL (sctOf k t n d)) := Lib.hid fun m hm => by
    rw [← head_pad k t n (d := d) (by omega), hxx, show m = 48 - d.length by omega]
    simp [List.append_assoc]
  clear hdl hB hdc ht hn hx hxx
  go_enter Tryz.func112, Tryz.ntmps112
  go_wp2_with fail
  obtain ⟨w1, hw1⟩ : ∃ y, y = w.alloc (.cells #[.int .i64 k, .int .i64 t, .int .i64 n, .slice da dn dc] 153) := ⟨_, rfl⟩
  have hb1 : Below w.heap.size w w1 := by rw [hw1]; exact Below.new _ _
  have c2 : w1.cell? ⟨w.heap.size, 2, none⟩ = some (.int .i64 n) := by rw [hw1, cell_new]; rfl
  have c3 : w1.cell? ⟨w.heap.size, 3, none⟩ = some (.slice da dn dc) := by rw [hw1, cell_new]; rfl
  have hz1 : w1.heap.size = w.heap.size + 1 := by rw [hw1]; simp
  obtain ⟨g, hg⟩ : ∃ g, g = w.heap.size := ⟨_, rfl⟩
  rw [← hg] at c2 c3 hb1 hz1
  rw [← hw1, ← hg, ← hz1, HXV.out]
  have hlit := OwnV.lit w1 g (by omega) x
  have HG := Lib.hid hg
  have HBa := Lib.hid hb1
  clear hw1 hg hb1
  refine Calls.mono (rj_number _ (g + 1) _ [x] t 5 (OwnV.lit w1 (g + 1) (by omega) x) (by simp; omega) (by simp) (by omega) HT.out) ?_
  rintro e w2 ⟨u2, rfl, ho2, hb2⟩
  obtain ⟨L2, hL2⟩ : ∃ L, L = [x] ++ numB 5 t := ⟨_, rfl⟩
  rw [← hL2] at ho2
  have hl2 : L2.length = 6 := by rw [hL2]; have := H5.out; simp; omega
  replace c2 := keepb hb2 (show g < g + 1 by omega) (keepc (Below.new _ _) c2)
  replace c3 := keepb hb2 (show g < g + 1 by omega) (keepc (Below.new _ _) c3)
  have HO2 := Lib.hid ho2
  have HB2 := Lib.hid ((HBa.out.trans ((Below.refl g _).alloc (by omega) _)).trans (hb2.mono (by omega)))
  have hz2 : g + 1 ≤ w2.heap.size := by have := hb2.size; simp at this; omega
  have HL2 := Lib.hid hL2
  have HE2 := Lib.hid hl2
  clear ho2 hb2 hlit hL2 hl2 hz1
  go_wp2_with fail
  refine Calls.mono (rj_number _ (g + 1) _ L2 n 2 HO2.out hz2 (by have := HE2.out; omega) (by omega) HN.out) ?_
  rintro e w3 ⟨u3, rfl, ho3, hb3⟩
  obtain ⟨L3, hL3⟩ : ∃ L, L = L2 ++ numB 2 n := ⟨_, rfl⟩
  rw [← hL3] at ho3
  have hl3 : L3.length = 8 := by rw [hL3]; have := H2.out; have := HE2.out; simp; omega
  replace c3 := keepb hb3 (show g < g + 1 by omega) c3
  have HO3 := Lib.hid ho3
  have hz3 : g + 1 ≤ w3.heap.size := Nat.le_trans hz2 hb3.size
  have HB3 := Lib.hid (HB2.out.trans (hb3.mono (by omega)))
  have HL3 := Lib.hid hL3
  have HE3 := Lib.hid hl3
  clear ho3 hb3 hL3 hl3 hz2 c2
  have HBd := Lib.hid (HB.out.below (by have := HB3.out; rw [HG.out] at this; exact this))
  obtain ⟨L4, hL4⟩ : ∃ L, L = L3 ++ d := ⟨_, rfl⟩
  have hl4 : L4.length = 8 + dn := by rw [hL4]; have := HE3.out; have := HD.out; simp; omega
  have HL4 := Lib.hid hL4
  have HE4 := Lib.hid hl4
  clear hL4 hl4
  go_wp2_with (first | (at_builtin; go_loud (refine wp_append_y rfl (.tmp 17) (.tmp 19) rfl (g + 1) _ L3 rfl HO3.out da dn dc d HD.out rfl HBd.out HC.out hz3 (by have := HE3.out; omega) L4 HL4.out.symm ?_)))
  intro u4 w4 ho4 hb4
  have hz4 : g + 1 ≤ w4.heap.size := Nat.le_trans hz3 hb4.size
  obtain ⟨a4, c4, rfl⟩ := ho4.form (by have := HE4.out; omega)
  rw [HE4.out]
  rw [OwnV, HE4.out] at ho4
  have HO4 := Lib.hid ho4
  have HB4 := Lib.hid (HB3.out.trans (hb4.mono (by omega)))
  clear ho4 hb4 hz3 c3 HBd
  go_wp2_with fail
  go_loopw [3] (fun u wr => ∃ m : Nat, dn + m ≤ 48 ∧ ∃ a c, u = .slice a (8 + dn + m : Nat) c ∧ Hid (OwnV wr (g + 1) (.slice a (8 + dn + m) c) (padL L4 m)) ∧ Hid (Below g w wr) ∧ g + 1 ≤ wr.heap.size) (fun u _ => match u with | .slice _ n _ => 56 - n | _ => 0)
  case atStart => exact ⟨0, by omega, a4, c4, by simp, Lib.hid (by have h1 := HO4.out; unfold padL OwnV; rw [List.replicate_zero, List.append_nil, HE4.out]; exact h1), HB4, hz4⟩
  case round =>
    obtain ⟨m, hm, a, c, rfl, HO, HBw, hzw⟩ := hrel
    by_cases hlt : dn + m < 48
    · go_wp2_with (first | (at_builtin; go_loud (refine wp_append_y rfl (.tmp 24) (.tmp 25) rfl (g + 1) _ (padL L4 m) rfl (HO.out.keep (Below.new _ _)) (some ⟨wr.heap.size, 0, none⟩) 1 1 [0] rfl rfl (bys_lit wr 0) (fun e => by cases e) (by simp; omega) (by have := HE4.out; rw [padL_length]; omega) (padL L4 (m + 1)) (padL_succ _ _) ?_)))
      intro u' w' ho hbe
      have hl' : (padL L4 (m + 1)).length = 8 + dn + (m + 1) := by have := HE4.out; rw [padL_length]; omega
      obtain ⟨a', c', rfl⟩ := ho.form (by omega)
      have hz' : g + 1 ≤ w'.heap.size := by have := hbe.size; simp at this; omega
      rw [hl']
      rw [hl'] at ho
      have HO' := Lib.hid ho
      have HB' := Lib.hid ((HBw.out.alloc (by omega) _).trans (hbe.mono (by omega)))
      clear ho hbe hl'
      go_wp2
      go_roundw
      case rel => exact ⟨m + 1, by omega, a', c', rfl, HO', HB', hz'⟩
      case measure => simp; omega
    · obtain ⟨L5, hL5⟩ : ∃ L, L = headL (sctOf k t n d) := ⟨_, rfl⟩
      have hpl : padL L4 m = L5 := by
        unfold padL
        rw [hL5, HL4.out, HL3.out, HL2.out]
        exact H56.out m (by have := HD.out; omega)
      have he5 : L5.length = 56 := by rw [hL5]; exact headL_length _
      rw [hpl] at HO
      have hof := HO.out.bys (by omega)
      obtain ⟨a9, c9, e9, hbys, _, _⟩ := hof
      simp only [Value.slice.injEq] at e9
      obtain ⟨rfl, _, rfl⟩ := e9
      have hm56 : 8 + dn + m = 56 := by omega
      have HBy := Lib.hid hbys
      have HL5 := Lib.hid hL5
      have HE5 := Lib.hid he5
      clear hL5 hpl he5 hbys
      go_wp2_with fail
      refine Calls.mono (rj_ofN a c L5 _ rfl _ HBy.out) ?_
      rintro e w5 ⟨rfl, rfl⟩
      obtain ⟨S, hS⟩ : ∃ S, S = Math.sumOf L5 := ⟨_, rfl⟩
      rw [← hS]
      have HS := Lib.hid hS
      have hSl : S.toNat < 18446744073709551616 := S.isLt
      clear hS
      go_wp2_with fail
      go_loopw [3, 5] (fun u i wr => ∃ (k : Nat), k ≤ 8 ∧ i = .int .i64 ((7 : Int) - k) ∧ Hid (OwnV wr (g + 1) u (L5 ++ (numB 8 (S.toNat : Int)).take k)) ∧ Hid (Below g w wr) ∧ g + 1 ≤ wr.heap.size) (fun _ i _ => (RowKit.intOf i + 1).toNat)
      case atStart => exact ⟨0, Nat.zero_le _, by simp, Lib.hid (by rw [List.take_zero, List.append_nil, OwnV]; have h1 := HO.out; rw [OwnV, show 8 + dn + m = L5.length by have := HE5.out; omega] at h1; exact h1), HBw, hzw⟩
      case round =>
        obtain ⟨q, hq, rfl, HO6, HB6, hz6⟩ := hrel
        by_cases hlt : q < 8
        · obtain ⟨j, hj⟩ : ∃ j : Nat, (7 : Int) - q = (j : Int) := ⟨7 - q, by omega⟩
          have hj7 : j ≤ 7 := by omega
          rw [hj]
          have hsh := shr_pow (S.toNat : Int) j
          have ht := numB_take (S.toNat : Int) hlt
          rw [show 8 - 1 - q = j by omega] at ht
          obtain ⟨y, hy⟩ : ∃ y, y = BitVec.ofInt 8 ((S.toNat : Int) / 256 ^ j) := ⟨_, rfl⟩
          rw [← hy] at hsh ht
          have HSh := Lib.hid hsh
          have HT6 := Lib.hid ht
          have HLen := Lib.hid (numB_length 8 (S.toNat : Int))
          clear ht hy hsh
          go_wp2_with (first | (at_builtin; go_loud (refine wp_append_y rfl (.tmp 33) (.tmp 39) rfl (g + 1) _ (L5 ++ (numB 8 (S.toNat : Int)).take q) rfl (HO6.out.keep (Below.new _ _)) (some ⟨wr.heap.size, 0, none⟩) 1 1 [y] rfl rfl (by rw [HSh.out]; exact bys_lit wr y) (fun e => by cases e) (by simp; omega) (by have := HLen.out; have := HE5.out; simp; omega) (L5 ++ (numB 8 (S.toNat : Int)).take (q + 1)) (by rw [HT6.out, List.append_assoc]) ?_)))
          intro u' w' ho hbe
          have HO' := Lib.hid ho
          have hz' : g + 1 ≤ w'.heap.size := by have := hbe.size; simp at this; omega
          have HB' := Lib.hid ((HB6.out.alloc (by omega) _).trans (hbe.mono (by omega)))
          clear ho hbe
          go_wp2
          go_roundw
          case rel => exact ⟨q + 1, by omega, by rw [← hj]; go_num, HO', HB', hz'⟩
          case measure => simp [RowKit.intOf]
        · obtain rfl : q = 8 := by omega
          go_wp2
          go_ret
          refine ⟨_, rfl, ?_, by have := HB6.out; rw [HG.out] at this; exact this⟩
          have h1 := HO6.out
          rw [List.take_of_length_le (by rw [numB_length]; omega), ← sum_num, HS.out, HL5.out] at h1
          have h2 := OwnV.mono h1 (show g ≤ g + 1 by omega)
          rw [HG.out] at h2
          exact h2
end Go.Proofs.YtdhidcoglioalaaGreat.Walks
