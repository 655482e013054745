/-
  The walks of the laws SumPieces, SumTurned, SumXor, SumLinear, SumKnown.
-/
import Derived.Test.YtfmdgbleobodmaaLawA
import Derived.Deep.RegionHeld3
namespace Go.Proofs.Ytfmdgbleobodmaa.Walks
open Go.RowKit Math Bits
set_option linter.unusedVariables false

theorem Bts.take {w : World} {a : Option Addr} {l : List (BitVec 8)} (h : Bts w a l) (n : Nat) : Bts w a (l.take n) := by
  refine ⟨by have := h.1; simp; omega, ?_⟩
  rcases h.2 with rfl | ⟨b, off, rfl, hc⟩
  · simp
  · exact .inr ⟨b, off, rfl, fun i hi => by rw [hc i (by simp at hi; omega)]; simp⟩

theorem of_take (a : Option Addr) (cap : Nat) (l : List (BitVec 8)) (n : Nat) (w : World) (hB : Bts w a l) (hn : n ≤ l.length) :
    Calls Try.prog 18 #[.slice a n cap] w fun e w' => e = .returned (.int .u64 ((sumOf (l.take n)).toNat : Int)) ∧ Below w.heap.size w w' := by
  have h := of_any a cap (l.take n) w (hB.take n)
  rw [List.length_take, Nat.min_eq_left hn] at h
  exact h
theorem add_take (s : W) (a : Option Addr) (cap : Nat) (l : List (BitVec 8)) (n : Nat) (w : World) (hB : Bts w a l) (hn : n ≤ l.length) :
    Calls Try.prog 21 #[.int .u64 (s.toNat : Int), .slice a n cap] w fun e w' => e = .returned (.int .u64 ((sumFrom s (l.take n)).toNat : Int)) ∧ Below w.heap.size w w' := by
  have h := add_any s a cap (l.take n) w (hB.take n)
  rw [List.length_take, Nat.min_eq_left hn] at h
  exact h
theorem copy_take (a : Option Addr) (cap : Nat) (l : List (BitVec 8)) (n : Nat) (w : World) (hB : Bts w a l) (hn : n ≤ l.length) (h0 : a = none → cap = 0) (hr : n ≤ 140737488355328) :
    Calls Try.prog 17 #[.slice a n cap] w fun e w' => ∃ v L, e = .returned v ∧ Hid (L = l.take n) ∧ Hid (L.length = n) ∧ Hid (w'.ownsRow w.heap.size 5 1 v n (L.map byteV)) ∧ Below w.heap.size w w' := by
  have h := copy_any a cap (l.take n) w (hB.take n) h0 (by rw [List.length_take, Nat.min_eq_left hn]; exact hr)
  rw [List.length_take, Nat.min_eq_left hn] at h
  exact h.mono fun e w' ⟨v, he, ho, hb⟩ => ⟨v, _, he, Lib.hid rfl, Lib.hid (by rw [List.length_take, Nat.min_eq_left hn]), Lib.hid ho, hb⟩
theorem Bts.news {w : World} {ad : Addr} {l : List (BitVec 8)} (h : Bts w (some ad) l) : ∀ j u, (l.map byteV)[j]? = some u → w.cell? (ad.add j) = some u := by
  intro j u hj
  have hj' : j < l.length := by
    have := (List.getElem?_eq_some_iff.1 hj).1
    simpa using this
  obtain ⟨b, off, hh, _, hc⟩ := h.at_lt hj'
  cases hh
  rw [List.getElem?_map, List.getElem?_eq_getElem hj'] at hj
  simp at hj
  subst hj
  rw [Addr.add_mid]
  exact hc j hj'
theorem bytes_one (l : List (BitVec 8)) : ∀ u ∈ l.map byteV, u.oneCell' = true := by
  intro u hu; simp [byteV] at hu; obtain ⟨c, _, rfl⟩ := hu; rfl

theorem wp_append_bytes {w : World} {ops : Array Oper} {rest : List Oper} {o : Oper} {a : Act} {Q : Exit → Act → World → Prop} (hgd : o.guard = none) (s x : Operand)
    (ho : o.op = .call { callee := .builtin .append, args := #[s, x], argTypes := #[26, 26] }) (base : Nat) (v : Value) (n : Nat) (xs : List Value) (hs : a.eval s = v) (hown : w.ownsRow base 5 1 v n xs)
    (ad : Addr) (m c : Nat) (l : List (BitVec 8)) (hx : a.eval x = .slice (some ad) m c) (hB : Bts w (some ad) l) (hm : m ≤ l.length) (hbytes : n + m ≤ 140737488355328) (hbase : base ≤ w.heap.size)
    (h : ∀ v' w' L, Hid (L = l.take m) → Hid (L.length = m) → Hid (w'.ownsRow base 5 1 v' (n + m) (xs ++ L.map byteV)) → w.grownBy w' v.ownBlock → wpList Try.prog ops Q rest (a.put o.dst v') w') : wpList Try.prog ops Q (o :: rest) a w := by
  obtain ⟨i0, hi, hz0, hz1, hz2⟩ := info_parts info5
  exact wpList_append_own w hgd s x 26 ho base 5 i0 (.int .u8 0) 1 1 Try.underlying26 hi hz0 hz1 hz2 rfl (by decide) v n xs hs hown ad m c ((l.take m).map byteV) hx (by simp; omega) (Bts.news (hB.take m)) (bytes_one _)
    (by unfold maxLen; omega) (by omega) hbase (fun v' w' h1 h2 _ => h v' w' _ (Lib.hid rfl) (Lib.hid (by rw [List.length_take, Nat.min_eq_left hm])) (Lib.hid h1) h2)

theorem ownsRow_bts' {w : World} {base n : Nat} {v : Value} {l : List (BitVec 8)} {xs : List Value} (h : w.ownsRow base 5 1 v n xs) (hn : l.length = n) (hx : l.map byteV = xs) (hm : n ≤ 9223372036854775807) :
    ∃ a cap, v = .slice a n cap ∧ Bts w a l := by
  subst hn; subst hx
  exact ownsRow_bts hm h
theorem of_n (a : Option Addr) (cap : Nat) (l : List (BitVec 8)) (n : Nat) (w : World) (hB : Bts w a l) (hn : l.length = n) :
    Calls Try.prog 18 #[.slice a n cap] w fun e w' => e = .returned (.int .u64 ((sumOf l).toNat : Int)) ∧ Below w.heap.size w w' := by
  subst hn
  exact of_any a cap l w hB
theorem ownsRow_base_le {w : World} {base : Nat} {e : TypeId} {size : Nat} {v : Value} {n : Nat} {xs : List Value} (h : w.ownsRow base e size v n xs) {k : Nat} (hk : v.ownBlock = some k) : base ≤ k := by
  obtain ⟨_, ⟨rfl, _⟩ | ⟨g, cap, cur, rfl, hg, _⟩⟩ := h
  · cases hk
  · cases hk; exact hg

set_option maxHeartbeats 1000000 in
theorem sumPieces_some (a0 : Option Addr) (cap0 : Nat) (l0 : List (BitVec 8)) (ad : Addr) (cap1 : Nat) (l1 : List (BitVec 8)) (w : World) (hB0 : Bts w a0 l0) (hB1 : Bts w (some ad) l1)
    (hn0 : a0 = none → cap0 = 0) (hc0 : l0.length ≤ cap0) (hc1 : l1.length ≤ cap1) (r0 : cap0 ≤ 140737488351232) (r1 : cap1 ≤ 140737488351232) :
    Calls Try.prog 6 #[.slice a0 l0.length cap0, .slice (some ad) l1.length cap1] w fun e w' => e = .returned (.bool true) ∧ Below w.heap.size w w' := by
  obtain ⟨i0, hi, hz0, hz1, hz2⟩ := info_parts info5
  have HB0 := Lib.hid hB0
  have HB1 := Lib.hid hB1
  have HN0 := Lib.hid hn0
  clear hB0 hB1 hn0
  go_enter Try.func6, Try.ntmps6
  go_wp2_with fail
  refine (works_any _).mono ?_
  rintro e w1 ⟨rfl, hb1⟩
  have s1 := hb1.size
  go_wp2_with fail
  go_region
  go_wp2_with fail
  all_goals
    refine Calls.mono (of_take a0 cap0 l0 _ _ (HB0.out.below_self hb1.drew) (by omega)) ?_
    rintro e w2 ⟨rfl, hb2⟩
    have hb12 := hb1.drew.trans (hb2.mono hb1.drew.size)
    clear hb2
    go_wp2_with fail
    refine Calls.mono (add_take _ (some ad) cap1 l1 _ _ ((HB1.out.below_self hb12)) (by omega)) ?_
    rintro e w3 ⟨rfl, hb3⟩
    have hb13 := hb12.trans (hb3.mono hb12.size)
    clear hb3 hb12 hb1
    go_wp2_with fail
    refine Calls.mono (copy_take a0 cap0 l0 _ _ ((HB0.out.below_self hb13)) (by omega) HN0.out (by omega)) ?_
    rintro e w4 ⟨v, L0, rfl, hL0, hl0, HO, hb4⟩
    have hb14 := hb13.trans (hb4.mono hb13.size)
    have s13 := hb13.size
    have s4 := hb4.size
    clear hb4 hb13
    go_wp2_with (first | (at_builtin; go_loud (refine wp_append_bytes rfl (.tmp 22) (.tmp 23) rfl w3.heap.size _ _ _ rfl HO.out ad _ cap1 l1 rfl (HB1.out.below_self hb14) (by omega) (by omega) (by omega) ?_)))
    intro v' w5 L1 hL1 hl1 hown' hg
    obtain ⟨a5, cap5, rfl, hB5⟩ := ownsRow_bts' (l := L0 ++ L1) hown'.out (by rw [List.length_append, hl0.out, hl1.out]) (by rw [List.map_append]) (by omega)
    have H5 := Lib.hid hB5
    have hb15 := hb14.grown hg (by omega) (fun k hk => Nat.le_trans s13 (ownsRow_base_le HO.out hk))
    clear hg hB5
    go_wp2_with fail
    refine Calls.mono (of_n a5 cap5 (L0 ++ L1) _ _ H5.out (by rw [List.length_append, hl0.out, hl1.out])) ?_
    rintro e w6 ⟨rfl, hb6⟩
    rw [hL0.out, hL1.out, ← sum_pieces]
    go_wp2
    go_ret
    exact ⟨ret_true (by simp), hb15.trans (hb6.mono hb15.size)⟩

set_option maxHeartbeats 1000000 in
theorem sumPieces_none (a0 : Option Addr) (cap0 : Nat) (l0 : List (BitVec 8)) (w : World) (hB0 : Bts w a0 l0)
    (hn0 : a0 = none → cap0 = 0) (hc0 : l0.length ≤ cap0) (r0 : cap0 ≤ 140737488351232) :
    Calls Try.prog 6 #[.slice a0 l0.length cap0, .slice none 0 0] w fun e w' => e = .returned (.bool true) ∧ Below w.heap.size w w' := by
  obtain ⟨i0, hi, hz0, hz1, hz2⟩ := info_parts info5
  have HB0 := Lib.hid hB0
  have HN0 := Lib.hid hn0
  clear hB0 hn0
  go_enter Try.func6, Try.ntmps6
  go_wp2_with fail
  refine (works_any _).mono ?_
  rintro e w1 ⟨rfl, hb1⟩
  have s1 := hb1.size
  go_wp2_with fail
  go_region
  go_wp2_with fail
  all_goals
    refine Calls.mono (of_take a0 cap0 l0 _ _ (HB0.out.below_self hb1.drew) (by omega)) ?_
    rintro e w2 ⟨rfl, hb2⟩
    have hb12 := hb1.drew.trans (hb2.mono hb1.drew.size)
    clear hb2
    go_wp2_with fail
    refine Calls.mono (add_take _ none 0 [] 0 _ ⟨by simp, .inl rfl⟩ (by simp)) ?_
    rintro e w3 ⟨rfl, hb3⟩
    have hb13 := hb12.trans (hb3.mono hb12.size)
    clear hb3 hb12 hb1
    go_wp2_with fail
    refine Calls.mono (copy_take a0 cap0 l0 _ _ ((HB0.out.below_self hb13)) (by omega) HN0.out (by omega)) ?_
    rintro e w4 ⟨v, L0, rfl, hL0, hl0, HO, hb4⟩
    have hb14 := hb13.trans (hb4.mono hb13.size)
    have s13 := hb13.size
    have s4 := hb4.size
    clear hb4 hb13
    go_wp2_with (first | (at_builtin; go_loud (refine wpList_append_own_none rfl (.tmp 22) (.tmp 23) 26 rfl w3.heap.size 5 i0 1 Try.underlying26 hi _ _ _ rfl HO.out rfl ?_)))
    obtain ⟨a5, cap5, rfl, hB5⟩ := ownsRow_bts' (l := L0) HO.out (by rw [hl0.out]) rfl (by omega)
    have H5 := Lib.hid hB5
    clear hB5
    go_wp2_with fail
    refine Calls.mono (of_n a5 cap5 L0 _ _ H5.out (by rw [hl0.out])) ?_
    rintro e w6 ⟨rfl, hb6⟩
    rw [hL0.out]
    go_wp2
    go_ret
    exact ⟨ret_true (by rw [sum_pieces]; simp), hb14.trans (hb6.mono hb14.size)⟩

theorem sumPieces_walk (a0 : Option Addr) (len0 cap0 : Nat) (z0 : List Int) (a1 : Option Addr) (len1 cap1 : Nat) (z1 : List Int) (w : World) (w0 : IsRow .u8 w a0 len0 cap0 z0) (r0 : cap0 * 1 ≤ 140737488351232)
    (w1 : IsRow .u8 w a1 len1 cap1 z1) (r1 : cap1 * 1 ≤ 140737488351232) :
    Calls Try.prog 6 #[.slice a0 len0 cap0, .slice a1 len1 cap1] w fun e w' => e = .returned (.bool true) ∧ Below w.heap.size w w' := by
  obtain ⟨l0, rfl, hB0, hn0, hlc0⟩ := bytes_of w0 r0
  obtain ⟨l1, rfl, hB1, hn1, hlc1⟩ := bytes_of w1 r1
  rcases Option.eq_none_or_eq_some a1 with rfl | ⟨ad, rfl⟩
  · have hc := hn1 rfl
    subst hc
    have : l1 = [] := List.eq_nil_of_length_eq_zero (by omega)
    subst this
    exact sumPieces_none a0 cap0 l0 w hB0 hn0 hlc0 (by omega)
  · exact sumPieces_some a0 cap0 l0 ad cap1 l1 w hB0 hB1 hn0 hlc0 hlc1 (by omega) (by omega)

theorem step_xor (x y : W) (c d : BitVec 8) (w : World) :
    Calls Try.prog 14 #[.int .u64 (bits .xor .u64 (x.toNat : Int) (y.toNat : Int)), .int .u8 (bits .xor .u8 (c.toNat : Int) (d.toNat : Int))] w fun e w' => e = .returned (.int .u64 ((stp x c ^^^ stp y d).toNat : Int)) ∧ w = w' := by
  rw [xorU, xorB, ← stp_xor]
  exact step_any _ _ w

set_option maxHeartbeats 1000000 in
theorem sumLinear_walk (a0 a1 : Int) (x2 y2 : Int) (w : World) (w0 : (Lit.int .u64 a0).wf = true) (w1 : (Lit.int .u64 a1).wf = true) (wx : (Lit.int .u8 x2).wf = true) (wy : (Lit.int .u8 y2).wf = true) :
    Calls Try.prog 12 #[.int .u64 a0, .int .u64 a1, .agg #[.int .u8 x2, .int .u8 y2]] w fun e w' => e = .returned (.bool true) ∧ Below w.heap.size w w' := by
  obtain ⟨x, rfl⟩ := u64_of w0
  obtain ⟨y, rfl⟩ := u64_of w1
  obtain ⟨c, rfl⟩ := u8_of wx
  obtain ⟨d, rfl⟩ := u8_of wy
  clear w0 w1 wx wy
  go_enter Try.func12, Try.ntmps12
  go_wp2_with fail
  have hbb : Below w.heap.size w (w.alloc (.cells #[.int .u8 (c.toNat : Int), .int .u8 (d.toNat : Int)] 37)) := (Below.refl _ _).alloc (Nat.le_refl _) _
  have hc0 : (w.alloc (.cells #[.int .u8 (c.toNat : Int), .int .u8 (d.toNat : Int)] 37)).cell? ⟨w.heap.size, 0, none⟩ = some (.int .u8 (c.toNat : Int)) := cell_of_row _ _ _ _ _ _ (heap_alloc_new _ _)
  have hc1 : (w.alloc (.cells #[.int .u8 (c.toNat : Int), .int .u8 (d.toNat : Int)] 37)).cell? ⟨w.heap.size, 1, none⟩ = some (.int .u8 (d.toNat : Int)) := cell_of_row _ _ _ _ _ _ (heap_alloc_new _ _)
  have hsz : (w.alloc (.cells #[.int .u8 (c.toNat : Int), .int .u8 (d.toNat : Int)] 37)).heap.size = w.heap.size + 1 := by simp
  generalize (w.alloc (.cells #[.int .u8 (c.toNat : Int), .int .u8 (d.toNat : Int)] 37)) = wa at *
  have Hsz := Lib.hid hsz
  clear hsz
  go_region_held3 (fun w' => w'.cell? ⟨w.heap.size, 0, none⟩ = some (.int .u8 (c.toNat : Int)) ∧ w'.cell? ⟨w.heap.size, 1, none⟩ = some (.int .u8 (d.toNat : Int)))
    (first | go_keep | exact ⟨(hb1.cell (p := ⟨w.heap.size, 0, none⟩) (by simp [Hsz.out])).trans (by simpa using hc0), (hb1.cell (p := ⟨w.heap.size, 1, none⟩) (by simp [Hsz.out])).trans (by simpa using hc1)⟩)
    ((first | (go_at_call 16; refine Calls.mono (works_any _) ?_; rintro e w1 ⟨rfl, hb1⟩) | (go_at_call 14; with_reducible refine Calls.mono (step_any _ _ _) ?_; rintro e w' ⟨rfl, rfl⟩) | (go_at_call 14; refine Calls.mono (step_xor _ _ _ _ _) ?_; rintro e w' ⟨rfl, rfl⟩)))
  go_wp2
  go_ret
  exact ⟨ret_true (by rw [xorU, BitVec.toNat_xor]; simp), hbb.drew.trans (hb1.mono (by simp [Hsz.out]))⟩
end Go.Proofs.Ytfmdgbleobodmaa.Walks
