/-
  The sorted keys of what is pending; works of the call's own.
  The log is cleared.
-/
import Derived.Test.YtdhidcoglioalaaGreatM04
import Derived.Test.YtdhidcoglioalaaGreatM22
import Derived.Deep.AppendLies
import Derived.Deep.RegionHeldLaw
import Derived.Test.YtdhidcoglioalaaGreatM08
namespace Go.Proofs
open Go.Shelf
def Tryz.keysB_ren : Go.Shelf.Ren := ⟨fun | 7 => 25 | 10 => 57 | n => n, fun | 23 => 31 | 26 => 3 | 3 => 48 | 28 => 63 | 0 => 0 | 27 => 62 | 33 => 104 | 4 => 4 | n => n, fun | n => n⟩
theorem Tryz.keysB : Go.Proofs.SlLaysZI.n7 Tryz.prog Tryz.keysB_ren := {
  mixed := by kernel_rfl
  f7 := ⟨Tryz.f25.name, by decide, Tryz.func25.trans (congrArg some (by kernel_rfl))⟩
  f10 := ⟨Tryz.f57.name, by decide, Tryz.func57.trans (congrArg some (by kernel_rfl))⟩
  t0 := Tryz.underlying0
  a0 := Tryz.isAgg0
  z0 := Tryz.sizeOf0
  v0 := Tryz.zeroValue0
  t4 := Tryz.underlying4
  a4 := Tryz.isAgg4
  z4 := Tryz.sizeOf4
  v4 := Tryz.zeroValue4
  t23 := Tryz.underlying31
  a23 := Tryz.isAgg31
  z23 := Tryz.sizeOf31
  v23 := Tryz.zeroValue31
  t26 := Tryz.underlying3
  a26 := Tryz.isAgg3
  z26 := Tryz.sizeOf3
  v26 := Tryz.zeroValue3
  t27 := Tryz.underlying62
  a27 := Tryz.isAgg62
  z27 := Tryz.sizeOf62
  v27 := Tryz.zeroValue62
  t28 := Tryz.underlying63
  a28 := Tryz.isAgg63
  z28 := Tryz.sizeOf63
  v28 := Tryz.zeroValue63
  t33 := Tryz.underlying104
  a33 := Tryz.isAgg104
  z33 := Tryz.sizeOf104
  v33 := Tryz.zeroValue104 }
end Go.Proofs
namespace Go.Proofs.YtdhidcoglioalaaGreat.Walks
open Go.RowKit Plain
open Go.Maps Go.Sort Go.Shelf
set_option linter.unusedVariables false
theorem keys71 (w : World) (mb : Option Nat) : Calls Tryz.prog 25 #[.map mb] w fun e w' => e = .returned (.func (.func 57) #[] #[.pointer (some ⟨w.heap.size, 0, none⟩)]) ∧ w' = w.alloc (.cells #[.map mb] 31) :=
  (callsIn_wide (n := 5)).1 (AnyZI.keys_in Tryz.keysB Fence.wide 5 trivial rfl mb w)
set_option maxHeartbeats 1000000 in
set_option maxRecDepth 100000 in
theorem sortedB_raw (b nn : Nat) (D0 : DM) (R : Value → Option (DM × List MemPlace)) (w : World) (hown : w.ownsMap Tryz.prog 3 R b nn D0) (hmax : Maps.size D0 ≤ maxLen) (hbytes : Maps.size D0 * 8 ≤ 140737488355328) :
    Calls Tryz.prog 24 #[.func (.func 57) #[] #[.pointer (some ⟨w.heap.size, 0, none⟩)]] (w.alloc (.cells #[.map (some b)] 31)) fun e w' => ∃ (v : Value) (ss : List Int), e = .returned v ∧ ss.Perm (intKeys D0) ∧
      w'.ownsRow w.heap.size 3 1 v ss.length ((ss.mergeSort (fun x y => decide (x ≤ y))).map encZ) ∧ (v = .slice none 0 0 ↔ ss = []) ∧ Below w.heap.size w w' := by
  refine (callsIn_wide (n := 5)).1 ?_
  have hbl := hown.lt
  have hseq : SeqGives Fence.wide 2 Tryz.prog 57 #[.pointer (some ⟨w.heap.size, 0, none⟩)] encZ (fun ss => ss.Perm (intKeys D0)) (Maps.size D0) (w.alloc (.cells #[.map (some b)] 31)) :=
    AnyZI.keys_gives (ρ := Tryz.keysB_ren) { Tryz.keysB with } Fence.wide _ trivial rfl (by omega) w.heap.size b nn D0 _ (by simp) (by simp) (by
      obtain ⟨es, clock, hb, Ft, hs, hD⟩ := hown
      exact ⟨es, clock, (Below.heap_alloc _ _ b hbl).trans hb, Ft, hs, hD⟩)
  have cS := AnyZI.sorted_in Tryz.sortedA Fence.wide 5 trivial trivial trivial trivial rfl (by omega) (Tryz.sortsA _) (enters_of Tryz.func56 (by kernel_rfl) rfl) 57 #[.pointer (some ⟨w.heap.size, 0, none⟩)] trivial (enters_of Tryz.func57 (by kernel_rfl) rfl) _ _ hmax hbytes _ hseq
  change CallsIn _ _ Tryz.prog 24 _ _ _ at cS
  refine cS.mono ?_
  rintro e w' ⟨v, ss, rfl, hS, hrow, hnil, hb⟩
  exact ⟨v, ss, rfl, hS, ownsRow_base_a hrow (by simp), hnil, ((Below.refl _ w).alloc (Nat.le_refl _) _).trans (hb.mono (by simp))⟩
theorem keys_len (J : Jn) (n : Nat) : (J.keys n).length ≤ n := by
  have h1 : (J.keys n).length ≤ (List.range (n - 2 - J.log)).length := List.length_filter_le _ _
  rw [List.length_range] at h1
  omega
theorem keys_rise (J : Jn) (n : Nat) : ((J.keys n).map fun (i : Nat) => (i : Int)).Pairwise (· < ·) := by
  refine List.pairwise_map.2 ?_
  have h1 : (J.keys n).Pairwise (· < ·) := List.Pairwise.filter _ List.pairwise_lt_range
  exact h1.imp fun h => by omega
section
variable {w w' : World} {j : JLoc} {q : PLoc} {J J' : Jn} {P P' : Pl}
theorem sortedJ (h : JP w j q J P) : Calls Tryz.prog 24 #[.func (.func 57) #[] #[.pointer (some ⟨w.heap.size, 0, none⟩)]] (w.alloc (.cells #[.map (some j.m)] 31)) fun e w' =>
    ∃ a cap, e = .returned (.slice a (J.keys P.n).length cap) ∧ Ints w' a ((J.keys P.n).map fun (i : Nat) => (i : Int)) ∧ Below w.heap.size w w' := by
  have hbd := h.bound
  have hmost := h.pl.ok.most
  have hlen := keys_len J P.n
  obtain ⟨nn, D, ho, hm⟩ := h.jn.mp
  have hh := held_of ho
  obtain ⟨k1, k2, k3⟩ := hh.keys
  have hsz : Maps.size D ≤ P.n := by
    rw [← k3]
    exact nodup_bound _ _ k1 fun y hy => by have := hbd y (by rw [← hm y]; exact (k2 y).1 hy); omega
  have hw : ∀ x : Int, x ∈ intKeys D ↔ x ∈ (J.keys P.n).map fun (i : Nat) => (i : Int) := by
    intro x
    rw [k2 x, hm x, List.mem_map]
    constructor
    · intro hx
      have := hbd x hx
      refine ⟨x.toNat, List.mem_filter.2 ⟨List.mem_range.2 (by omega), ?_⟩, by omega⟩
      unfold pmap at hx
      rw [if_pos this.1] at hx
      simpa using hx
    · rintro ⟨i, hi, rfl⟩
      have := (List.mem_filter.1 hi).2
      unfold pmap
      simpa using this
  refine Calls.mono (sortedB_raw j.m nn D (RE EB) w ho (by unfold maxLen; omega) (by omega)) ?_
  rintro e w' ⟨v, ss, rfl, hS, hrow, hnil, hb⟩
  have hss : ss.mergeSort (fun x y => decide (x ≤ y)) = (J.keys P.n).map fun (i : Nat) => (i : Int) :=
    sorted_eq (hS.nodup_iff.2 k1) (keys_rise J P.n) (fun x => (hS.mem_iff).trans (hw x))
  have hl : ss.length = ((J.keys P.n).map fun (i : Nat) => (i : Int)).length := by rw [← hss]; exact (List.length_mergeSort ss).symm
  rw [hss, hl] at hrow
  obtain ⟨a, cap, rfl, h1, h2⟩ := row_ints hrow (by rw [List.length_map]; omega)
  exact ⟨a, cap, by rw [List.length_map], h1, hb⟩
/-! ### Works of the call's own -/
theorem WkV.heap {x : Wk} {v : Value} (h : WkV w j q x v) (hk : ∀ (b : Nat) (cs : Array Value) (t : TypeId), t ≠ 29 → w.heap[b]? = some (.cells cs t (0, 0)) → w'.heap[b]? = w.heap[b]?) : WkV w' j q x v := by
  cases h with
  | fl => exact .fl
  | wr h1 h2 h3 h4 h5 h6 h7 => exact .wr h1 ((hk _ _ _ (by decide) h2).trans h2) ((hk _ _ _ (by decide) h3).trans h3) ((hk _ _ _ (by decide) h4).trans h4) h5 h6 h7
def OwnW (w : World) (j : JLoc) (q : PLoc) (base : Nat) (v : Value) (ws : List Wk) : Prop :=
  ∃ vs : List Value, w.ownsRow base 29 1 v ws.length vs ∧ ∀ (k : Nat) (x : Wk) (u : Value), ws[k]? = some x → vs[k]? = some u → WkV w j q x u
theorem OwnW.nil (w : World) (j : JLoc) (q : PLoc) (base : Nat) : OwnW w j q base (.slice none 0 0) [] := ⟨[], World.ownsRow_nil _ _ _ _, by simp⟩
theorem OwnW.below {base : Nat} {v : Value} {ws : List Wk} (h : OwnW w j q base v ws) (hb : Below w.heap.size w w') : OwnW w' j q base v ws := by
  obtain ⟨vs, ⟨h0, h1⟩, h2⟩ := h
  refine ⟨vs, ⟨h0, h1.imp id ?_⟩, fun k x u hx hu => (h2 k x u hx hu).below hb⟩
  rintro ⟨g, cap, cur, e, hg, hh, hr⟩
  exact ⟨g, cap, cur, e, hg, (hb.block _ (lt_of_heap hh)).trans hh, hr⟩
theorem OwnW.wks {base : Nat} {a : Option Addr} {n cap : Nat} {ws : List Wk} (h : OwnW w j q base (.slice a n cap) ws) (hbase : ∀ b ∈ q.R, b < base) (hl : ws.length ≤ 100000) : n = ws.length ∧ WksAt w j q a ws := by
  obtain ⟨vs, ⟨h0, h1⟩, h2⟩ := h
  rcases h1 with ⟨e, hn⟩ | ⟨g, cap', cur, e, hg, hh, hc, hm, hs, ht⟩
  · cases e
    exact ⟨hn.symm, by omega, .inl (List.eq_nil_of_length_eq_zero hn)⟩
  · cases e
    refine ⟨rfl, by omega, .inr ⟨g, 0, rfl, fun hm => Nat.lt_irrefl _ (Nat.lt_of_lt_of_le (hbase g hm) hg), fun k hk => ?_⟩⟩
    have hk2 : k < vs.length := by omega
    have hcell : w.cell? ⟨g, 0 + k, none⟩ = some vs[k] := by
      rw [Nat.zero_add, cell_of_row _ _ _ _ _ _ hh]
      have := congrArg (fun z => z[k]?) ht
      simp only [Nat.mul_one, List.getElem?_take, hk, if_true, List.getElem?_eq_getElem hk2, Array.getElem?_toList] at this
      exact this
    exact ⟨_, hcell, h2 k _ _ (List.getElem?_eq_getElem hk) (List.getElem?_eq_getElem hk2)⟩
theorem info34 : (Tryz.prog.info? 29).map (fun i => (i.zero, i.size, i.bytes)) = some (some .nilFunc, 1, 8) := by kernel_rfl
/-- append(l, works..), in a region that draws its order. -/
theorem step_append_wk {ops : Array Oper} {o : Oper} {a : Act} {K : Act → World → Prop} {Q : Exit → Act → World → Prop} {X : Prop} (hgd : o.guard = none) (s x : Operand)
    (ho : o.op = .call { callee := .builtin .append, args := #[s, x], argTypes := #[55, 55] }) (base : Nat) (v : Value) (ws : List Wk) (n0 : Nat) (hn0 : ws.length = n0) (hs : a.eval s = v) (hown : OwnW w j q base v ws)
    (gb m : Nat) (us : List Value) (xs : List Wk) (hx : a.eval x = .slice (some ⟨gb, 0, none⟩) m m) (hb : w.heap[gb]? = some (.cells us.toArray 29 (0, 0))) (hm : us.length = m) (hm2 : xs.length = m) (hm0 : 0 < m)
    (hu : ∀ (k : Nat) (x : Wk) (u : Value), xs[k]? = some x → us[k]? = some u → WkV w j q x u) (h1 : ∀ u ∈ us, u.oneCell' = true) (hk : ws.length + m ≤ 100000) (hbase : base ≤ w.heap.size)
    (h : ∀ v' w', (∃ g cap, v' = .slice (some ⟨g, 0, none⟩) (n0 + m) cap) → OwnW w' j q base v' (ws ++ xs) → Below base w w' → (∀ (b : Nat) (cs : Array Value) (t : TypeId), t ≠ 29 → w.heap[b]? = some (.cells cs t (0, 0)) → w'.heap[b]? = w.heap[b]?) → K (a.put o.dst v') w') :
    if Region.wanted o (yielded ops a.tmps) = true then Oper.wp Tryz.prog o a w K Q else X := by
  subst hn0
  obtain ⟨i0, hi, hz0, hz1, hz2⟩ := info_parts info34
  obtain ⟨vs, hrow, hwk⟩ := hown
  have hvl : vs.length = ws.length := by have := hrow.1; omega
  refine step_append_lies w hgd s x 55 ho base 29 i0 _ 1 8 Tryz.underlying55 hi hz0 hz1 hz2 rfl (by decide) v ws.length vs hs hrow ⟨gb, 0, none⟩ m m us hx (by rw [Nat.mul_one]; exact hm) (World.news_of_block hb) h1 hm0 (by unfold maxLen; omega) (by omega) hbase w.heap.size rfl ?_
  intro g cap w' hown hgrow hat hlt
  have hkeep : ∀ (b : Nat) (cs : Array Value) (t : TypeId), t ≠ 29 → w.heap[b]? = some (.cells cs t (0, 0)) → w'.heap[b]? = w.heap[b]? := by
    intro b cs t ht hbk
    refine hgrow.block b (lt_of_heap hbk) ?_
    obtain ⟨_, ⟨e, _⟩ | ⟨g', cap', cur, e, _, hg, _⟩⟩ := hrow
    · rw [e]; simp [Value.ownBlock]
    · rw [e]
      intro he
      have : b = g' := by simpa [Value.ownBlock] using he
      subst this
      rw [hg] at hbk
      cases hbk
      exact ht rfl
  refine h _ w' ⟨g, cap, rfl⟩ ⟨vs ++ us, by rw [List.length_append, hm2]; exact hown, fun k x u hx hu' => ?_⟩ ?_ hkeep
  · by_cases hkl : k < ws.length
    · rw [List.getElem?_append_left hkl] at hx
      rw [List.getElem?_append_left (by omega)] at hu'
      exact (hwk k x u hx hu').heap hkeep
    · rw [List.getElem?_append_right (by omega)] at hx
      rw [List.getElem?_append_right (by omega), hvl] at hu'
      exact (hu _ x u hx hu').heap hkeep
  · refine ⟨hgrow.os, hgrow.tape, hgrow.output, hgrow.size, fun i hi => hgrow.block i (by omega) ?_⟩
    obtain ⟨_, ⟨e, _⟩ | ⟨g', cap', cur, e, hg', _⟩⟩ := hrow
    · rw [e]; simp [Value.ownBlock]
    · rw [e]
      intro he
      have : i = g' := by simpa [Value.ownBlock] using he
      omega
end
end Go.Proofs.YtdhidcoglioalaaGreat.Walks
namespace Go.Proofs.YtdhidcoglioalaaGreat.Walks
open Go.RowKit Plain Jn
set_option linter.unusedVariables false
attribute [local go_sem ↓] exec_load116 exec_store116 exec_alloc116 exec_load112 exec_store112 exec_alloc112 exec_build3 exec_build4 Go.wp_at_zero Go.wp_at_succ exec_load112T exec_store116T exec_load116T
attribute [local go_sem] isPt_mk adOf_mk isI_mk iOf_mk cellsV_mk sctL_length blkL_length setCells_drew oneN_sct oneN_blk oneN_fields roomN_new isRow_new cellL_new alloc_setN roomN_past isRow_past cellL_past roomN_drew isRow_drew cellL_drew setCells_size setCells_past

theorem build023 (k n : Int) (f : Nat → Value) (w : World) : (Instr.build 52 #[(0, .int .i64 k), (2, .int .i64 n), (3, .agg ((List.range 48).map f).toArray)]).run Tryz.prog w = .ok (.agg (.int .i64 k :: .int .i64 0 :: .int .i64 n :: (List.range 48).map f).toArray) w := by
  kernel_rfl
section
variable {ρ : Operand → Value} {d : Option Tmp} {x z u : Operand} {t : TypeId} {p : String} {af : Array Edge} {gd : Option (Nat × Bool)} {w : World}
theorem exec_build023 (h1 : isI (ρ x) = true) (h3 : isI (ρ z) = true) (h4 : OneN 48 (ρ u)) : (execOp ρ ⟨d, .build 52 #[(0, x), (2, z), (3, u)], t, p, af, gd⟩).run Tryz.prog w = .ok (.value (.agg (.int .i64 (iOf (ρ x)) :: .int .i64 0 :: .int .i64 (iOf (ρ z)) :: cellsV (ρ u)).toArray)) w := by
  have e1 := isI_eq h1
  have e3 := isI_eq h3
  obtain ⟨vs, hn, _, e4⟩ := h4
  have e5 : vs = (List.range 48).map fun j => vs.getD j undef := by
    apply List.ext_getElem?
    intro j
    by_cases hj : j < 48
    · simp [hj, List.getD_eq_getElem?_getD, List.getElem?_eq_getElem (show j < vs.length by omega)]
    · rw [List.getElem?_eq_none (by omega), List.getElem?_eq_none (by simp; omega)]
  have hb := build023 (iOf (ρ x)) (iOf (ρ z)) (fun j => vs.getD j undef) w
  rw [← e5, ← e4, ← e1, ← e3] at hb
  simp only [execOp, List.map_toArray, List.map_cons, List.map_nil]
  simp only [Sem.run_bind, hb, Result.andThen_ok, Sem.run_pure]
  rw [← e1, ← e3]
  conv => rhs; rw [e4, cellsV_mk]
end
attribute [local go_sem ↓] exec_build023
section
variable {w w' : World} {j : JLoc} {q : PLoc} {J J' : Jn} {P P' : Pl}
def homeW (J : Jn) (n : Nat) : List Wk := (J.keys n).map fun i => Wk.wr (2 + J.log + i) (packS (homeSct i ((J.pend i).getD zeroB)))
theorem clearW_home (J : Jn) (n : Nat) : J.clearW n = homeW J n ++ [.fl, .wr (J.head % 2) (packS (headSct (J.head + 1) J.log J.at_ J.turn)), .fl] := rfl
theorem ints_home {i : Nat} {b : Blk} (hi : i ≤ 8192) : Sct.Ints (homeSct i b) := ⟨by show (-9223372036854775808 : Int) ≤ 4 ∧ (4 : Int) ≤ _; omega, by show (-9223372036854775808 : Int) ≤ 0 ∧ (0 : Int) ≤ _; omega, by show (-9223372036854775808 : Int) ≤ i ∧ (i : Int) ≤ _; omega⟩
theorem ints_head {h l a t : Nat} (hh : h ≤ 9223372036854775807) (hl : l ≤ 8192) : Sct.Ints (headSct h l a t) := ⟨by show (-9223372036854775808 : Int) ≤ 1 ∧ (1 : Int) ≤ _; omega, by show (-9223372036854775808 : Int) ≤ h ∧ (h : Int) ≤ _; omega, by show (-9223372036854775808 : Int) ≤ l ∧ (l : Int) ≤ _; omega⟩
theorem write72z (h : JP w j q J P) (z : Int) (i : Nat) (hz : z = i) (k t n : Int) (b : Blk) (hs : Sct.Ints ⟨k, t, n, b⟩) : Calls Tryz.prog 19 #[jv j, .int .i64 z, .agg (.int .i64 k :: .int .i64 t :: .int .i64 n :: blkL b).toArray] w fun e w' => ∃ cp, e = .returned (.func (.func 52) #[] cp) ∧ WkV w' j q (.wr i (packS ⟨k, t, n, b⟩)) (.func (.func 52) #[] cp) ∧ Below w.heap.size w w' := by
  rw [hz]
  refine Calls.mono (write72 h i ⟨k, t, n, b⟩ hs) ?_
  rintro e w' ⟨v, rfl, _, hw, hb⟩
  have key : ∀ x v, WkV w' j q x v → (∃ i s, x = .wr i s) → ∃ cp, v = .func (.func 52) #[] cp := by
    intro x v hx hi
    cases hx with
    | fl => obtain ⟨_, _, e⟩ := hi; cases e
    | wr h1 h2 h3 h4 h5 h6 h7 => exact ⟨_, rfl⟩
  obtain ⟨cp, rfl⟩ := key _ _ hw ⟨_, _, rfl⟩
  exact ⟨cp, rfl, hw, hb⟩
theorem below_base {w w1 w2 : World} {B : Nat} (h : Below B w w1) (hB : B ≤ w1.heap.size) (h2 : Below w1.heap.size w1 w2) : Below B w w2 := h.trans (h2.mono hB)
theorem three_wk {s : Sec} {i : Nat} {cp : Array Value} (h : WkV w j q (.wr i s) (.func (.func 52) #[] cp)) (k : Nat) (x : Wk) (u : Value) (hx : [Wk.fl, Wk.wr i s, Wk.fl][k]? = some x) (hu : [Value.func (.func 21) #[pv q] #[], .func (.func 52) #[] cp, .func (.func 21) #[pv q] #[]][k]? = some u) : WkV w j q x u := by
  match k with
  | 0 => simp only [List.getElem?_cons_zero, Option.some.injEq] at hx hu; subst hx hu; exact .fl
  | 1 => simp only [List.getElem?_cons_succ, List.getElem?_cons_zero, Option.some.injEq] at hx hu; subst hx hu; exact h
  | 2 => simp only [List.getElem?_cons_succ, List.getElem?_cons_zero, Option.some.injEq] at hx hu; subst hx hu; exact .fl
  | k + 3 => simp at hx
set_option maxRecDepth 10000 in
set_option maxHeartbeats 4000000 in
theorem clear_any (h : JP w j q J P) (hh : J.head < 4611686018427387904) : Calls Tryz.prog 8 #[jv j] w fun e w' => e = .returned (.int .i64 (clearE P J)) ∧ JP w' j q (clearJ P J) (clearP P J) ∧ Only (j.R q) w w' := by
  have hm := jmay_any h
  unfold jmay at hm
  unfold clearE clearP clearJ
  cases hb : J.broken
  · rw [hb] at hm
    simp only [Bool.false_eq_true, if_false] at hm ⊢
    have HM := Lib.hid hm
    have HS := Lib.hid (sortedJ h)
    have HK71 := Lib.hid (keys71 w (some j.m))
    have c6 := h.jn.c6
    have HBr := Lib.hid hb
    obtain ⟨n, hn⟩ : ∃ n, n = (J.keys P.n).length := ⟨_, rfl⟩
    have hn4 : n ≤ 4096 := by have := keys_len J P.n; have := h.pl.ok.most; omega
    rw [← hn] at HS
    have HN := Lib.hid hn
    have H := Lib.hid h
    have hhd := hh
    clear hm h hb hn
    go_enter Tryz.func8, Tryz.ntmps8
    go_wp2_with fail
    refine Calls.mono HM.out ?_
    rintro e w' ⟨rfl, rfl⟩
    go_wp2_with fail
    refine Calls.mono HK71.out ?_
    rintro e w' ⟨rfl, rfl⟩
    go_wp2_with fail
    refine Calls.mono HS.out ?_
    rintro e w1 ⟨a, cap, rfl, hI, hb1⟩
    have HJ := Lib.hid (H.out.below hb1)
    have HB1 := Lib.hid hb1
    have HI := Lib.hid hI
    clear hI hb1 c6
    go_wp2_with fail
    go_loopw [4, 20] (fun v i wr => ∃ k : Nat, k ≤ n ∧ i = .int .i64 k ∧ ∃ a' c', v = .slice a' k c' ∧ Hid (OwnW wr j q w1.heap.size (.slice a' k c') ((homeW J P.n).take k)) ∧ Hid (Below w1.heap.size w1 wr)) (fun _ i _ => n - (RowKit.intOf i).toNat)
    case atStart => exact ⟨0, Nat.zero_le _, rfl, none, 0, rfl, Lib.hid (OwnW.nil _ _ _ _), Lib.hid (Below.refl _ _)⟩
    case round =>
      obtain ⟨k, hk, rfl, a', c', rfl, HOw, HBw⟩ := hrel
      by_cases hlt : k < n
      · have hkl : k < (J.keys P.n).length := by have := HN.out; omega
        obtain ⟨b, off, rfl, _, hc⟩ := (HI.out.below HBw.out).at_lt (k := k) (by rw [List.length_map]; exact hkl)
        have hcell := hc k (by rw [List.length_map]; exact hkl)
        rw [List.getElem_map] at hcell
        obtain ⟨i, hi⟩ : ∃ i, i = (J.keys P.n)[k] := ⟨_, rfl⟩
        rw [← hi] at hcell
        obtain ⟨hib, hsome⟩ := keys_mem.1 (hi ▸ List.getElem_mem hkl : i ∈ J.keys P.n)
        obtain ⟨x, hx⟩ := Option.isSome_iff_exists.1 hsome
        have hj := HJ.out.below HBw.out
        have hi4 : i ≤ 4096 := by have := hj.pl.ok.most; omega
        have hL4 : J.log ≤ 4096 := by have := hj.pl.ok.most; have := hj.ok.logn; omega
        obtain ⟨L, hL⟩ : ∃ L, L = J.log := ⟨_, rfl⟩
        rw [← hL] at hL4
        have s1 := IntWalk.i64_in (n := 2 + (L : Int)) (by omega)
        have s2 := IntWalk.i64_in (n := 2 + (L : Int) + (i : Int)) (by omega)
        have MK : Hid (∀ w', Below w1.heap.size w1 w' → w'.cell? ⟨j.p, 1, none⟩ = some (.int .i64 L) ∧ w'.cell? ⟨j.p, 6, none⟩ = some (.map (some j.m)) ∧ (Instr.lookup 31 (.map (some j.m)) (.int .i64 (i : Int)) false).run Tryz.prog w' = .ok (.agg (blkL x).toArray) w') := Lib.hid fun w' hb => by
          have h2 := HJ.out.below hb
          have hl := h2.jn.mp.look (t := 31) (e := 48) false Tryz.underlying31 (zero112 _) (x := (i : Int)) (Wf.of (by omega) (by omega))
          rw [pmap_nat, hx] at hl
          exact ⟨by rw [hL]; exact h2.jn.c1, h2.jn.c6, hl⟩
        have HWr : Hid (∀ w', Below w1.heap.size w1 w' → Calls Tryz.prog 19 #[jv j, .int .i64 (2 + (L : Int) + (i : Int)), .agg (.int .i64 4 :: .int .i64 0 :: .int .i64 (i : Int) :: blkL x).toArray] w' fun e w'' => ∃ cp, e = .returned (.func (.func 52) #[] cp) ∧ WkV w'' j q (.wr (2 + L + i) (packS (homeSct i x))) (.func (.func 52) #[] cp) ∧ Below w'.heap.size w' w'') := Lib.hid fun w' hb =>
          write72z (HJ.out.below hb) _ (2 + L + i) (by omega) 4 0 i x (ints_home (by omega))
        have HTk : Hid ((homeW J P.n).take (k + 1) = (homeW J P.n).take k ++ [Wk.wr (2 + L + i) (packS (homeSct i x))]) := Lib.hid (by
          unfold homeW
          rw [List.take_succ_eq_append_getElem (by rw [List.length_map]; exact hkl), List.getElem_map, ← hi, hx, hL]
          rfl)
        have HLen : Hid (((homeW J P.n).take k).length = k) := Lib.hid (by unfold homeW; rw [List.length_take, List.length_map]; omega)
        obtain ⟨ws, hws⟩ : ∃ ws, ws = (homeW J P.n).take k := ⟨_, rfl⟩
        rw [← hws] at HOw HTk HLen
        have hS : Below w1.heap.size w1 wr := HBw.out
        obtain ⟨S0, S1, S2⟩ := MK.out wr hS
        clear hc hi hsome hib hx hj hL hkl hws
        go_wp2_with fail
        go_region_held_law (fun w' => w'.cell? ⟨j.p, 1, none⟩ = some (.int .i64 L) ∧ w'.cell? ⟨j.p, 6, none⟩ = some (.map (some j.m)) ∧ (Instr.lookup 31 (.map (some j.m)) (.int .i64 (i : Int)) false).run Tryz.prog w' = .ok (.agg (blkL x).toArray) w')
          (first | with_reducible exact MK.out _ hS | with_reducible exact MK.out _ hS.drew | with_reducible exact MK.out _ (below_base hS hS.size (Below.new _ _)))
          ((first
          | ((try go_simp); go_at_call 19; ((with_reducible refine Calls.mono (HWr.out _ ?_) ?_); (first | with_reducible exact hS | with_reducible exact hS.drew); rintro e w2 ⟨cp, rfl, hwk, hbe⟩; have hS0 := hS; have hS : Below w1.heap.size w1 w2 := (by first | exact below_base hS0 hS0.size hbe | exact below_base hS0.drew hS0.size hbe); have HOw2 : Hid (OwnW w2 j q w1.heap.size (.slice a' k c') ws) := Lib.hid (by first | exact HOw.out.below hbe | exact HOw.out.below ((Below.refl _ _).drew.trans hbe)); have HWk := Lib.hid hwk; clear hwk hbe))
          | (refine step_append_wk (by rfl) _ _ (by rfl) w1.heap.size (.slice a' k c') ws k HLen.out (by rfl) (HOw2.out.below (by first | exact Below.new _ _ | exact (Below.new _ _).drew | exact (Below.refl _ _).drew.alloc (Nat.le_refl _) _)) w2.heap.size 1 [.func (.func 52) #[] cp] [Wk.wr (2 + L + i) (packS (homeSct i x))] (by rfl) (heap_alloc_new _ _) rfl rfl (by decide) (by intro k0 x0 u0 e1 e2; cases k0 with | zero => (simp only [List.getElem?_cons_zero, Option.some.injEq] at e1 e2; subst e1 e2; exact HWk.out.below (Below.new _ _)) | succ k0 => (simp at e1)) (by intro u hu; simp only [List.mem_singleton] at hu; subst hu; rfl) (by have := HLen.out; omega) (by have := hS.size; simp; omega) ?_; rintro v5 w5 ⟨g5, c5, rfl⟩ hown5 hb5 _; have hS0 := hS; have hS : Below w1.heap.size w1 w5 := (by first | exact (below_base hS0 hS0.size (Below.new _ _)).trans hb5 | exact (below_base hS0 hS0.size (Below.new _ _)).drew.trans hb5 | exact (below_base hS0.drew hS0.size (Below.new _ _)).trans hb5); have HO5 := Lib.hid hown5; clear hown5 hb5)))
        all_goals
          go_wp2_with fail
          go_roundw
          case rel => exact ⟨k + 1, by omega, by go_num, _, _, rfl, Lib.hid (by rw [HTk.out]; exact HO5.out), Lib.hid hS⟩
          case measure => simp [RowKit.intOf]; omega
      · obtain rfl : k = n := by omega
        have hj := HJ.out.below HBw.out
        have hL4 : J.log ≤ 4096 := by have := hj.pl.ok.most; have := hj.ok.logn; omega
        have hA4 : J.at_ ≤ 4096 := by have := hj.ok.at_; omega
        have hT4 := hj.ok.turn
        have HTk : Hid ((homeW J P.n).take k = homeW J P.n) := Lib.hid (List.take_of_length_le (by unfold homeW; rw [List.length_map]; have := HN.out; omega))
        rw [HTk.out] at HOw
        have HLen : Hid ((homeW J P.n).length = k) := Lib.hid (by unfold homeW; rw [List.length_map]; exact HN.out.symm)
        obtain ⟨L, hL⟩ : ∃ L, L = J.log := ⟨_, rfl⟩
        obtain ⟨hd, hhe⟩ : ∃ hd, hd = J.head := ⟨_, rfl⟩
        obtain ⟨at_, hat⟩ : ∃ at_, at_ = J.at_ := ⟨_, rfl⟩
        obtain ⟨tn, htn⟩ : ∃ tn, tn = J.turn := ⟨_, rfl⟩
        rw [← hL] at hL4
        rw [← hhe] at hhd
        rw [← hat] at hA4
        rw [← htn] at hT4
        have MK : Hid (∀ w', Below w1.heap.size w1 w' → w'.cell? ⟨j.p, 0, none⟩ = some (pv q) ∧ w'.cell? ⟨j.p, 1, none⟩ = some (.int .i64 L) ∧ w'.cell? ⟨j.p, 2, none⟩ = some (.int .i64 hd) ∧ w'.cell? ⟨j.p, 3, none⟩ = some (.int .i64 at_) ∧ w'.cell? ⟨j.p, 5, none⟩ = some (.int .i64 tn)) := Lib.hid fun w' hb => by
          have h2 := (HJ.out.below hb).jn
          exact ⟨h2.c0, by rw [hL]; exact h2.c1, by rw [hhe]; exact h2.c2, by rw [hat]; exact h2.c3, by rw [htn]; exact h2.c5⟩
        obtain ⟨s, hs⟩ : ∃ s, s = headSct (hd + 1) L at_ tn := ⟨_, rfl⟩
        have HHd : Hid (∀ w', Calls Tryz.prog 26 #[.int .i64 ((hd : Int) + 1), .int .i64 L, .int .i64 at_, .int .i64 tn] w' fun e w'' => e = .returned (.agg (sctL s).toArray) ∧ Below w'.heap.size w' w'') := Lib.hid fun w' => by
          have := headOf_any w' (hd + 1) L at_ tn (by omega) (by omega)
          rw [← hs] at this
          exact this
        have HWr : Hid (∀ w', Below w1.heap.size w1 w' → Calls Tryz.prog 19 #[jv j, .int .i64 ((hd : Int).tmod 2), .agg (sctL s).toArray] w' fun e w'' => ∃ cp, e = .returned (.func (.func 52) #[] cp) ∧ WkV w'' j q (.wr (hd % 2) (packS s)) (.func (.func 52) #[] cp) ∧ Below w'.heap.size w' w'') := Lib.hid fun w' hb =>
          write72z (HJ.out.below hb) _ (hd % 2) (by rw [Int.tmod_eq_emod_of_nonneg (by omega)]; omega) s.kind s.turn s.number s.data (by rw [hs]; exact ints_head (by omega) (by omega))
        have HWs : Hid (homeW J P.n ++ [.fl, .wr (hd % 2) (packS s), .fl] = J.clearW P.n) := Lib.hid (by rw [clearW_home, hs, hL, hhe, hat, htn])
        have HhE := Lib.hid hhe
        have hmf : ∀ (fn : Fn) (first cap : Array Value) (w : World), (Instr.makeFunc fn first cap).run Tryz.prog w = .ok (.func fn first cap) w := fun _ _ _ _ => rfl
        have hS : Below w1.heap.size w1 wr := HBw.out
        have s1 := IntWalk.i64_in (n := (hd : Int) + 1) (by omega)
        obtain ⟨S0, S1, S2, S3, S4⟩ := MK.out wr hS
        obtain ⟨ws, hws⟩ : ∃ ws, ws = homeW J P.n := ⟨_, rfl⟩
        rw [← hws] at HOw HLen HWs
        clear hj hL hhe hat htn hs hws
        go_upto_region 10 with (fail)
        go_cut [4] from 45 to 82 (fun v4 wx => ∃ g5 c5, v4 = .slice (some ⟨g5, 0, none⟩) (k + 3) c5 ∧ Hid (OwnW wx j q w1.heap.size v4 (J.clearW P.n)) ∧ Hid (Below w1.heap.size w1 wx))
        case first =>
          have HK4 : Hid (k ≤ 4096) := Lib.hid hn4
          clear HM HS HK71 HI H HB1 HN HBw HTk hk hlt hn4
          go_region_held_law (fun w' => w'.cell? ⟨j.p, 0, none⟩ = some (pv q) ∧ w'.cell? ⟨j.p, 1, none⟩ = some (.int .i64 L) ∧ w'.cell? ⟨j.p, 2, none⟩ = some (.int .i64 hd) ∧ w'.cell? ⟨j.p, 3, none⟩ = some (.int .i64 at_) ∧ w'.cell? ⟨j.p, 5, none⟩ = some (.int .i64 tn))
            (first | with_reducible exact MK.out _ hS | with_reducible exact MK.out _ hS.drew | with_reducible exact MK.out _ (below_base hS hS.size (Below.new _ _)))
            ((first
            | ((try go_simp); go_at_call 26; ((with_reducible refine Calls.mono (HHd.out _) ?_); rintro e w2 ⟨rfl, hbe⟩; have hS0 := hS; have hS : Below w1.heap.size w1 w2 := (by first | exact below_base hS0 hS0.size hbe | exact below_base hS0.drew hS0.size hbe); have HOw1 : Hid (OwnW w2 j q w1.heap.size (.slice a' k c') ws) := Lib.hid (by first | exact HOw.out.below hbe | exact HOw.out.below ((Below.refl _ _).drew.trans hbe)); clear hbe))
            | ((try go_simp); go_at_call 19; ((with_reducible refine Calls.mono (HWr.out _ ?_) ?_); (first | with_reducible exact hS | with_reducible exact hS.drew); rintro e w3 ⟨cp, rfl, hwk, hbe⟩; have hS0 := hS; have hS : Below w1.heap.size w1 w3 := (by first | exact below_base hS0 hS0.size hbe | exact below_base hS0.drew hS0.size hbe); have HOw2 : Hid (OwnW w3 j q w1.heap.size (.slice a' k c') ws) := Lib.hid (by first | exact HOw1.out.below hbe | exact HOw1.out.below ((Below.refl _ _).drew.trans hbe)); have HWk := Lib.hid hwk; clear hwk hbe))
            | (refine step_append_wk (by rfl) _ _ (by rfl) w1.heap.size (.slice a' k c') ws k HLen.out (by rfl) (HOw2.out.below (by first | exact Below.new _ _ | exact (Below.new _ _).drew | exact (Below.refl _ _).drew.alloc (Nat.le_refl _) _)) w3.heap.size 3 [.func (.func 21) #[pv q] #[], .func (.func 52) #[] cp, .func (.func 21) #[pv q] #[]] [.fl, Wk.wr (hd % 2) (packS s), .fl] (by rfl) (heap_alloc_new _ _) rfl rfl (by decide) (three_wk (HWk.out.below (Below.new _ _))) (by intro u hu; simp only [List.mem_cons, List.not_mem_nil, or_false] at hu; rcases hu with rfl | rfl | rfl <;> rfl) (by have := HLen.out; have := HK4.out; omega) (by have := hS.size; simp; omega) ?_; rintro v5 w5 ⟨g5, c5, rfl⟩ hown5 hb5 _; have hS0 := hS; have hS : Below w1.heap.size w1 w5 := (by first | exact (below_base hS0 hS0.size (Below.new _ _)).trans hb5 | exact (below_base hS0 hS0.size (Below.new _ _)).drew.trans hb5 | exact (below_base hS0.drew hS0.size (Below.new _ _)).trans hb5); have HO5 := Lib.hid hown5; clear hown5 hb5)))
          all_goals
            simp only [List.getElem_toArray, List.getElem_cons_succ, List.getElem_cons_zero, List.setIfInBounds_toArray, List.set_cons_zero, List.set_cons_succ]
            go_wp2_with fail
            go_meet
            exact ⟨_, _, rfl, Lib.hid (by rw [← HWs.out]; exact HO5.out), Lib.hid hS⟩
        case rest =>
          obtain ⟨g5, c5, rfl, HO5, HB5⟩ := hcut
          have HJ5 := Lib.hid (HJ.out.below HB5.out)
          obtain ⟨hlen5, hwk5⟩ := HO5.out.wks (fun b hb => HJ.out.ltw hb) (by rw [← HWs.out]; have := HLen.out; simp; omega)
          have HW74 := Lib.hid (works_any HJ5.out HBr.out (some ⟨g5, 0, none⟩) (J.clearW P.n) (k + 3) c5 hlen5.symm hwk5)
          clear S0 S1 S2 S3 S4 hS hlen5 hwk5 s1 hmf
          unfold worksJ at HW74
          by_cases he : runE (J.clearW P.n) P = 0
          · rw [he] at HW74
            simp only [ne_eq, not_true_eq_false, if_false] at HW74
            obtain ⟨Q, hQ⟩ : ∃ Q, Q = runP (J.clearW P.n) P := ⟨_, rfl⟩
            rw [← hQ] at HW74
            have HE := Lib.hid he
            have HQ := Lib.hid hQ
            clear hQ he
            go_wp2_with fail
            refine Calls.mono HW74.out ?_
            rintro e w6 ⟨rfl, hj6, ho6⟩
            have c2 := hj6.jn.c2
            have f2 := hj6.jn.fz 2
            rw [← HhE.out] at c2
            have c4 := hj6.jn.c4
            have f4 := hj6.jn.fz 4
            have c6 := hj6.jn.c6
            have s1 := IntWalk.i64_in (n := (hd : Int) + 1) (by omega)
            have hO := hj6.ok
            have k1 := hj6.setCell (i := 2) (v := .int .i64 ((hd : Int) + 1)) (J' := { J with head := J.head + 1 }) ⟨hO.log2, hO.logn, hO.at_, hO.used, hO.turn, by show J.head + 1 ≤ _; have := HhE.out; omega, by show 0 < J.head + 1; omega, hO.pend, hO.flat⟩ (by simp) (by simp [HhE.out]) (by simp) (by simp) (by simp) (by simp) (by simp) (by simp) rfl
            have k2 := k1.setCell (i := 4) (v := .int .i64 0) (J' := { J with head := J.head + 1, used := 0 }) ⟨hO.log2, hO.logn, hO.at_, Nat.zero_le _, hO.turn, k1.ok.head, k1.ok.head0, hO.pend, hO.flat⟩ (by simp) (by simp) (by simp) (by simp) (by simp) (by simp) (by simp) (by simp) rfl
            obtain ⟨w7, hcl, hm7, hg7, hz7⟩ := k2.jn.mp.clear (t := 31) (e := 48) Tryz.underlying31 0
            have hJ7 : JP w7 j q J.cleared Q := k2.setMap (Only.of_grown hg7 (by simp)) (f := fun _ => none) (by rw [pmap_none]; exact hm7) ⟨hO.log2, hO.logn, hO.at_, Nat.zero_le _, hO.turn, k1.ok.head, k1.ok.head0, fun _ _ => rfl, fun _ _ e => by cases e⟩
            have hO7 : Only (j.R q) w6 w7 := ((((Only.refl _ w6).setCell JLoc.inP _).setCell JLoc.inP _)).trans (Only.of_grown hg7 JLoc.inM)
            have H7 := Lib.hid hJ7
            have HO7 := Lib.hid ((((Only.of_below HB1.out).trans (Only.of_below HB5.out)).trans ho6).trans hO7)
            clear hj6 ho6 k1 k2 hm7 hg7 hz7 hJ7 hO7 hO
            go_wp2
            go_ret
            exact ⟨by rw [HE.out]; rfl, by rw [← HQ.out]; exact H7.out, HO7.out⟩
          · obtain ⟨z, hz⟩ : ∃ z, z = runE (J.clearW P.n) P := ⟨_, rfl⟩
            have hzq : (z != 0) = true := ne_zero_bne (hz ▸ he)
            rw [if_pos he] at HW74
            rw [← hz] at HW74
            obtain ⟨Q, hQ⟩ : ∃ Q, Q = runP (J.clearW P.n) P := ⟨_, rfl⟩
            rw [← hQ] at HW74
            have HQ := Lib.hid hQ
            have HZ := Lib.hid hz
            clear hQ hz
            go_wp2_with fail
            refine Calls.mono HW74.out ?_
            rintro e w6 ⟨rfl, hj6, ho6⟩
            have H6 := Lib.hid hj6
            have HO6 := Lib.hid (((Only.of_below HB1.out).trans (Only.of_below HB5.out)).trans ho6)
            clear hj6 ho6
            go_wp2
            go_ret
            exact ⟨by rw [HZ.out]; rfl, by rw [← HQ.out]; exact H6.out, HO6.out⟩
  · rw [hb] at hm
    simp only [if_true] at hm ⊢
    have HM := Lib.hid hm
    have H := Lib.hid h
    clear hm h hb
    go_enter Tryz.func8, Tryz.ntmps8
    go_wp2_with fail
    refine Calls.mono HM.out ?_
    rintro e w' ⟨rfl, rfl⟩
    go_wp2
    go_ret
    exact ⟨rfl, H.out, Only.refl _ _⟩
end
end Go.Proofs.YtdhidcoglioalaaGreat.Walks
