/-
  The sorted keys of what is pending; works of the call's own.
-/
import Derived.Test.YtdhidcoglioalaaPlateK
import Derived.Test.YtdhidcoglioalaaJI
import Derived.Deep.AppendLies
import Derived.Deep.RegionHeldLaw
namespace Go.Proofs
open Go.Shelf
def Try.keysB_ren : Go.Shelf.Ren := ⟨fun | 7 => 71 | 10 => 92 | n => n, fun | 23 => 106 | 26 => 3 | 3 => 112 | 28 => 85 | 0 => 0 | 27 => 84 | 33 => 44 | 4 => 4 | n => n, fun | n => n⟩
theorem Try.keysB : Go.Proofs.SlLaysZI.n7 Try.prog Try.keysB_ren := {
  mixed := by kernel_rfl
  f7 := ⟨Try.f71.name, by decide, Try.func71.trans (congrArg some (by kernel_rfl))⟩
  f10 := ⟨Try.f92.name, by decide, Try.func92.trans (congrArg some (by kernel_rfl))⟩
  t0 := Try.underlying0
  a0 := Try.isAgg0
  z0 := Try.sizeOf0
  v0 := Try.zeroValue0
  t4 := Try.underlying4
  a4 := Try.isAgg4
  z4 := Try.sizeOf4
  v4 := Try.zeroValue4
  t23 := Try.underlying106
  a23 := Try.isAgg106
  z23 := Try.sizeOf106
  v23 := Try.zeroValue106
  t26 := Try.underlying3
  a26 := Try.isAgg3
  z26 := Try.sizeOf3
  v26 := Try.zeroValue3
  t27 := Try.underlying84
  a27 := Try.isAgg84
  z27 := Try.sizeOf84
  v27 := Try.zeroValue84
  t28 := Try.underlying85
  a28 := Try.isAgg85
  z28 := Try.sizeOf85
  v28 := Try.zeroValue85
  t33 := Try.underlying44
  a33 := Try.isAgg44
  z33 := Try.sizeOf44
  v33 := Try.zeroValue44 }
end Go.Proofs
namespace Go.Proofs.Ytdhidcoglioalaa.Walks
open Go.RowKit Plain
open Go.Maps Go.Sort Go.Shelf
set_option linter.unusedVariables false
theorem keys71 (w : World) (mb : Option Nat) : Calls Try.prog 71 #[.map mb] w fun e w' => e = .returned (.func (.func 92) #[] #[.pointer (some ⟨w.heap.size, 0, none⟩)]) ∧ w' = w.alloc (.cells #[.map mb] 106) :=
  (callsIn_wide (n := 5)).1 (AnyZI.keys_in Try.keysB Fence.wide 5 trivial rfl mb w)
set_option maxHeartbeats 1000000 in
set_option maxRecDepth 100000 in
theorem sortedB_raw (b nn : Nat) (D0 : DM) (R : Value → Option (DM × List MemPlace)) (w : World) (hown : w.ownsMap Try.prog 3 R b nn D0) (hmax : Maps.size D0 ≤ maxLen) (hbytes : Maps.size D0 * 8 ≤ 140737488355328) :
    Calls Try.prog 44 #[.func (.func 92) #[] #[.pointer (some ⟨w.heap.size, 0, none⟩)]] (w.alloc (.cells #[.map (some b)] 106)) fun e w' => ∃ (v : Value) (ss : List Int), e = .returned v ∧ ss.Perm (intKeys D0) ∧
      w'.ownsRow w.heap.size 3 1 v ss.length ((ss.mergeSort (fun x y => decide (x ≤ y))).map encZ) ∧ (v = .slice none 0 0 ↔ ss = []) ∧ Below w.heap.size w w' := by
  refine (callsIn_wide (n := 5)).1 ?_
  have hbl := hown.lt
  have hseq : SeqGives Fence.wide 2 Try.prog 92 #[.pointer (some ⟨w.heap.size, 0, none⟩)] encZ (fun ss => ss.Perm (intKeys D0)) (Maps.size D0) (w.alloc (.cells #[.map (some b)] 106)) :=
    AnyZI.keys_gives (ρ := Try.keysB_ren) { Try.keysB with } Fence.wide _ trivial rfl (by omega) w.heap.size b nn D0 _ (by simp) (by simp) (by
      obtain ⟨es, clock, hb, Ft, hs, hD⟩ := hown
      exact ⟨es, clock, (Below.heap_alloc _ _ b hbl).trans hb, Ft, hs, hD⟩)
  have cS := AnyZI.sorted_in Try.sortedA Fence.wide 5 trivial trivial trivial trivial rfl (by omega) (Try.sortsA _) (enters_of Try.func76 (by kernel_rfl) rfl) 92 #[.pointer (some ⟨w.heap.size, 0, none⟩)] trivial (enters_of Try.func92 (by kernel_rfl) rfl) _ _ hmax hbytes _ hseq
  change CallsIn _ _ Try.prog 44 _ _ _ at cS
  refine cS.mono ?_
  rintro e w' ⟨v, ss, rfl, hS, hrow, hnil, hb⟩
  exact ⟨v, ss, rfl, hS, ownsRow_base_a hrow (by simp), hnil, ((Below.refl _ w).alloc (Nat.le_refl _) _).trans (hb.mono (by simp))⟩
theorem keys_len (J : Jn) (n : Nat) : (J.keys n).length ≤ n := by
  have h1 : (J.keys n).length ≤ (List.range (n - 2 - J.log)).length := List.length_filter_le _ _
  rw [List.length_range] at h1
  omega
theorem keys_rise (J : Jn) (n : Nat) : ((J.keys n).map fun (i : Nat) => (i : Int)).Pairwise (· < ·) := by
  refine List.pairwise_map.2 ?_
  have h1 : (J.keys n).Pairwise (· < ·) := List.Pairwise.filter _ List.pairwise_lt_range
  exact h1.imp fun h => by omega
section
variable {w w' : World} {j : JLoc} {q : PLoc} {J J' : Jn} {P P' : Pl}
theorem sortedJ (h : JP w j q J P) : Calls Try.prog 44 #[.func (.func 92) #[] #[.pointer (some ⟨w.heap.size, 0, none⟩)]] (w.alloc (.cells #[.map (some j.m)] 106)) fun e w' =>
    ∃ a cap, e = .returned (.slice a (J.keys P.n).length cap) ∧ Ints w' a ((J.keys P.n).map fun (i : Nat) => (i : Int)) ∧ Below w.heap.size w w' := by
  have hbd := h.bound
  have hmost := h.pl.ok.most
  have hlen := keys_len J P.n
  obtain ⟨nn, D, ho, hm⟩ := h.jn.mp
  have hh := held_of ho
  obtain ⟨k1, k2, k3⟩ := hh.keys
  have hsz : Maps.size D ≤ P.n := by
    rw [← k3]
    exact nodup_bound _ _ k1 fun y hy => by have := hbd y (by rw [← hm y]; exact (k2 y).1 hy); omega
  have hw : ∀ x : Int, x ∈ intKeys D ↔ x ∈ (J.keys P.n).map fun (i : Nat) => (i : Int) := by
    intro x
    rw [k2 x, hm x, List.mem_map]
    constructor
    · intro hx
      have := hbd x hx
      refine ⟨x.toNat, List.mem_filter.2 ⟨List.mem_range.2 (by omega), ?_⟩, by omega⟩
      unfold pmap at hx
      rw [if_pos this.1] at hx
      simpa using hx
    · rintro ⟨i, hi, rfl⟩
      have := (List.mem_filter.1 hi).2
      unfold pmap
      simpa using this
  refine Calls.mono (sortedB_raw j.m nn D (RE EB) w ho (by unfold maxLen; omega) (by omega)) ?_
  rintro e w' ⟨v, ss, rfl, hS, hrow, hnil, hb⟩
  have hss : ss.mergeSort (fun x y => decide (x ≤ y)) = (J.keys P.n).map fun (i : Nat) => (i : Int) :=
    sorted_eq (hS.nodup_iff.2 k1) (keys_rise J P.n) (fun x => (hS.mem_iff).trans (hw x))
  have hl : ss.length = ((J.keys P.n).map fun (i : Nat) => (i : Int)).length := by rw [← hss]; exact (List.length_mergeSort ss).symm
  rw [hss, hl] at hrow
  obtain ⟨a, cap, rfl, h1, h2⟩ := row_ints hrow (by rw [List.length_map]; omega)
  exact ⟨a, cap, by rw [List.length_map], h1, hb⟩
/-! ### Works of the call's own -/
theorem WkV.heap {x : Wk} {v : Value} (h : WkV w j q x v) (hk : ∀ (b : Nat) (cs : Array Value) (t : TypeId), t ≠ 34 → w.heap[b]? = some (.cells cs t (0, 0)) → w'.heap[b]? = w.heap[b]?) : WkV w' j q x v := by
  cases h with
  | fl => exact .fl
  | wr h1 h2 h3 h4 h5 h6 h7 => exact .wr h1 ((hk _ _ _ (by decide) h2).trans h2) ((hk _ _ _ (by decide) h3).trans h3) ((hk _ _ _ (by decide) h4).trans h4) h5 h6 h7
def OwnW (w : World) (j : JLoc) (q : PLoc) (base : Nat) (v : Value) (ws : List Wk) : Prop :=
  ∃ vs : List Value, w.ownsRow base 34 1 v ws.length vs ∧ ∀ (k : Nat) (x : Wk) (u : Value), ws[k]? = some x → vs[k]? = some u → WkV w j q x u
theorem OwnW.nil (w : World) (j : JLoc) (q : PLoc) (base : Nat) : OwnW w j q base (.slice none 0 0) [] := ⟨[], World.ownsRow_nil _ _ _ _, by simp⟩
theorem OwnW.below {base : Nat} {v : Value} {ws : List Wk} (h : OwnW w j q base v ws) (hb : Below w.heap.size w w') : OwnW w' j q base v ws := by
  obtain ⟨vs, ⟨h0, h1⟩, h2⟩ := h
  refine ⟨vs, ⟨h0, h1.imp id ?_⟩, fun k x u hx hu => (h2 k x u hx hu).below hb⟩
  rintro ⟨g, cap, cur, e, hg, hh, hr⟩
  exact ⟨g, cap, cur, e, hg, (hb.block _ (lt_of_heap hh)).trans hh, hr⟩
theorem OwnW.wks {base : Nat} {a : Option Addr} {n cap : Nat} {ws : List Wk} (h : OwnW w j q base (.slice a n cap) ws) (hbase : ∀ b ∈ q.R, b < base) (hl : ws.length ≤ 100000) : n = ws.length ∧ WksAt w j q a ws := by
  obtain ⟨vs, ⟨h0, h1⟩, h2⟩ := h
  rcases h1 with ⟨e, hn⟩ | ⟨g, cap', cur, e, hg, hh, hc, hm, hs, ht⟩
  · cases e
    exact ⟨hn.symm, by omega, .inl (List.eq_nil_of_length_eq_zero hn)⟩
  · cases e
    refine ⟨rfl, by omega, .inr ⟨g, 0, rfl, fun hm => Nat.lt_irrefl _ (Nat.lt_of_lt_of_le (hbase g hm) hg), fun k hk => ?_⟩⟩
    have hk2 : k < vs.length := by omega
    have hcell : w.cell? ⟨g, 0 + k, none⟩ = some vs[k] := by
      rw [Nat.zero_add, cell_of_row _ _ _ _ _ _ hh]
      have := congrArg (fun z => z[k]?) ht
      simp only [Nat.mul_one, List.getElem?_take, hk, if_true, List.getElem?_eq_getElem hk2, Array.getElem?_toList] at this
      exact this
    exact ⟨_, hcell, h2 k _ _ (List.getElem?_eq_getElem hk) (List.getElem?_eq_getElem hk2)⟩
theorem info34 : (Try.prog.info? 34).map (fun i => (i.zero, i.size, i.bytes)) = some (some .nilFunc, 1, 8) := by kernel_rfl
/-- append(l, works..), in a region that draws its order. -/
theorem step_append_wk {ops : Array Oper} {o : Oper} {a : Act} {K : Act → World → Prop} {Q : Exit → Act → World → Prop} {X : Prop} (hgd : o.guard = none) (s x : Operand)
    (ho : o.op = .call { callee := .builtin .append, args := #[s, x], argTypes := #[119, 119] }) (base : Nat) (v : Value) (ws : List Wk) (n0 : Nat) (hn0 : ws.length = n0) (hs : a.eval s = v) (hown : OwnW w j q base v ws)
    (gb m : Nat) (us : List Value) (xs : List Wk) (hx : a.eval x = .slice (some ⟨gb, 0, none⟩) m m) (hb : w.heap[gb]? = some (.cells us.toArray 34 (0, 0))) (hm : us.length = m) (hm2 : xs.length = m) (hm0 : 0 < m)
    (hu : ∀ (k : Nat) (x : Wk) (u : Value), xs[k]? = some x → us[k]? = some u → WkV w j q x u) (h1 : ∀ u ∈ us, u.oneCell' = true) (hk : ws.length + m ≤ 100000) (hbase : base ≤ w.heap.size)
    (h : ∀ v' w', (∃ g cap, v' = .slice (some ⟨g, 0, none⟩) (n0 + m) cap) → OwnW w' j q base v' (ws ++ xs) → Below base w w' → (∀ (b : Nat) (cs : Array Value) (t : TypeId), t ≠ 34 → w.heap[b]? = some (.cells cs t (0, 0)) → w'.heap[b]? = w.heap[b]?) → K (a.put o.dst v') w') :
    if Region.wanted o (yielded ops a.tmps) = true then Oper.wp Try.prog o a w K Q else X := by
  subst hn0
  obtain ⟨i0, hi, hz0, hz1, hz2⟩ := info_parts info34
  obtain ⟨vs, hrow, hwk⟩ := hown
  have hvl : vs.length = ws.length := by have := hrow.1; omega
  refine step_append_lies w hgd s x 119 ho base 34 i0 _ 1 8 Try.underlying119 hi hz0 hz1 hz2 rfl (by decide) v ws.length vs hs hrow ⟨gb, 0, none⟩ m m us hx (by rw [Nat.mul_one]; exact hm) (World.news_of_block hb) h1 hm0 (by unfold maxLen; omega) (by omega) hbase w.heap.size rfl ?_
  intro g cap w' hown hgrow hat hlt
  have hkeep : ∀ (b : Nat) (cs : Array Value) (t : TypeId), t ≠ 34 → w.heap[b]? = some (.cells cs t (0, 0)) → w'.heap[b]? = w.heap[b]? := by
    intro b cs t ht hbk
    refine hgrow.block b (lt_of_heap hbk) ?_
    obtain ⟨_, ⟨e, _⟩ | ⟨g', cap', cur, e, _, hg, _⟩⟩ := hrow
    · rw [e]; simp [Value.ownBlock]
    · rw [e]
      intro he
      have : b = g' := by simpa [Value.ownBlock] using he
      subst this
      rw [hg] at hbk
      cases hbk
      exact ht rfl
  refine h _ w' ⟨g, cap, rfl⟩ ⟨vs ++ us, by rw [List.length_append, hm2]; exact hown, fun k x u hx hu' => ?_⟩ ?_ hkeep
  · by_cases hkl : k < ws.length
    · rw [List.getElem?_append_left hkl] at hx
      rw [List.getElem?_append_left (by omega)] at hu'
      exact (hwk k x u hx hu').heap hkeep
    · rw [List.getElem?_append_right (by omega)] at hx
      rw [List.getElem?_append_right (by omega), hvl] at hu'
      exact (hu _ x u hx hu').heap hkeep
  · refine ⟨hgrow.os, hgrow.tape, hgrow.output, hgrow.size, fun i hi => hgrow.block i (by omega) ?_⟩
    obtain ⟨_, ⟨e, _⟩ | ⟨g', cap', cur, e, hg', _⟩⟩ := hrow
    · rw [e]; simp [Value.ownBlock]
    · rw [e]
      intro he
      have : i = g' := by simpa [Value.ownBlock] using he
      omega
end
end Go.Proofs.Ytdhidcoglioalaa.Walks
