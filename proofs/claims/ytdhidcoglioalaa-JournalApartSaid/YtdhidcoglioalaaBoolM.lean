/-
  A slice of bools is copied.
-/
import Derived.Test.YtdhidcoglioalaaPlateM
import Derived.Lib.SliceRun
import Derived.Laws.AppendOwnNone
namespace Go.Proofs.Ytdhidcoglioalaa.Walks
open Go.RowKit Plain
set_option linter.unusedVariables false

theorem Bools.at_lt {w : World} {a : Option Addr} {l : List Bool} (h : Bools w a l) {i : Nat} (hi : i < l.length) :
    ∃ b off, a = some ⟨b, off, none⟩ ∧ b < w.heap.size ∧ ∀ i (h : i < l.length), w.cell? ⟨b, off + i, none⟩ = some (.bool l[i]) := by
  rcases h.2 with rfl | ⟨b, off, e, hc⟩
  · simp at hi
  · exact ⟨b, off, e, block_lt_of_cell (hc i hi), hc⟩
/-- A slice of bools in memory of the call's own. -/
abbrev OwnBo (w : World) (base : Nat) (a : Option Addr) (l : List Bool) (cap : Nat) : Prop := w.ownsRow base 4 1 (.slice a l.length cap) l.length (l.map Value.bool)
theorem OwnBo.bools {w : World} {base : Nat} {a : Option Addr} {l : List Bool} {cap : Nat} (h : OwnBo w base a l cap) (hm : l.length ≤ 140737488355328) : Bools w a l ∧ ∀ ad, a = some ad → base ≤ ad.block := by
  obtain ⟨_, ⟨h1, h2⟩ | ⟨g, cap', cur, h1, hb, hg, hc, hmx, hs, ht⟩⟩ := h
  · have h0 := List.eq_nil_of_length_eq_zero h2
    simp only [Value.slice.injEq] at h1
    obtain ⟨rfl, _⟩ := h1
    exact ⟨⟨hm, .inl h0⟩, (fun _ e => by cases e)⟩
  · simp only [Value.slice.injEq] at h1
    obtain ⟨rfl, _, rfl⟩ := h1
    refine ⟨⟨hm, .inr ⟨g, 0, rfl, fun i hi => ?_⟩⟩, fun ad e => by cases e; exact hb⟩
    rw [cell_of_row _ _ _ _ _ _ hg]
    have ht' : cur.toList.take l.length = l.map Value.bool := by simpa using ht
    have := congrArg (fun z => z[i]?) ht'
    simp only [List.getElem?_take, hi, if_true, List.getElem?_map, List.getElem?_eq_getElem hi, Option.map_some] at this
    rw [Nat.zero_add, ← Array.getElem?_toList]
    exact this
theorem info4 : (Try.prog.info? 4).map (fun i => (i.zero, i.size, i.bytes)) = some (some (.bool false), 1, 1) := by kernel_rfl
theorem news_bools {w : World} {ad : Addr} {l : List Bool} (h : Bools w (some ad) l) : ∀ j u, (l.map Value.bool)[j]? = some u → w.cell? (ad.add j) = some u := by
  intro j u hj
  have hj' : j < l.length := by
    have := (List.getElem?_eq_some_iff.1 hj).1
    simpa using this
  obtain ⟨b, off, hh, _, hc⟩ := h.at_lt hj'
  cases hh
  rw [List.getElem?_map, List.getElem?_eq_getElem hj'] at hj
  simp at hj
  subst hj
  rw [Addr.add_mid]
  exact hc j hj'
theorem bools_one (l : List Bool) : ∀ u ∈ l.map Value.bool, u.oneCell' = true := by
  intro u hu; simp at hu; rcases hu with ⟨_, rfl⟩ | ⟨_, rfl⟩ <;> rfl
/-- append(v, l...), v the call's own and empty. -/
theorem wp_append_bools {w : World} {ops : Array Oper} {rest : List Oper} {o : Oper} {a : Act} {Q : Exit → Act → World → Prop} (hgd : o.guard = none) (s x : Operand)
    (ho : o.op = .call { callee := .builtin .append, args := #[s, x], argTypes := #[23, 23] }) (base : Nat) (v : Value) (hs : a.eval s = v) (hown : w.ownsRow base 4 1 v 0 [])
    (ad : Addr) (c : Nat) (l : List Bool) (n : Nat) (hln : l.length = n) (hx : a.eval x = .slice (some ad) n c) (hB : Bools w (some ad) l) (hbase : base ≤ w.heap.size)
    (h : ∀ a' cap' w', OwnBo w' base a' l cap' → w.grownBy w' v.ownBlock → wpList Try.prog ops Q rest (a.put o.dst (.slice a' n cap')) w') : wpList Try.prog ops Q (o :: rest) a w := by
  obtain ⟨i0, hi, hz0, hz1, hz2⟩ := info_parts info4
  subst hln
  have hm := hB.1
  refine wpList_append_own w hgd s x 23 ho base 4 i0 (.bool false) 1 1 Try.underlying23 hi hz0 hz1 hz2 rfl (by decide) v 0 [] hs hown ad l.length c (l.map Value.bool) hx (by simp) (news_bools hB) (bools_one _)
      (by unfold maxLen; omega) (by omega) hbase ?_
  intro v' w' h1 h2 h3
  rw [List.nil_append, Nat.zero_add] at h1
  have h1' := h1
  obtain ⟨_, ⟨e, h0⟩ | ⟨g, cap', cur, e, _⟩⟩ := h1'
  · subst e
    have := h none 0 w' (by rw [OwnBo, h0]; rw [h0] at h1; exact h1) h2
    rw [h0] at this
    exact this
  · subst e
    exact h _ _ w' h1 h2
theorem nil23 : ∀ (w : World) (a : Option Addr) (l c : Nat), (binOp .eql 23 (.slice a l c) (.slice none 0 0)).run Try.prog w = .ok (.bool a.isNone) w := fun w a l c => Lib.run_eql_slice_nil w 23 4 a l c 0 0 Try.underlying23
theorem ownsRowBo_empty (w : World) : (w.alloc (.cells #[] 4)).ownsRow w.heap.size 4 1 (.slice (some ⟨w.heap.size, 0, none⟩) 0 0) 0 [] :=
  ⟨by simp, .inr ⟨w.heap.size, 0, #[], rfl, Nat.le_refl _, heap_alloc_new _ _, Nat.le_refl _, by unfold maxLen; omega, rfl, rfl⟩⟩
def CloneBo (l : List Bool) (w : World) (e : Ending) (w' : World) : Prop := ∃ a' cap', e = .returned (.slice a' l.length cap') ∧ Bools w' a' l ∧ (∀ ad, a' = some ad → w.heap.size ≤ ad.block) ∧ Below w.heap.size w w'
theorem cloneBo_any (a : Option Addr) (cap : Nat) (l : List Bool) (w : World) (hI : Bools w a l) (hn : a = none → cap = 0) :
    Calls Try.prog 48 #[.slice a l.length cap] w (CloneBo l w) := by
  have hm := hI.1
  rcases Option.eq_none_or_eq_some a with rfl | ⟨ad, rfl⟩
  · have hc := hn rfl
    subst hc
    have hl : l = [] := by
      rcases hI.2 with h | ⟨b, off, h, _⟩
      · exact h
      · cases h
    subst hl
    clear hI hn
    have hnil := nil23
    go_enter Try.func48, Try.ntmps48
    go_wp2
    go_ret
    exact ⟨none, 0, rfl, Bools.nil _ _, (fun _ e => by cases e), Below.refl _ _⟩
  · have HI := Lib.hid hI
    clear hI hn
    have hnil := nil23
    go_enter Try.func48, Try.ntmps48
    go_wp2_with (first | (at_builtin; go_loud (refine wp_append_bools rfl (.tmp 5) (.tmp 6) rfl w.heap.size _ rfl (ownsRowBo_empty w) ad cap l l.length rfl rfl (HI.out.below (Below.new _ _)) (by simp) ?_)))
    intro a' cap' w' hown hg
    have HO := Lib.hid hown
    have HG := Lib.hid hg
    clear hown hg
    go_wp2
    go_ret
    obtain ⟨h1, h2⟩ := HO.out.bools hm
    exact ⟨a', cap', rfl, h1, h2, ((Below.new w _).grown HG.out (by simp) (by intro k hk; cases hk; exact Nat.le_refl _))⟩
end Go.Proofs.Ytdhidcoglioalaa.Walks
