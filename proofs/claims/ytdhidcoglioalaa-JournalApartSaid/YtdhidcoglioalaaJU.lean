/-
  A deed: some blocks of one byte each are committed, or the log is cleared.
-/
import Derived.Test.YtdhidcoglioalaaJS
namespace Go.Proofs.Ytdhidcoglioalaa.Walks
open Go.RowKit Plain Jn
set_option linter.unusedVariables false
theorem z67 : (Try.prog.info? 67).map (·.size) = some 12 := by kernel_rfl
def tw0 : Nat → Byte := fun _ => 0
theorem zero67 (w : World) : (zeroValue 67).run Try.prog w = .ok (twV tw0) w := by
  kernel_rfl
def boL (f : Nat → Bool) : List Value := (List.range 12).map fun i => .bool (f i)
theorem boL_length (f : Nat → Bool) : (boL f).length = 12 := by simp [boL]
theorem boL_get (f : Nat → Bool) {i : Nat} (h : i < 12) : (boL f)[i]? = some (.bool (f i)) := by simp [boL, h]
theorem zero103 (w : World) : (zeroValue 103).run Try.prog w = .ok (.agg (boL fun _ => false).toArray) w := by
  kernel_rfl
section
variable {ρ : Operand → Value} {d : Option Tmp} {x y : Operand} {t : TypeId} {p : String} {af : Array Edge} {gd : Option (Nat × Bool)} {w : World} {T : TypeId}
theorem exec_load67 (h1 : isPt (ρ x) = true) (h2 : IsRow 12 w (adOf (ρ x))) : (execOp ρ ⟨d, .load 67 x, t, p, af, gd⟩).run Try.prog w = .ok (.value (.agg (cellL 12 w (adOf (ρ x))).toArray)) w := exec_loadN Try.underlying67 rfl z67 h1 h2
theorem exec_store67 (h1 : isPt (ρ x) = true) (h2 : RoomN 12 w (adOf (ρ x))) (h3 : OneN 12 (ρ y)) : (execOp ρ ⟨d, .store 67 x y, t, p, af, gd⟩).run Try.prog w = .ok .skip (w.setCells (adOf (ρ x)).block (adOf (ρ x)).off (cellsV (ρ y))) := exec_storeN z67 h1 h2 h3
theorem exec_alloc67 : (execOp ρ ⟨d, .alloc 67, t, p, af, gd⟩).run Try.prog w = .ok (.value (.pointer (some ⟨w.heap.size, 0, none⟩))) (w.alloc (.cells (twL tw0).toArray 67)) := exec_allocN zero67
theorem exec_alloc103 : (execOp ρ ⟨d, .alloc 103, t, p, af, gd⟩).run Try.prog w = .ok (.value (.pointer (some ⟨w.heap.size, 0, none⟩))) (w.alloc (.cells (boL fun _ => false).toArray 103)) := exec_allocN zero103
theorem exec_load67T (hT : Hid (T = 67)) (h1 : isPt (ρ x) = true) (h2 : IsRow 12 w (adOf (ρ x))) : (execOp ρ ⟨d, .load T x, t, p, af, gd⟩).run Try.prog w = .ok (.value (.agg (cellL 12 w (adOf (ρ x))).toArray)) w := by
  rw [hT.out]
  exact exec_load67 h1 h2
theorem exec_store67T (hT : Hid (T = 67)) (h1 : isPt (ρ x) = true) (h2 : RoomN 12 w (adOf (ρ x))) (h3 : OneN 12 (ρ y)) : (execOp ρ ⟨d, .store T x y, t, p, af, gd⟩).run Try.prog w = .ok .skip (w.setCells (adOf (ρ x)).block (adOf (ρ x)).off (cellsV (ρ y))) := by
  rw [hT.out]
  exact exec_store67 h1 h2 h3
end
theorem byteV_one' (f : Nat → Byte) : ∀ u ∈ twL f, u.oneCell' = true := by
  intro u hu
  obtain ⟨i, _, rfl⟩ := List.mem_map.1 hu
  rfl
theorem oneN_tw (f : Nat → Byte) : OneN 12 (.agg (twL f).toArray) := ⟨_, twL_length f, byteV_one' f, rfl⟩
attribute [local go_sem ↓] exec_load67 exec_store67 exec_alloc67 exec_alloc103 exec_load67T exec_store67T Go.wp_at_zero Go.wp_at_succ
attribute [local go_sem] isPt_mk adOf_mk cellsV_mk twL_length setCells_drew oneN_tw roomN_new isRow_new cellL_new alloc_setN roomN_past isRow_past cellL_past roomN_drew isRow_drew cellL_drew setCells_size setCells_past
/-! ### Puts of the call's own -/
def flatP : List (Nat × Byte) → List Nat → List Value
  | x :: l, g :: gs => .int .i64 (x.1 : Int) :: .slice (some ⟨g, 0, none⟩) 48 48 :: flatP l gs
  | _, _ => []
theorem flatP_get : ∀ (l : List (Nat × Byte)) (gs : List Nat) (k : Nat) (x : Nat × Byte) (g : Nat), l[k]? = some x → gs[k]? = some g → (flatP l gs)[k * 2]? = some (.int .i64 (x.1 : Int)) ∧ (flatP l gs)[k * 2 + 1]? = some (.slice (some ⟨g, 0, none⟩) 48 48)
  | y :: l, h :: gs, 0, x, g, hx, hg => by
    simp only [List.getElem?_cons_zero, Option.some.injEq] at hx hg
    subst hx hg
    exact ⟨rfl, rfl⟩
  | y :: l, h :: gs, k + 1, x, g, hx, hg => by
    rw [List.getElem?_cons_succ] at hx hg
    obtain ⟨h1, h2⟩ := flatP_get l gs k x g hx hg
    unfold flatP
    rw [show (k + 1) * 2 = k * 2 + 1 + 1 by omega, show k * 2 + 1 + 1 + 1 = (k * 2 + 1) + 1 + 1 by omega, List.getElem?_cons_succ, List.getElem?_cons_succ, List.getElem?_cons_succ, List.getElem?_cons_succ]
    exact ⟨h1, h2⟩
  | [], _, _, _, _, hx, _ => by simp at hx
  | _ :: _, [], _, _, _, _, hg => by simp at hg
theorem flatP_snoc : ∀ (l : List (Nat × Byte)) (gs : List Nat) (x : Nat × Byte) (g : Nat), gs.length = l.length → flatP (l ++ [x]) (gs ++ [g]) = flatP l gs ++ [.int .i64 (x.1 : Int), .slice (some ⟨g, 0, none⟩) 48 48]
  | [], [], x, g, _ => rfl
  | y :: l, h :: gs, x, g, e => by
    simp only [List.cons_append, flatP]
    rw [flatP_snoc l gs x g (by simpa using e)]
  | [], _ :: _, _, _, e => by simp at e
  | _ :: _, [], _, _, e => by simp at e
theorem flatP_length : ∀ (l : List (Nat × Byte)) (gs : List Nat), gs.length = l.length → (flatP l gs).length = l.length * 2
  | [], [], _ => rfl
  | y :: l, h :: gs, e => by simp only [flatP, List.length_cons]; rw [flatP_length l gs (by simpa using e)]; omega
  | [], _ :: _, e => by simp at e
  | _ :: _, [], e => by simp at e
def OwnP (w : World) (base : Nat) (v : Value) (l : List (Nat × Byte)) : Prop :=
  ∃ gs : List Nat, gs.length = l.length ∧ w.ownsRow base 100 2 v l.length (flatP l gs) ∧ ∀ (k g : Nat) (x : Nat × Byte), gs[k]? = some g → l[k]? = some x → base ≤ g ∧ w.heap[g]? = some (.cells (blkL (oneB x.2)).toArray 5 (0, 0))
theorem OwnP.nil (w : World) (base : Nat) : OwnP w base (.slice none 0 0) [] := ⟨[], rfl, World.ownsRow_nil _ _ _ _, fun k g x h => by simp at h⟩
theorem OwnP.keep {w w' : World} {base : Nat} {v : Value} {l : List (Nat × Byte)} (h : OwnP w base v l) (hk : ∀ b o, base ≤ b → w.heap[b]? = some o → w'.heap[b]? = some o) : OwnP w' base v l := by
  obtain ⟨gs, h0, ⟨h1, h2⟩, h3⟩ := h
  refine ⟨gs, h0, ⟨h1, h2.imp id ?_⟩, fun k g x hg hx => ?_⟩
  · rintro ⟨g, cap, cur, e, hb, hh, hr⟩
    exact ⟨g, cap, cur, e, hb, hk _ _ hb hh, hr⟩
  · obtain ⟨hb, hh⟩ := h3 k g x hg hx
    exact ⟨hb, hk _ _ hb hh⟩
theorem OwnP.below {w w' : World} {base : Nat} {v : Value} {l : List (Nat × Byte)} (h : OwnP w base v l) (hb : Below w.heap.size w w') : OwnP w' base v l := h.keep fun b o _ ho => hkeep hb ho
theorem OwnP.only {w w' : World} {base : Nat} {R : List Nat} {v : Value} {l : List (Nat × Byte)} (h : OwnP w base v l) (ho : Only R w w') (hR : ∀ b ∈ R, b < base) : OwnP w' base v l := h.keep fun b o hb h1 => hkeepO ho (fun hm => by have := hR b hm; omega) h1
theorem OwnP.form {w : World} {base : Nat} {a : Option Addr} {n c : Nat} {l : List (Nat × Byte)} (h : OwnP w base (.slice a n c) l) : n = l.length ∧ (l = [] ∨ ∃ g gs, a = some ⟨g, 0, none⟩ ∧ base ≤ g ∧ gs.length = l.length ∧ (∀ k v, (flatP l gs)[k]? = some v → w.cell? ⟨g, k, none⟩ = some v) ∧ ∀ (k g : Nat) (x : Nat × Byte), gs[k]? = some g → l[k]? = some x → base ≤ g ∧ w.heap[g]? = some (.cells (blkL (oneB x.2)).toArray 5 (0, 0))) := by
  obtain ⟨gs, h0, ⟨h1, h2⟩, h3⟩ := h
  rcases h2 with ⟨e, hn⟩ | ⟨g, cap, cur, e, hb, hh, hc, hm, hs, ht⟩
  · cases e
    exact ⟨hn.symm, .inl (List.eq_nil_of_length_eq_zero hn)⟩
  · cases e
    refine ⟨rfl, .inr ⟨g, gs, rfl, hb, h0, fun k v hv => ?_, h3⟩⟩
    rw [cell_of_row _ _ _ _ _ _ hh]
    have hk : k < l.length * 2 := by
      have := (List.getElem?_eq_some_iff.1 hv).1
      rw [flatP_length l gs h0] at this
      exact this
    have := congrArg (fun z => z[k]?) ht
    simp only [List.getElem?_take, hk, if_true, Array.getElem?_toList] at this
    rw [this]
    exact hv
/-- .. as the puts that Commit takes. -/
theorem OwnP.puts {w : World} {base : Nat} {a : Option Addr} {n c : Nat} {l : List (Nat × Byte)} {R : List Nat} (h : OwnP w base (.slice a n c) l) (hR : ∀ b ∈ R, b < base) (hl : l.length ≤ 10000) (hx : ∀ x ∈ l, x.1 < 4096) : PutsAt w R a (putsL l) := by
  have hlen : (putsL l).length = l.length := by unfold putsL; rw [List.length_map]
  obtain ⟨_, e | ⟨g, gs, rfl, hb, h0, hc, hd⟩⟩ := h.form
  · rw [e]
    exact ⟨by simp [putsL], .inl rfl⟩
  · refine ⟨by omega, .inr ⟨g, 0, rfl, fun hm => by have := hR g hm; omega, fun k hk => ?_⟩⟩
    rw [hlen] at hk
    have e1 : l[k]? = some l[k] := List.getElem?_eq_getElem hk
    have e2 : gs[k]? = some (gs[k]'(by omega)) := List.getElem?_eq_getElem (by omega)
    obtain ⟨f1, f2⟩ := flatP_get l gs k _ _ e1 e2
    obtain ⟨g1, g2⟩ := hd k _ _ e2 e1
    have e3 : (putsL l)[k]'(by omega) = ((l[k].1 : Int), bytesB (oneB l[k].2)) := by simp [putsL]
    rw [e3]
    have hxk := hx _ (List.getElem_mem hk)
    refine ⟨some ⟨gs[k]'(by omega), 0, none⟩, 48, ⟨?_, ?_, ?_, fun ad e => ?_, Wf.of (by simp only; omega) (by simp only; omega)⟩⟩
    · rw [Nat.zero_add]; exact hc _ _ f1
    · rw [Nat.zero_add]
      show w.cell? _ = some (.slice _ (bytesB (oneB l[k].2)).length 48)
      rw [bytesB_length]
      exact hc _ _ f2
    · exact bys_row (row_of g2)
    · cases e; exact fun hm => by have := hR _ hm; simp only at this; omega
theorem info100 : (Try.prog.info? 100).map (fun i => (i.zero, i.size, i.bytes)) = some (some (.agg #[.int .i64 0, .slice none 0 0]), 2, 32) := by kernel_rfl
/-- append(l, one). -/
theorem wp_append_put {w : World} {ops : Array Oper} {rest : List Oper} {o : Oper} {a : Act} {Q : Exit → Act → World → Prop} (hgd : o.guard = none) (s x : Operand)
    (ho : o.op = .call { callee := .builtin .append, args := #[s, x], argTypes := #[101, 101] }) (base : Nat) (v : Value) (l : List (Nat × Byte)) (hs : a.eval s = v) (hown : OwnP w base v l)
    (g c2 : Nat) (y : Nat × Byte) (gd : Nat) (hx : a.eval x = .slice (some ⟨g, 0, none⟩) 1 c2) (hg : w.heap[g]? = some (.cells #[.int .i64 (y.1 : Int), .slice (some ⟨gd, 0, none⟩) 48 48] 100 (0, 0))) (hgd2 : base ≤ gd) (hd : w.heap[gd]? = some (.cells (blkL (oneB y.2)).toArray 5 (0, 0))) (hbase : base ≤ w.heap.size) (hlen : l.length ≤ 4096)
    (h : ∀ a' cap' w', OwnP w' base (.slice a' (l.length + 1) cap') (l ++ [y]) → Below base w w' → (∀ (b : Nat) (cs : Array Value) (t : TypeId), t ≠ 100 → w.heap[b]? = some (.cells cs t (0, 0)) → w'.heap[b]? = w.heap[b]?) → wpList Try.prog ops Q rest (a.put o.dst (.slice a' (l.length + 1) cap')) w') : wpList Try.prog ops Q (o :: rest) a w := by
  obtain ⟨i0, hi, hz0, hz1, hz2⟩ := info_parts info100
  obtain ⟨gs, h0, hrow, hdat⟩ := hown
  refine wpList_append_own w hgd s x 101 ho base 100 i0 _ 2 32 Try.underlying101 hi hz0 hz1 hz2 rfl (by decide) v l.length (flatP l gs) hs hrow ⟨g, 0, none⟩ 1 c2 [.int .i64 (y.1 : Int), .slice (some ⟨gd, 0, none⟩) 48 48] hx (by simp)
    (World.news_of_block hg) (fun u hu => by simp only [List.mem_cons, List.not_mem_nil, or_false] at hu; rcases hu with rfl | rfl <;> rfl)
      (by unfold maxLen; omega) (by omega) hbase ?_
  intro v' w' h1 h2 h3
  have hkeep : ∀ (b : Nat) (cs : Array Value) (t : TypeId), t ≠ 100 → w.heap[b]? = some (.cells cs t (0, 0)) → w'.heap[b]? = w.heap[b]? := by
    intro b cs t ht hbk
    refine h2.block b (lt_of_heap hbk) ?_
    obtain ⟨_, ⟨e, _⟩ | ⟨g', cap', cur, e, _, hg', _⟩⟩ := hrow
    · rw [e]; simp [Value.ownBlock]
    · rw [e]
      intro he
      have : b = g' := by simpa [Value.ownBlock] using he
      subst this
      rw [hg'] at hbk
      cases hbk
      exact ht rfl
  have hbel : Below base w w' := by
    refine ⟨h2.os, h2.tape, h2.output, h2.size, fun i hi => h2.block i (by omega) ?_⟩
    obtain ⟨_, ⟨e, _⟩ | ⟨g', cap', cur, e, hg', _⟩⟩ := hrow
    · rw [e]; simp [Value.ownBlock]
    · rw [e]
      intro he
      have : i = g' := by simpa [Value.ownBlock] using he
      omega
  have h1' := h1
  obtain ⟨_, ⟨e, hn0⟩ | ⟨g', cap', cur, e, _⟩⟩ := h1'
  · omega
  · subst e
    refine h _ _ w' ⟨gs ++ [gd], by simp [h0], by rw [flatP_snoc l gs y gd h0, List.length_append]; exact h1, fun k g2 x2 hg2 hx2 => ?_⟩ hbel hkeep
    by_cases hk : k < l.length
    · rw [List.getElem?_append_left (by omega)] at hg2
      rw [List.getElem?_append_left hk] at hx2
      obtain ⟨b1, b2⟩ := hdat k g2 x2 hg2 hx2
      exact ⟨b1, (hkeep _ _ 5 (by decide) b2).trans b2⟩
    · have hk2 : k = l.length := by
        have := (List.getElem?_eq_some_iff.1 hx2).1
        simp at this
        omega
      subst hk2
      rw [List.getElem?_append_right (by omega), h0] at hg2
      rw [List.getElem?_append_right (by omega)] at hx2
      simp only [Nat.sub_self, List.getElem?_cons_zero, Option.some.injEq] at hg2 hx2
      subst hg2 hx2
      exact ⟨hgd2, (hkeep _ _ 5 (by decide) hd).trans hd⟩
end Go.Proofs.Ytdhidcoglioalaa.Walks
