/-
  The walks of the document's plate: what reads, the power goes.
-/
import Derived.Test.YtdhidcoglioalaaRefM
namespace Go.Proofs.Ytdhidcoglioalaa.Walks
open Go.RowKit Plain
set_option linter.unusedVariables false

abbrev rv (r : RLoc) : Value := .pointer (some ⟨r.p, 0, none⟩)
def thereB (P : Pl) (i : Int) : Bool := decide (0 ≤ i) && decide (i < P.n)
theorem rf_there (w : World) (r : RLoc) (P : Pl) (h : RefAt w r P) (i : Int) : Calls Try.prog 78 #[rv r, .int .i64 i] w fun e w' => e = .returned (.bool (thereB P i)) ∧ w = w' := by
  obtain ⟨c, c1⟩ := h.x.c1
  unfold thereB
  obtain ⟨n, hn⟩ : ∃ n, n = P.n := ⟨_, rfl⟩
  rw [← hn] at c1 ⊢
  clear h hn
  by_cases h1 : 0 ≤ i
  · go_enter Try.func78, Try.ntmps78
    go_wp2
    go_ret
    exact ⟨ret_bool (by simp [h1]), rfl⟩
  · go_enter Try.func78, Try.ntmps78
    go_wp2
    go_ret
    exact ⟨ret_bool (by simp; omega), rfl⟩
theorem rf_dead (w : World) (r : RLoc) (P : Pl) (h : RefAt w r P) : Calls Try.prog 60 #[rv r] w fun e w' => e = .returned (.bool P.dead) ∧ w = w' := by
  have c3 := h.x.c3
  clear h
  go_enter Try.func60, Try.ntmps60
  go_wp2
  go_ret
  exact ⟨rfl, rfl⟩
theorem rf_size (w : World) (r : RLoc) (P : Pl) (h : RefAt w r P) : Calls Try.prog 62 #[rv r] w fun e w' => e = .returned (.int .i64 P.n) ∧ w = w' := by
  obtain ⟨c, c1⟩ := h.x.c1
  clear h
  go_enter Try.func62, Try.ntmps62
  go_wp2
  go_ret
  exact ⟨rfl, rfl⟩
theorem rf_boot (w : World) (r : RLoc) (P : Pl) (h : RefAt w r P) : Calls Try.prog 57 #[rv r] w fun e w' => e = .returned (.int .i64 0) ∧ RefAt w' r P.boot ∧ Only r.R w w' := by
  have c3 := h.x.c3
  have c4 := h.x.c4
  have f3 := h.x.fz 3
  have f4 := h.x.fz 4
  have H := Lib.hid h
  clear h
  go_enter Try.func57, Try.ntmps57
  go_wp2
  go_ret
  have h1 := H.out.x.setP (i := 3) (v := .bool false) (dead' := false) (fails' := P.fails) (left' := P.left) (keep' := P.keep) (by simp) (by simp) (by simp) (by simp) (by omega)
  have h2 := h1.setP (i := 4) (v := .bool false) (dead' := false) (fails' := false) (left' := P.left) (keep' := P.keep) (by simp) (by simp) (by simp) (by simp) (by omega)
  exact ⟨rfl, ⟨h2, H.out.ok.boot⟩, ((Only.refl _ _).setCell r.inP _).setCell r.inP _⟩
/-! ### Bytes are copied -/
abbrev OwnBy (w : World) (base : Nat) (a : Option Addr) (l : List Byte) (cap : Nat) : Prop := w.ownsRow base 5 1 (.slice a l.length cap) l.length (l.map byteV)
theorem OwnBy.bys {w : World} {base : Nat} {a : Option Addr} {l : List Byte} {cap : Nat} (h : OwnBy w base a l cap) (hm : l.length ≤ 140737488355328) : Bys w a l ∧ (∀ ad, a = some ad → base ≤ ad.block ∧ ∀ j, w.frozen? ⟨ad.block, j, none⟩ = false) ∧ (a = none → cap = 0) := by
  obtain ⟨_, ⟨h1, h2⟩ | ⟨g, cap', cur, h1, hb, hg, hc, hmx, hs, ht⟩⟩ := h
  · have h0 := List.eq_nil_of_length_eq_zero h2
    simp only [Value.slice.injEq] at h1
    obtain ⟨rfl, _, rfl⟩ := h1
    exact ⟨⟨hm, .inl h0⟩, (fun _ e => by cases e), fun _ => rfl⟩
  · simp only [Value.slice.injEq] at h1
    obtain ⟨rfl, _, rfl⟩ := h1
    refine ⟨⟨hm, .inr ⟨g, 0, rfl, fun i hi => ?_⟩⟩, (fun ad e => by cases e; exact ⟨hb, fun j => by unfold World.frozen?; simp only [hg]; simp⟩), (fun e => by cases e)⟩
    rw [cell_of_row _ _ _ _ _ _ hg]
    have ht' : cur.toList.take l.length = l.map byteV := by simpa using ht
    have := congrArg (fun z => z[i]?) ht'
    simp only [List.getElem?_take, hi, if_true, List.getElem?_map, List.getElem?_eq_getElem hi, Option.map_some] at this
    rw [Nat.zero_add, ← Array.getElem?_toList]
    exact this
theorem info5f : (Try.prog.info? 5).map (fun i => (i.zero, i.size, i.bytes)) = some (some (.int .u8 0), 1, 1) := by kernel_rfl
theorem news_bys {w : World} {ad : Addr} {l : List Byte} (h : Bys w (some ad) l) : ∀ j u, (l.map byteV)[j]? = some u → w.cell? (ad.add j) = some u := by
  intro j u hj
  have hj' : j < l.length := by
    have := (List.getElem?_eq_some_iff.1 hj).1
    simpa using this
  obtain ⟨b, off, hh, _, hc⟩ := h.at_lt hj'
  cases hh
  rw [List.getElem?_map, List.getElem?_eq_getElem hj'] at hj
  simp at hj
  subst hj
  rw [Addr.add_mid]
  exact hc j hj'
theorem bys_one (l : List Byte) : ∀ u ∈ l.map byteV, u.oneCell' = true := by
  intro u hu
  obtain ⟨x, _, rfl⟩ := List.mem_map.1 hu
  rfl
/-- append(nil, l...). -/
theorem wp_append_bys {w : World} {ops : Array Oper} {rest : List Oper} {o : Oper} {a : Act} {Q : Exit → Act → World → Prop} (hgd : o.guard = none) (s x : Operand)
    (ho : o.op = .call { callee := .builtin .append, args := #[s, x], argTypes := #[42, 42] }) (hs : a.eval s = .slice none 0 0)
    (ao : Option Addr) (c : Nat) (l : List Byte) (n : Nat) (hln : l.length = n) (hx : a.eval x = .slice ao n c) (hB : Bys w ao l) (hn : ao = none → c = 0)
    (h : ∀ a' cap' w', Bys w' a' l ∧ (∀ ad, a' = some ad → w.heap.size ≤ ad.block ∧ ∀ j, w'.frozen? ⟨ad.block, j, none⟩ = false) ∧ (a' = none → cap' = 0) → Below w.heap.size w w' → wpList Try.prog ops Q rest (a.put o.dst (.slice a' n cap')) w') : wpList Try.prog ops Q (o :: rest) a w := by
  obtain ⟨i0, hi, hz0, hz1, hz2⟩ := info_parts info5f
  subst hln
  have hm := hB.1
  have fin : ∀ v' w', w'.ownsRow w.heap.size 5 1 v' (0 + l.length) ([] ++ l.map byteV) → w.grownBy w' (Value.slice none 0 0).ownBlock → (v' = .slice none 0 0 ↔ Value.slice none 0 0 = .slice none 0 0 ∧ l.length = 0) → wpList Try.prog ops Q rest (a.put o.dst v') w' := by
    intro v' w' h1 h2 h3
    rw [List.nil_append, Nat.zero_add] at h1
    have hbe : Below w.heap.size w w' := ⟨h2.os, h2.tape, h2.output, h2.size, fun i hi => h2.block i hi (by simp [Value.ownBlock])⟩
    have h1' := h1
    obtain ⟨_, ⟨e, h0⟩ | ⟨g, cap', cur, e, _⟩⟩ := h1'
    · subst e
      have := h none 0 w' (OwnBy.bys (cap := 0) (by rw [OwnBy, h0]; rw [h0] at h1; exact h1) hm) hbe
      rw [h0] at this
      exact this
    · subst e
      exact h _ _ w' (OwnBy.bys h1 hm) hbe
  rcases Option.eq_none_or_eq_some ao with rfl | ⟨ad, rfl⟩
  · have hc0 := hn rfl
    subst hc0
    have hl : l = [] := by
      rcases hB.2 with h | ⟨b, off, h, _⟩
      · exact h
      · cases h
    subst hl
    refine wpList_append_own_none hgd s x 42 ho w.heap.size 5 i0 1 Try.underlying42 hi (.slice none 0 0) 0 [] hs (World.ownsRow_nil _ _ _ _) hx (fin _ w (by simpa using World.ownsRow_nil _ _ _ _) ⟨rfl, rfl, rfl, Nat.le_refl _, fun _ _ _ => rfl⟩ ⟨fun e => ⟨e, rfl⟩, fun e => e.1⟩)
  · exact wpList_append_own w hgd s x 42 ho w.heap.size 5 i0 (.int .u8 0) 1 1 Try.underlying42 hi hz0 hz1 hz2 rfl (by decide) (.slice none 0 0) 0 [] hs (World.ownsRow_nil _ _ _ _) ad l.length c (l.map byteV) hx (by simp) (news_bys hB) (bys_one _)
      (by unfold maxLen; omega) (by omega) (Nat.le_refl _) fin
theorem rf_copy (w : World) (a : Option Addr) (cap : Nat) (l : List Byte) (hB : Bys w a l) (hn : a = none → cap = 0) :
    Calls Try.prog 52 #[.slice a l.length cap] w fun e w' => ∃ a' cap', e = .returned (.slice a' l.length cap') ∧ Bys w' a' l ∧ (∀ ad, a' = some ad → w.heap.size ≤ ad.block ∧ ∀ j, w'.frozen? ⟨ad.block, j, none⟩ = false) ∧ (a' = none → cap' = 0) ∧ Below w.heap.size w w' := by
  have HB := Lib.hid hB
  have HN := Lib.hid hn
  obtain ⟨n, hln⟩ : ∃ n, n = l.length := ⟨_, rfl⟩
  rw [← hln]
  have HLN := Lib.hid hln.symm
  clear hB hn hln
  go_enter Try.func52, Try.ntmps52
  go_wp2_with (first | (at_builtin; go_loud (refine wp_append_bys rfl (.tmp 4) (.tmp 5) rfl rfl a cap l n HLN.out rfl HB.out HN.out ?_)))
  intro a' cap' w' h1 h2 h3 hb
  have H1 := Lib.hid h1
  have H2 := Lib.hid h2
  have H3 := Lib.hid h3
  have HBe := Lib.hid hb
  clear h1 h2 h3 hb
  go_wp2
  go_ret
  exact ⟨a', cap', rfl, H1.out, H2.out, H3.out, HBe.out⟩
end Go.Proofs.Ytdhidcoglioalaa.Walks
