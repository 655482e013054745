/-
  The document's plate: doings, falling, failing, reading, writing.
-/
import Derived.Test.YtdhidcoglioalaaRefB
namespace Go.Proofs.Ytdhidcoglioalaa.Walks
open Go.RowKit Plain
set_option linter.unusedVariables false

set_option maxRecDepth 10000 in
theorem rf_fails (w : World) (r : RLoc) (P : Pl) (h : RefAt w r P) : Calls Try.prog 79 #[rv r] w fun e w' => e = .returned (.bool P.goes) ∧ RefAt w' r P.did ∧ Only r.R w w' := by
  have c4 := h.x.c4
  have c5 := h.x.c5
  obtain ⟨ka, kc, c6, hB, hdis⟩ := h.x.c6
  have f5 := h.x.fz 5
  have hok := h.ok
  have HG := Lib.hid (rf_gone w r P h ka P.keep kc hB (fun h0 ad e => r.notR (hdis h0 ad e)))
  have H := Lib.hid h
  clear h hB hdis
  cases hf : P.fails
  · have e1 : P.goes = false := by simp [Pl.goes, hf]
    have e2 : P.did = P := by simp [Pl.did, hf]
    rw [e1, e2]
    rw [hf] at c4
    clear hf e1 e2 c5 c6 hok
    go_enter Try.func79, Try.ntmps79
    go_wp2
    go_ret
    exact ⟨rfl, H.out, Only.refl _ _⟩
  · by_cases hl : 0 < P.left
    · have e1 : P.goes = false := by simp [Pl.goes, hf, hl]
      have e2 : P.did = { P with left := P.left - 1 } := by simp [Pl.did, hf, hl]
      rw [e1, e2]
      rw [hf] at c4
      have hL := hok.left
      have HOk := Lib.hid (show ({ P with left := P.left - 1 } : Pl).Ok from ⟨hok.pos, hok.most, hok.waits, by show _ ≤ P.left - 1 ∧ P.left - 1 ≤ _; omega⟩)
      obtain ⟨z, hz⟩ : ∃ z, z = P.left := ⟨_, rfl⟩
      rw [← hz] at c5 hl hL
      have hw := IntWalk.i64_in (n := z - 1) (by omega)
      have HZ := Lib.hid hz
      clear hf e1 e2 c6 hok hz
      go_enter Try.func79, Try.ntmps79
      go_wp2
      go_ret
      refine ⟨rfl, ⟨?_, HOk.out⟩, (Only.refl _ _).setCell r.inP _⟩
      exact H.out.x.setP (i := 5) (dead' := P.dead) (fails' := P.fails) (left' := P.left - 1) (keep' := P.keep) (by simp) (by simp) (by simp [HZ.out]) (by simp) (by omega)
    · have e1 : P.goes = true := by simp [Pl.goes, hf, hl]
      have e2 : P.did = P.gone P.keep := by simp [Pl.did, hf, hl]
      rw [e1, e2]
      rw [hf] at c4
      obtain ⟨z, hz⟩ : ∃ z, z = P.left := ⟨_, rfl⟩
      rw [← hz] at c5 hl
      clear hf e1 e2 hok hz
      go_enter Try.func79, Try.ntmps79
      go_wp2_with fail
      refine Calls.mono HG.out ?_
      rintro e w' ⟨⟨v, rfl⟩, hP, hO⟩
      have HP := Lib.hid hP
      have HO := Lib.hid hO
      clear hP hO
      go_wp2
      go_ret
      exact ⟨rfl, HP.out, HO.out⟩
set_option maxRecDepth 10000 in
theorem rf_crash (w : World) (r : RLoc) (P : Pl) (h : RefAt w r P) (a : Option Addr) (l : List Bool) (cap : Nat) (hB : Bools w a l) (hdis : l ≠ [] → ∀ ad, a = some ad → ad.block ∉ r.R) :
    Calls Try.prog 56 #[rv r, .slice a l.length cap] w fun e w' => e = .returned (.int .i64 P.may) ∧ RefAt w' r (P.crash l) ∧ Only r.R w w' := by
  have c3 := h.x.c3
  have HG := Lib.hid (rf_gone w r P h a l cap hB hdis)
  have H := Lib.hid h
  clear h hB hdis
  obtain ⟨n, hn⟩ : ∃ n, n = l.length := ⟨_, rfl⟩
  rw [← hn] at HG ⊢
  clear hn
  cases hd : P.dead
  · rw [may_live hd]
    rw [hd] at c3
    have e2 : P.crash l = P.gone l := by simp [Pl.crash, hd]
    rw [e2]
    clear hd e2
    go_enter Try.func56, Try.ntmps56
    go_wp2_with fail
    refine Calls.mono HG.out ?_
    rintro e w' ⟨⟨v, rfl⟩, hP, hO⟩
    have HP := Lib.hid hP
    have HO := Lib.hid hO
    clear hP hO
    go_wp2
    go_ret
    exact ⟨rfl, HP.out, HO.out⟩
  · rw [may_dead hd]
    rw [hd] at c3
    have e2 : P.crash l = P := by simp [Pl.crash, hd]
    rw [e2]
    clear hd e2
    go_enter Try.func56, Try.ntmps56
    go_wp2
    go_ret
    exact ⟨rfl, H.out, Only.refl _ _⟩
/-- append(nil, l...), of bools. -/
theorem wp_append_nilbools {w : World} {ops : Array Oper} {rest : List Oper} {o : Oper} {a : Act} {Q : Exit → Act → World → Prop} (hgd : o.guard = none) (s x : Operand)
    (ho : o.op = .call { callee := .builtin .append, args := #[s, x], argTypes := #[23, 23] }) (hs : a.eval s = .slice none 0 0)
    (ao : Option Addr) (c : Nat) (l : List Bool) (n : Nat) (hln : l.length = n) (hx : a.eval x = .slice ao n c) (hB : Bools w ao l) (hn : ao = none → c = 0)
    (h : ∀ a' cap' w', Bools w' a' l ∧ (∀ ad, a' = some ad → w.heap.size ≤ ad.block) → Below w.heap.size w w' → wpList Try.prog ops Q rest (a.put o.dst (.slice a' n cap')) w') : wpList Try.prog ops Q (o :: rest) a w := by
  obtain ⟨i0, hi, hz0, hz1, hz2⟩ := info_parts info4
  subst hln
  have hm := hB.1
  have fin : ∀ v' w', w'.ownsRow w.heap.size 4 1 v' (0 + l.length) ([] ++ l.map Value.bool) → w.grownBy w' (Value.slice none 0 0).ownBlock → (v' = .slice none 0 0 ↔ Value.slice none 0 0 = .slice none 0 0 ∧ l.length = 0) → wpList Try.prog ops Q rest (a.put o.dst v') w' := by
    intro v' w' h1 h2 h3
    rw [List.nil_append, Nat.zero_add] at h1
    have hbe : Below w.heap.size w w' := ⟨h2.os, h2.tape, h2.output, h2.size, fun i hi => h2.block i hi (by simp [Value.ownBlock])⟩
    have h1' := h1
    obtain ⟨_, ⟨e, h0⟩ | ⟨g, cap', cur, e, _⟩⟩ := h1'
    · subst e
      have := h none 0 w' (OwnBo.bools (cap := 0) (by rw [OwnBo, h0]; rw [h0] at h1; exact h1) hm) hbe
      rw [h0] at this
      exact this
    · subst e
      exact h _ _ w' (OwnBo.bools h1 hm) hbe
  rcases Option.eq_none_or_eq_some ao with rfl | ⟨ad, rfl⟩
  · have hc0 := hn rfl
    subst hc0
    have hl : l = [] := by
      rcases hB.2 with h | ⟨b, off, h, _⟩
      · exact h
      · cases h
    subst hl
    refine wpList_append_own_none hgd s x 23 ho w.heap.size 4 i0 1 Try.underlying23 hi (.slice none 0 0) 0 [] hs (World.ownsRow_nil _ _ _ _) hx (fin _ w (by simpa using World.ownsRow_nil _ _ _ _) ⟨rfl, rfl, rfl, Nat.le_refl _, fun _ _ _ => rfl⟩ ⟨fun e => ⟨e, rfl⟩, fun e => e.1⟩)
  · exact wpList_append_own w hgd s x 23 ho w.heap.size 4 i0 (.bool false) 1 1 Try.underlying23 hi hz0 hz1 hz2 rfl (by decide) (.slice none 0 0) 0 [] hs (World.ownsRow_nil _ _ _ _) ad l.length c (l.map Value.bool) hx (by simp) (news_bools hB) (bools_one _)
      (by unfold maxLen; omega) (by omega) (Nat.le_refl _) fin
set_option maxRecDepth 10000 in
theorem rf_fail (w : World) (r : RLoc) (P : Pl) (h : RefAt w r P) (n : Int) (hn : -9223372036854775808 ≤ n ∧ n ≤ 9223372036854775807) (a : Option Addr) (l : List Bool) (cap : Nat) (hB : Bools w a l) (hcap : a = none → cap = 0) (hdis : l ≠ [] → ∀ ad, a = some ad → ad.block ∉ r.R) :
    Calls Try.prog 58 #[rv r, .int .i64 n, .slice a l.length cap] w fun e w' => e = .returned (.int .i64 P.may) ∧ RefAt w' r (P.fail n l) ∧ Only r.R w w' := by
  have c3 := h.x.c3
  have c4 := h.x.c4
  have c5 := h.x.c5
  obtain ⟨a0, cap0, c6, _, _⟩ := h.x.c6
  obtain ⟨n0, hn0⟩ : ∃ n0, n0 = P.keep.length := ⟨_, rfl⟩
  rw [← hn0] at c6
  have f4 := h.x.fz 4
  have f5 := h.x.fz 5
  have f6 := h.x.fz 6
  have hp := h.x.lt _ r.inP
  have H := Lib.hid h
  have HB := Lib.hid hB
  have HC := Lib.hid hcap
  have HN := Lib.hid hn
  have HD := Lib.hid hdis
  clear h hB hcap hn hdis hn0
  obtain ⟨m, hm⟩ : ∃ m, m = l.length := ⟨_, rfl⟩
  rw [← hm]
  have HM := Lib.hid hm.symm
  clear hm
  cases hd : P.dead
  · rw [may_live hd]
    rw [hd] at c3
    have e2 : P.fail n l = P.failed n l := by simp [Pl.fail, hd]
    rw [e2]
    clear hd e2
    go_enter Try.func58, Try.ntmps58
    obtain ⟨wx, hwx⟩ : ∃ x, x = (w.setCell ⟨r.p, 4, none⟩ (.bool (decide (0 ≤ n)))).setCell ⟨r.p, 5, none⟩ (.int .i64 n) := ⟨_, rfl⟩
    have hOx : Only [r.p] w wx := by rw [hwx]; exact ((Only.refl _ _).setCell (by simp) _).setCell (by simp) _
    have hBx : Bools wx a l := by
      refine ⟨HB.out.1, ?_⟩
      rcases HB.out.2 with h0 | ⟨b, off, rfl, hh⟩
      · exact .inl h0
      · by_cases h0 : l = []
        · exact .inl h0
        · exact .inr ⟨b, off, rfl, fun i hi => hOx.cell (by simp; exact fun e => HD.out h0 ⟨b, off, none⟩ rfl (by show b ∈ r.R; rw [e]; exact r.inP)) (hh i hi)⟩
    have h1 := H.out.x.setP (i := 4) (v := .bool (decide (0 ≤ n))) (dead' := P.dead) (fails' := decide (0 ≤ n)) (left' := P.left) (keep' := P.keep) (by simp) (by simp) (by simp) (by simp) (by omega)
    have h2 := h1.setP (i := 5) (v := .int .i64 n) (dead' := P.dead) (fails' := decide (0 ≤ n)) (left' := n) (keep' := P.keep) (by simp) (by simp) (by simp) (by simp) (by omega)
    rw [← hwx] at h2
    have HX := Lib.hid h2
    have HBX := Lib.hid hBx
    have HOX := Lib.hid (hOx.mono (R' := r.R) (fun x hx => by simp at hx; rw [hx]; exact r.inP))
    have hpx : r.p < wx.heap.size := Nat.lt_of_lt_of_le hp hOx.size
    have c6x := h2.c6
    obtain ⟨a1, cap1, c6x, _, _⟩ := c6x
    obtain ⟨n1, hn1⟩ : ∃ n1, n1 = P.keep.length := ⟨_, rfl⟩
    rw [← hn1] at c6x
    have f6x := h2.fz 6
    have HWX := Lib.hid hwx
    clear h1 h2 hOx hBx hn1 hwx
    go_wp2_with (first | (at_builtin; go_loud (rw [← HWX.out]; refine wp_append_nilbools rfl (.tmp 22) (.tmp 23) rfl rfl a cap l m HM.out rfl HBX.out HC.out ?_)))
    intro a' cap' w' k1 k2 hb
    have hO' : Only r.R w w' := HOX.out.trans (Only.of_below hb)
    have c6' := keepc hb c6x
    have f6' : w'.frozen? ⟨r.p, 6, none⟩ = false := (hb.frozen (p := ⟨r.p, 6, none⟩) hpx).trans f6x
    have K1 := Lib.hid k1
    have K2 := Lib.hid k2
    have HBe := Lib.hid hb
    clear k1 k2 hb hO' c6 c5 c4 c3
    go_wp2
    go_ret
    have h3 := (HX.out.below HBe.out).setP (i := 6) (v := .slice a' l.length cap') (dead' := P.dead) (fails' := decide (0 ≤ n)) (left' := n) (keep' := l) (by simp) (by simp) (by simp) (by
      rw [if_pos rfl]
      refine ⟨a', cap', rfl, Only.bools (R := [r.p]) ((Only.refl _ _).setCell (by simp) _) (fun _ ad e hm => ?_) K1.out, fun _ ad e hm => ?_⟩
      · have h1 := K2.out ad e
        simp at hm
        rw [hm] at h1
        omega
      · have h1 := K2.out ad e
        have h2 := HX.out.ltN _ hm
        omega) (by omega)
    rw [HM.out] at h3
    refine ⟨rfl, ⟨h3, H.out.ok.failed HN.out⟩, ((HOX.out.trans (Only.of_below HBe.out))).setCell r.inP _⟩
  · rw [may_dead hd]
    rw [hd] at c3
    have e2 : P.fail n l = P := by simp [Pl.fail, hd]
    rw [e2]
    clear hd e2
    go_enter Try.func58, Try.ntmps58
    go_wp2
    go_ret
    exact ⟨rfl, H.out, Only.refl _ _⟩
end Go.Proofs.Ytdhidcoglioalaa.Walks
