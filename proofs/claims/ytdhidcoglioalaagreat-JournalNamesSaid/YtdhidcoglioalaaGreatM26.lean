/-
  The document's journal in memory.
-/
import Derived.Test.YtdhidcoglioalaaGreatM19
import Derived.Test.YtdhidcoglioalaaGreatM25
namespace Go.Proofs.YtdhidcoglioalaaGreat.Walks
open Go.RowKit Plain Jn
set_option linter.unusedVariables false

/-- Bytes in a block of their own, which is none of N. -/
structure Dat (w : World) (N : List Nat) (v : Value) (d : List Byte) : Prop where
  own : OwnV w 0 v d
  out : ∀ g, v.ownBlock = some g → g ∉ N
theorem OwnV.of {w w' : World} {base : Nat} {v : Value} {l : List Byte} (h : OwnV w base v l) (hk : ∀ g, v.ownBlock = some g → w'.heap[g]? = w.heap[g]?) : OwnV w' base v l := by
  refine ⟨h.1, ?_⟩
  rcases h.2 with hn | ⟨b, cap, cur, e, hb0, hgg, rest⟩
  · exact .inl hn
  · exact .inr ⟨b, cap, cur, e, hb0, by rw [hk b (by rw [e]; rfl)]; exact hgg, rest⟩
theorem OwnV.blk {w : World} {base : Nat} {v : Value} {l : List Byte} (h : OwnV w base v l) {g : Nat} (hg : v.ownBlock = some g) : base ≤ g ∧ g < w.heap.size ∧ ∃ cs, w.heap[g]? = some (.cells cs 5 (0, 0)) := by
  rcases h.2 with ⟨e, _⟩ | ⟨b, cap, cur, e, hb0, hgg, rest⟩
  · rw [e] at hg; cases hg
  · rw [e] at hg
    simp only [Value.ownBlock, Option.some.injEq] at hg
    subst hg
    exact ⟨hb0, lt_of_heap hgg, _, hgg⟩
theorem Dat.below {w w' : World} {N : List Nat} {v : Value} {d : List Byte} (h : Dat w N v d) (hb : Below w.heap.size w w') : Dat w' N v d := ⟨h.own.keep hb, h.out⟩
theorem Dat.only {w w' : World} {N R : List Nat} {v : Value} {d : List Byte} (h : Dat w N v d) (ho : Only R w w') (hR : ∀ b ∈ R, b ∈ N) : Dat w' N v d :=
  ⟨h.own.of fun g hg => ho.block g (h.own.blk hg).2.1 (fun hm => h.out g hg (hR g hm)), h.out⟩
theorem Dat.of {w : World} {N : List Nat} {base : Nat} {v : Value} {d : List Byte} (h : OwnV w base v d) (hN : ∀ b ∈ N, b < base) : Dat w N v d :=
  ⟨OwnV.mono h (Nat.zero_le _), fun g hg hm => by have := hN g hm; have := (h.blk hg).1; omega⟩
/-- Puts in a row of the call's own. -/
structure OwnQ (T : TypeId) (w : World) (base : Nat) (N : List Nat) (v : Value) (l : List (Int × List Byte)) : Prop where
  row : ∃ vs : List Value, w.ownsRow base T 2 v l.length vs ∧ ∀ k x, l[k]? = some x → ∃ da dc, vs[k * 2]? = some (.int .i64 x.1) ∧ vs[k * 2 + 1]? = some (.slice da x.2.length dc) ∧ Dat w N (.slice da x.2.length dc) x.2
theorem ownsRow_of {w w' : World} {base : Nat} {e : TypeId} {size : Nat} {v : Value} {n : Nat} {xs : List Value} (h : w.ownsRow base e size v n xs) (hk : ∀ g, v.ownBlock = some g → w'.heap[g]? = w.heap[g]?) : w'.ownsRow base e size v n xs := by
  refine ⟨h.1, ?_⟩
  rcases h.2 with hn | ⟨b, cap, cur, e, hb0, hgg, rest⟩
  · exact .inl hn
  · exact .inr ⟨b, cap, cur, e, hb0, by rw [hk b (by rw [e]; rfl)]; exact hgg, rest⟩
section
variable {T : TypeId} {w w' : World} {base : Nat} {N : List Nat} {v : Value} {l : List (Int × List Byte)}
theorem OwnQ.nil (T : TypeId) (w : World) (base : Nat) (N : List Nat) : OwnQ T w base N (.slice none 0 0) [] := ⟨[], World.ownsRow_nil _ _ _ _, fun k x h => by simp at h⟩
theorem OwnQ.blk (h : OwnQ T w base N v l) {g : Nat} (hg : v.ownBlock = some g) : base ≤ g ∧ g < w.heap.size ∧ ∃ cs, w.heap[g]? = some (.cells cs T (0, 0)) := by
  obtain ⟨vs, hr, _⟩ := h.row
  rcases hr.2 with ⟨e, _⟩ | ⟨b, cap, cur, e, hb0, hgg, rest⟩
  · rw [e] at hg; cases hg
  · rw [e] at hg
    simp only [Value.ownBlock, Option.some.injEq] at hg
    subst hg
    exact ⟨hb0, lt_of_heap hgg, _, hgg⟩
theorem OwnQ.below (h : OwnQ T w base N v l) (hb : Below w.heap.size w w') : OwnQ T w' base N v l := by
  have hk := fun g hg => (h.blk (g := g) hg).2.1
  obtain ⟨vs, hr, hd⟩ := h.row
  exact ⟨vs, ownsRow_of hr fun g hg => hb.block g (hk g hg), fun k x hx => by
    obtain ⟨da, dc, h1, h2, h3⟩ := hd k x hx
    exact ⟨da, dc, h1, h2, h3.below hb⟩⟩
theorem OwnQ.only (h : OwnQ T w base N v l) {R : List Nat} (ho : Only R w w') (hR : ∀ b ∈ R, b ∈ N) (hv : ∀ g, v.ownBlock = some g → g ∉ R) : OwnQ T w' base N v l := by
  have hk := fun g hg => (h.blk (g := g) hg).2.1
  obtain ⟨vs, hr, hd⟩ := h.row
  exact ⟨vs, ownsRow_of hr fun g hg => ho.block g (hk g hg) (hv g hg), fun k x hx => by
    obtain ⟨da, dc, h1, h2, h3⟩ := hd k x hx
    exact ⟨da, dc, h1, h2, h3.only ho hR⟩⟩
theorem OwnQ.mono (h : OwnQ T w base N v l) {base' : Nat} (hb : base' ≤ base) : OwnQ T w base' N v l := by
  obtain ⟨vs, hr, hd⟩ := h.row
  exact ⟨vs, ⟨hr.1, hr.2.imp id fun ⟨g, cap, cur, e, hb0, rest⟩ => ⟨g, cap, cur, e, Nat.le_trans hb hb0, rest⟩⟩, hd⟩
/-- Its form, and its cells. -/
theorem OwnQ.form (h : OwnQ T w base N v l) : (l = [] ∧ v = .slice none 0 0) ∨ ∃ g c, v = .slice (some ⟨g, 0, none⟩) l.length c ∧ l.length ≤ c ∧ base ≤ g ∧ g < w.heap.size ∧ (∀ i, w.frozen? ⟨g, i, none⟩ = false) ∧
    ∀ k x, l[k]? = some x → ∃ da dc, w.cell? ⟨g, k * 2, none⟩ = some (.int .i64 x.1) ∧ w.cell? ⟨g, k * 2 + 1, none⟩ = some (.slice da x.2.length dc) ∧ Dat w N (.slice da x.2.length dc) x.2 := by
  obtain ⟨vs, hr, hd⟩ := h.row
  obtain ⟨h1, ⟨e, hn⟩ | ⟨g, cap, cur, e, hb, hh, hc, hm, hs, ht⟩⟩ := hr
  · exact .inl ⟨List.eq_nil_of_length_eq_zero hn, e⟩
  · refine .inr ⟨g, cap, e, hc, hb, lt_of_heap hh, fun i => by unfold World.frozen?; simp only [hh]; simp, fun k x hx => ?_⟩
    obtain ⟨da, dc, k1, k2, k3⟩ := hd k x hx
    have hk : k < l.length := (List.getElem?_eq_some_iff.1 hx).1
    have hcell : ∀ i u, i < l.length * 2 → vs[i]? = some u → w.cell? ⟨g, i, none⟩ = some u := fun i u hi hu => by
      rw [cell_of_row _ _ _ _ _ _ hh]
      have := congrArg (fun z => z[i]?) ht
      simp only [List.getElem?_take, hi, if_true, Array.getElem?_toList] at this
      rw [this]
      exact hu
    exact ⟨da, dc, hcell _ _ (by omega) k1, hcell _ _ (by omega) k2, k3⟩
theorem OwnQ.slice (h : OwnQ T w base N v l) : ∃ a c, v = .slice a l.length c ∧ (a = none → c = 0) := by
  rcases h.form with ⟨e, rfl⟩ | ⟨g, c, rfl, _⟩
  · exact ⟨none, 0, by rw [e]; rfl, fun _ => rfl⟩
  · exact ⟨_, _, rfl, fun e => by cases e⟩
/-- .. as puts that a Commit takes. -/
theorem OwnQ.puts {a : Option Addr} {n c : Nat} (h : OwnQ T w base N (.slice a n c) l) {R : List Nat} (hR : ∀ b ∈ R, b ∈ N) (hv : ∀ g, (Value.slice a n c).ownBlock = some g → g ∉ R) (hl : l.length ≤ 10000) (hw : ∀ x ∈ l, Wf x.1 ∧ x.2.length ≤ 4096) : PutsAt w R a l := by
  rcases h.form with ⟨e, _⟩ | ⟨g, c', e, _, _, _, _, hc⟩
  · rw [e]; exact ⟨by simp, .inl rfl⟩
  · simp only [Value.slice.injEq] at e
    obtain ⟨rfl, rfl, rfl⟩ := e
    refine ⟨hl, .inr ⟨g, 0, rfl, hv g rfl, fun k hk => ?_⟩⟩
    obtain ⟨da, dc, k1, k2, k3⟩ := hc k _ (List.getElem?_eq_getElem hk)
    obtain ⟨hwf, h4⟩ := hw _ (List.getElem_mem hk)
    obtain ⟨a9, c9, e9, hB, _, _⟩ := k3.own.bys h4
    simp only [Value.slice.injEq] at e9
    obtain ⟨rfl, _, rfl⟩ := e9
    refine ⟨da, dc, ⟨by rw [Nat.zero_add]; exact k1, by rw [Nat.zero_add]; exact k2, hB, fun ad e => ?_, hwf⟩⟩
    intro hm
    rcases k3.own.2 with ⟨e2, _⟩ | ⟨b, cap, cur, e2, _⟩
    · simp only [Value.slice.injEq] at e2
      rw [e2.1] at e
      cases e
    · simp only [Value.slice.injEq] at e2
      obtain ⟨e3, _, _⟩ := e2
      rw [e3] at e
      cases e
      exact k3.out b (by rw [e3]; rfl) (hR b hm)
end
/-- append(l, one). -/
theorem wp_append_q {w : World} {ops : Array Oper} {rest : List Oper} {o : Oper} {a : Act} {Q : Exit → Act → World → Prop} (T TS : TypeId) (hgd : o.guard = none) (s x : Operand)
    (ho : o.op = .call { callee := .builtin .append, args := #[s, x], argTypes := #[TS, TS] }) (hTS : Tryz.prog.underlying TS = some (.slice T)) (hinfo : (Tryz.prog.info? T).map (fun i => (i.zero, i.size, i.bytes)) = some (some (.agg #[.int .i64 0, .slice none 0 0]), 2, 32)) (hT5 : T ≠ 5)
    (base : Nat) (N : List Nat) (v : Value) (l : List (Int × List Byte)) (hs : a.eval s = v) (hown : OwnQ T w base N v l)
    (g c2 : Nat) (y : Int × List Byte) (da : Option Addr) (yl dc : Nat) (hyl : y.2.length = yl) (hx : a.eval x = .slice (some ⟨g, 0, none⟩) 1 c2) (hg : w.heap[g]? = some (.cells #[.int .i64 y.1, .slice da yl dc] T (0, 0))) (hd : Dat w N (.slice da yl dc) y.2) (hbase : base ≤ w.heap.size) (n : Nat) (hn : l.length = n) (hlen : n ≤ 10000) (r : List (Int × List Byte)) (hr : l ++ [y] = r)
    (h : ∀ a' cap' w', OwnQ T w' base N (.slice a' (n + 1) cap') r → Below base w w' → (∀ (b : Nat) (cs : Array Value) (t : TypeId), t ≠ T → w.heap[b]? = some (.cells cs t (0, 0)) → w'.heap[b]? = w.heap[b]?) → wpList Tryz.prog ops Q rest (a.put o.dst (.slice a' (n + 1) cap')) w') : wpList Tryz.prog ops Q (o :: rest) a w := by
  obtain ⟨i0, hi, hz0, hz1, hz2⟩ := info_parts hinfo
  subst hn hr hyl
  obtain ⟨vs, hrow, hdat⟩ := hown.row
  have hvl : vs.length = l.length * 2 := hrow.1
  refine wpList_append_own w hgd s x TS ho base T i0 _ 2 32 hTS hi hz0 hz1 hz2 rfl (by decide) v l.length vs hs hrow ⟨g, 0, none⟩ 1 c2 [.int .i64 y.1, .slice da y.2.length dc] hx (by simp)
    (World.news_of_block hg) (fun u hu => by simp only [List.mem_cons, List.not_mem_nil, or_false] at hu; rcases hu with rfl | rfl <;> rfl)
      (by unfold maxLen; omega) (by omega) hbase ?_
  intro v' w' h1 h2 h3
  have hkeep : ∀ (b : Nat) (cs : Array Value) (t : TypeId), t ≠ T → w.heap[b]? = some (.cells cs t (0, 0)) → w'.heap[b]? = w.heap[b]? := by
    intro b cs t ht hbk
    refine h2.block b (lt_of_heap hbk) ?_
    obtain ⟨_, ⟨e, _⟩ | ⟨g', cap', cur, e, _, hg', _⟩⟩ := hrow
    · rw [e]; simp [Value.ownBlock]
    · rw [e]
      intro he
      have : b = g' := by simpa [Value.ownBlock] using he
      subst this
      rw [hg'] at hbk
      cases hbk
      exact ht rfl
  have hbel : Below base w w' := by
    refine ⟨h2.os, h2.tape, h2.output, h2.size, fun i hi => h2.block i (by omega) ?_⟩
    obtain ⟨_, ⟨e, _⟩ | ⟨g', cap', cur, e, hg', _⟩⟩ := hrow
    · rw [e]; simp [Value.ownBlock]
    · rw [e]
      intro he
      have : i = g' := by simpa [Value.ownBlock] using he
      omega
  have hdk : ∀ {u : Value} {d : List Byte}, Dat w N u d → Dat w' N u d := fun hu => ⟨hu.own.of fun b hb => by
    obtain ⟨_, _, cs, hcs⟩ := hu.own.blk hb
    exact hkeep b cs 5 (fun e => hT5 e.symm) hcs, hu.out⟩
  have h1' := h1
  obtain ⟨_, ⟨e, hn0⟩ | ⟨g', cap', cur, e, _⟩⟩ := h1'
  · omega
  · subst e
    refine h _ _ w' ⟨vs ++ [.int .i64 y.1, .slice da y.2.length dc], by rw [List.length_append]; exact h1, fun k x2 hx2 => ?_⟩ hbel hkeep
    by_cases hk : k < l.length
    · rw [List.getElem?_append_left hk] at hx2
      obtain ⟨da2, dc2, b1, b2, b3⟩ := hdat k x2 hx2
      exact ⟨da2, dc2, by rw [List.getElem?_append_left (by omega)]; exact b1, by rw [List.getElem?_append_left (by omega)]; exact b2, hdk b3⟩
    · have hk2 : k = l.length := by
        have := (List.getElem?_eq_some_iff.1 hx2).1
        simp at this
        omega
      subst hk2
      rw [List.getElem?_append_right (by omega)] at hx2
      simp only [Nat.sub_self, List.getElem?_cons_zero, Option.some.injEq] at hx2
      subst hx2
      refine ⟨da, dc, ?_, ?_, hdk hd⟩
      · rw [List.getElem?_append_right (by omega), hvl, Nat.sub_self]; rfl
      · rw [List.getElem?_append_right (by omega), hvl, show l.length * 2 + 1 - l.length * 2 = 1 by omega]; rfl
theorem info150 : (Tryz.prog.info? 150).map (fun i => (i.zero, i.size, i.bytes)) = some (some (.agg #[.int .i64 0, .slice none 0 0]), 2, 32) := by kernel_rfl
theorem info39 : (Tryz.prog.info? 39).map (fun i => (i.zero, i.size, i.bytes)) = some (some (.agg #[.int .i64 0, .slice none 0 0]), 2, 32) := by kernel_rfl
/-! ### The journal's struct -/
abbrev mv (m : Nat) : Value := .pointer (some ⟨m, 0, none⟩)
/-- What is pending, as puts. -/
def pendP (J : Jn) (n : Nat) : List (Int × List Byte) := putsP (pendN J.pend (n - 2 - J.log))
structure RJ (w : World) (m : Nat) (r : RLoc) (J : Jn) (P : Pl) : Prop where
  rf : RefAt w r P
  c0 : w.cell? ⟨m, 0, none⟩ = some (rv r)
  c1 : w.cell? ⟨m, 1, none⟩ = some (.int .i64 J.log)
  c2 : w.cell? ⟨m, 2, none⟩ = some (.int .i64 J.head)
  c3 : w.cell? ⟨m, 3, none⟩ = some (.int .i64 J.at_)
  c4 : w.cell? ⟨m, 4, none⟩ = some (.int .i64 J.used)
  c5 : w.cell? ⟨m, 5, none⟩ = some (.int .i64 J.turn)
  c6 : ∃ v, w.cell? ⟨m, 6, none⟩ = some v ∧ OwnQ 150 w 0 r.N v (pendP J P.n) ∧ ∀ g, v.ownBlock = some g → g ∉ r.N
  c7 : w.cell? ⟨m, 7, none⟩ = some (.bool J.broken)
  fz : ∀ i, w.frozen? ⟨m, i, none⟩ = false
  ok : J.Ok P.n
  bm : m ∈ r.ban
  nm : m ∉ r.R
section
variable {w w' : World} {m : Nat} {r : RLoc} {J J' : Jn} {P P' : Pl}
theorem RJ.lt (h : RJ w m r J P) : m < w.heap.size := block_lt_of_cell h.c0
theorem RJ.below (h : RJ w m r J P) (hb : Below w.heap.size w w') : RJ w' m r J P := by
  obtain ⟨v, k1, k2, k3⟩ := h.c6
  exact ⟨⟨h.rf.x.below hb, h.rf.ok⟩, keepc hb h.c0, keepc hb h.c1, keepc hb h.c2, keepc hb h.c3, keepc hb h.c4, keepc hb h.c5, ⟨v, keepc hb k1, k2.below hb, k3⟩, keepc hb h.c7, fun i => (hb.frozen (p := ⟨m, i, none⟩) h.lt).trans (h.fz i), h.ok, h.bm, h.nm⟩
theorem RJ.drewN (h : RJ w m r J P) (k : Nat) : RJ (w.drewN k) m r J P := h.below (below_drewN (Below.refl _ _) k)
theorem inN_ban {r : RLoc} {b : Nat} (h : b ∈ r.ban) : b ∈ r.N := List.mem_append_right _ h
/-- The plate turns. -/
theorem RJ.plate (h : RJ w m r J P) (hr : RefAt w' r P') (ho : Only r.R w w') (hn : P'.n = P.n) : RJ w' m r J P' := by
  obtain ⟨v, k1, k2, k3⟩ := h.c6
  refine ⟨hr, ho.cell h.nm h.c0, ho.cell h.nm h.c1, ho.cell h.nm h.c2, ho.cell h.nm h.c3, ho.cell h.nm h.c4, ho.cell h.nm h.c5, ⟨v, ho.cell h.nm k1, ?_, k3⟩, ho.cell h.nm h.c7, fun i => ?_, by rw [hn]; exact h.ok, h.bm, h.nm⟩
  · rw [hn]; exact k2.only ho (fun b hb => r.inN' hb) (fun g hg hm => k3 g hg (r.inN' hm))
  · have := h.fz i
    unfold World.frozen? at this ⊢
    simp only [ho.block m h.lt h.nm]
    exact this
/-- What others turn in blocks that are banned. -/
theorem RJ.other (h : RJ w m r J P) {R : List Nat} (ho : Only R w w') (hR : ∀ b ∈ R, b ∈ r.ban ∧ b ∉ r.R ∧ b ≠ m) : RJ w' m r J P := by
  have hm : m ∉ R := fun hm => (hR m hm).2.2 rfl
  obtain ⟨v, k1, k2, k3⟩ := h.c6
  refine ⟨⟨h.rf.x.other ho fun b hb => ⟨(hR b hb).1, (hR b hb).2.1⟩, h.rf.ok⟩, ho.cell hm h.c0, ho.cell hm h.c1, ho.cell hm h.c2, ho.cell hm h.c3, ho.cell hm h.c4, ho.cell hm h.c5, ⟨v, ho.cell hm k1, k2.only ho (fun b hb => inN_ban (hR b hb).1) (fun g hg hmm => k3 g hg (inN_ban (hR g hmm).1)), k3⟩, ho.cell hm h.c7, fun i => ?_, h.ok, h.bm, h.nm⟩
  have := h.fz i
  unfold World.frozen? at this ⊢
  simp only [ho.block m h.lt hm]
  exact this
/-- A cell of the struct turns. -/
theorem RJ.setCell (h : RJ w m r J P) {i : Nat} {v : Value} (hJ : J'.Ok P.n) (hl : J'.log = J.log) (hp : J'.pend = J.pend) (h2 : if i = 2 then v = .int .i64 J'.head else J'.head = J.head) (h3 : if i = 3 then v = .int .i64 J'.at_ else J'.at_ = J.at_)
    (h4 : if i = 4 then v = .int .i64 J'.used else J'.used = J.used) (h5 : if i = 5 then v = .int .i64 J'.turn else J'.turn = J.turn) (h7 : if i = 7 then v = .bool J'.broken else J'.broken = J.broken) (hi0 : i ≠ 0) (hi1 : i ≠ 1) (hi6 : i ≠ 6) :
    RJ (w.setCell ⟨m, i, none⟩ v) m r J' P := by
  have ho : Only [m] w (w.setCell ⟨m, i, none⟩ v) := (Only.refl _ _).setCell (by simp) _
  have hsome : ∀ {o : Nat} {u : Value}, w.cell? ⟨m, o, none⟩ = some u → (w.setCell ⟨m, i, none⟩ v).cell? ⟨m, o, none⟩ = some (if i = o then v else u) := by
    intro o u hu
    by_cases e : i = o
    · subst e; rw [if_pos rfl]; exact World.cell?_setCell_same _ _ _ hu
    · rw [if_neg e, World.cell?_setCell_other _ _ _ _ (by simp)]; exact hu
  obtain ⟨u, k1, k2, k3⟩ := h.c6
  have hpp : pendP J' P.n = pendP J P.n := by unfold pendP; rw [hl, hp]
  refine ⟨⟨h.rf.x.other ho (fun b hb => by simp at hb; subst hb; exact ⟨h.bm, h.nm⟩), h.rf.ok⟩, ?_, ?_, ?_, ?_, ?_, ?_, ⟨u, ?_, ?_, k3⟩, ?_, fun k => by rw [World.frozen?_setCell]; exact h.fz k, hJ, h.bm, h.nm⟩
  · rw [hsome h.c0, if_neg hi0]
  · rw [hsome h.c1, if_neg hi1, hl]
  · rw [hsome h.c2]; split at h2 <;> rename_i e
    · rw [if_pos e, h2]
    · rw [if_neg e, h2]
  · rw [hsome h.c3]; split at h3 <;> rename_i e
    · rw [if_pos e, h3]
    · rw [if_neg e, h3]
  · rw [hsome h.c4]; split at h4 <;> rename_i e
    · rw [if_pos e, h4]
    · rw [if_neg e, h4]
  · rw [hsome h.c5]; split at h5 <;> rename_i e
    · rw [if_pos e, h5]
    · rw [if_neg e, h5]
  · rw [hsome k1, if_neg hi6]
  · rw [hpp]
    exact k2.only ho (fun b hb => by simp at hb; subst hb; exact inN_ban h.bm) (fun g hg hm => by simp at hm; subst hm; exact k3 g hg (inN_ban h.bm))
  · rw [hsome h.c7]; split at h7 <;> rename_i e
    · rw [if_pos e, h7]
    · rw [if_neg e, h7]
/-- What is pending turns. -/
theorem RJ.setPend (h : RJ w m r J P) {v : Value} {f : Pend} (hJ : ({ J with pend := f } : Jn).Ok P.n) (hv : OwnQ 150 w 0 r.N v (putsP (pendN f (P.n - 2 - J.log)))) (hn : ∀ g, v.ownBlock = some g → g ∉ r.N) :
    RJ (w.setCell ⟨m, 6, none⟩ v) m r { J with pend := f } P := by
  have ho : Only [m] w (w.setCell ⟨m, 6, none⟩ v) := (Only.refl _ _).setCell (by simp) _
  have hsome : ∀ {o : Nat} {u : Value}, w.cell? ⟨m, o, none⟩ = some u → (w.setCell ⟨m, 6, none⟩ v).cell? ⟨m, o, none⟩ = some (if 6 = o then v else u) := by
    intro o u hu
    by_cases e : 6 = o
    · subst e; rw [if_pos rfl]; exact World.cell?_setCell_same _ _ _ hu
    · rw [if_neg e, World.cell?_setCell_other _ _ _ _ (fun h => e (by injection h))]; exact hu
  obtain ⟨u, k1, k2, k3⟩ := h.c6
  refine ⟨⟨h.rf.x.other ho (fun b hb => by simp at hb; subst hb; exact ⟨h.bm, h.nm⟩), h.rf.ok⟩, hsome h.c0, hsome h.c1, hsome h.c2, hsome h.c3, hsome h.c4, hsome h.c5, ⟨v, hsome k1, ?_, hn⟩, hsome h.c7, fun k => by rw [World.frozen?_setCell]; exact h.fz k, hJ, h.bm, h.nm⟩
  exact hv.only ho (fun b hb => by simp at hb; subst hb; exact inN_ban h.bm) (fun g hg hm => by simp at hm; subst hm; exact hn g hg (inN_ban h.bm))
end
end Go.Proofs.YtdhidcoglioalaaGreat.Walks
