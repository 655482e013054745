/-
  A hand and the document's hand side by side: what each doing leaves.
-/
import Derived.Test.YtldcpnabgpjgiaaHandTH
namespace Go.Proofs.Ytldcpnabgpjgiaa.WalksT
open Go.Proofs.Ytldcpnabgpjgiaa.Walks
open Go.RowKit Plain
set_option linter.unusedVariables false

section
variable {w w' : World} {q : HLoc} {N : Nat} {f : Int} {l : List Int} {O1 O3 O5 : List (Int × Int × List Int)} {E2 E4 : List (Int × Int × Int × Int)}
theorem HandX.pcells (h : HandX w q N f l O1 O3 O5 E2 E4) : q.p < w.heap.size := block_lt_of_cell h.c0
/-- Where no banned block alone has turned. -/
theorem HandX.unban (h : HandX w q N f l O1 O3 O5 E2 E4) (hk : ∀ b, b < w.heap.size → ¬ q.ban b → w'.heap[b]? = w.heap[b]?) (hp : ¬ q.ban q.p) (hR : ∀ b ∈ q.R, ¬ q.ban b) : HandX w' q N f l O1 O3 O5 E2 E4 := by
  have hI : ∀ {a : Option Addr} {l : List Int}, Ints w a l → Far q.ban a l → Ints w' a l := fun {a l} hI hF => ints_blocks hI fun x hx hne => by
    refine hk _ ?_ ?_
    · rcases hI.2 with h0 | ⟨b, off, e1, hh⟩
      · exact absurd h0 hne
      · rw [hx] at e1; cases e1
        exact block_lt_of_cell (hh 0 (List.length_pos_iff.2 hne))
    · exact hF.elim (fun h0 => absurd h0 hne) fun hF => hF x hx
  have hpp := hk _ h.pcells hp
  have hc : ∀ j v, w.cell? ⟨q.p, j, none⟩ = some v → w'.cell? ⟨q.p, j, none⟩ = some v := fun j v hv => (World.cell?_of_block (a := ⟨q.p, j, none⟩) hpp).trans hv
  have hb : ∀ b, b ∈ q.R → w'.heap[b]? = w.heap[b]? := fun b hm => hk b (h.lt b hm) (hR b hm)
  obtain ⟨a, cap, c1, i1, b1⟩ := h.c1
  obtain ⟨F1, m1, n1⟩ := h.m1
  obtain ⟨F2, m2, n2⟩ := h.m2
  obtain ⟨F3, m3, n3⟩ := h.m3
  obtain ⟨F4, m4, n4⟩ := h.m4
  obtain ⟨F5, m5, n5⟩ := h.m5
  refine ⟨hc _ _ h.c0, ⟨a, cap, hc _ _ c1, hI i1 b1, b1⟩, hc _ _ h.c2, hc _ _ h.c3, hc _ _ h.c4, hc _ _ h.c5, hc _ _ h.c6, h.ne,
    ⟨F1, m1.block (hb _ (by simp [HLoc.R])), fun n e hn he => ?_⟩, ⟨F2, m2.block (hb _ (by simp [HLoc.R])), n2⟩, ⟨F3, m3.block (hb _ (by simp [HLoc.R])), n3⟩, ⟨F4, m4.block (hb _ (by simp [HLoc.R])), n4⟩,
    ⟨F5, m5.block (hb _ (by simp [HLoc.R])), fun e he => ?_⟩, h.inv, h.inv2, h.inv4, h.good⟩
  · have := n1 n e hn he
    cases hc : ordOf O1 n e with
    | none => rw [hc] at this; exact this
    | some m => rw [hc] at this; obtain ⟨a, cap, e1, hI1, hf⟩ := this; exact ⟨a, cap, e1, hI hI1 hf, hf⟩
  · have := n5 e he
    cases hc : crewOf f O5 e with
    | none => rw [hc] at this; exact this
    | some m => rw [hc] at this; obtain ⟨a, cap, e1, ⟨hI1, hf⟩, hn⟩ := this; exact ⟨a, cap, e1, ⟨hI hI1 hf, hf⟩, hn⟩
end
theorem RefX.reban {w : World} {p base : Nat} {B B' : Nat → Prop} {f : Int} {l : List Int} {O : List (Int × Int × List Int)} {E : List (Int × Int × Int × Int)} (h : RefX w p base B f l O E) (hB : ∀ b, b < w.heap.size → B' b → B b) : RefX w p base B' f l O E := by
  have hA : ∀ b, b < w.heap.size → Apart B' w p b → Apart B w p b := fun b hb hh => hh.imp (hB b hb) id
  obtain ⟨a, cap, h1, h2, h3, h4⟩ := h.c1
  obtain ⟨v2, xs2, o1, o2, o3, o4⟩ := h.c2
  obtain ⟨v3, xs3, e1, e2, e3, e4⟩ := h.c3
  have hrow : ∀ {e : TypeId} {size : Nat} {v : Value} {n : Nat} {xs : List Value}, w.ownsRow base e size v n xs → (∀ g, v.ownBlock = some g → g ≠ p ∧ ¬ B g) → (∀ g, v.ownBlock = some g → g ≠ p ∧ ¬ B' g) := by
    intro e size v n xs hr hv g hg
    refine ⟨(hv g hg).1, fun hh => (hv g hg).2 (hB g ?_ hh)⟩
    rcases row_val hr with ⟨rfl, _⟩ | ⟨g', c', _, k1, k2⟩
    · simp [Value.ownBlock] at hg
    · rw [hg] at k1; cases k1; exact k2
  refine ⟨h.row, h.c0, ⟨a, cap, h1, h2, far_more h2 h3 hA, h4⟩, ⟨v2, xs2, o1, o2, hrow o2 o3, fun i hi => ?_⟩, ⟨v3, xs3, e1, e2, hrow e2 e3, e4⟩, h.z2, h.z3, fun hh => h.np (hB p h.lt hh), h.pb⟩
  obtain ⟨y1, y2, a, c, y3, y4, y5, y6⟩ := o4 i hi
  exact ⟨y1, y2, a, c, y3, y4, far_more y4 y5 hA, y6⟩

/-- Cells of an own row, for the loop that writes noughts over it. -/
theorem own_cellsAt {w : World} {base : Nat} {a : Option Addr} {l : List Int} {cap : Nat} (h : Own w base a l cap) (h0 : 0 < l.length) : ∃ g, a = some ⟨g, 0, none⟩ ∧ base ≤ g ∧ ∀ i, i < l.length → (∃ v, w.cell? ⟨g, i, none⟩ = some v) ∧ w.frozen? ⟨g, i, none⟩ = false := by
  obtain ⟨g, cur, rfl, hb, hg, hc, hm, hs, ht⟩ := h.len_pos_some h0
  refine ⟨g, rfl, hb, fun i hi => ⟨?_, frozen_of_row _ _ _ _ _ hg⟩⟩
  rw [cell_of_row _ _ _ _ _ _ hg]
  exact ⟨cur[i]'(by omega), Array.getElem?_eq_getElem (by omega)⟩
/-- What the loop of noughts keeps. -/
def Zeroed (wz : World) (g n : Nat) (wr : World) : Prop := Below g wz wr ∧ (∀ k, k ≠ g → wr.heap[k]? = wz.heap[k]?) ∧ ∀ i, i < n → (∃ v, wr.cell? ⟨g, i, none⟩ = some v) ∧ wr.frozen? ⟨g, i, none⟩ = false
theorem Zeroed.step {wz wr : World} {g n i : Nat} {v : Value} (h : Zeroed wz g n wr) (hi : i < n) : Zeroed wz g n (wr.setCell ⟨g, i, none⟩ v) := by
  refine ⟨h.1.setCell (Nat.le_refl _) _, fun k hk => ?_, fun j hj => ⟨?_, ?_⟩⟩
  · rw [heap_setCell_other wr ⟨g, i, none⟩ k v (fun e => hk (by rw [e]))]
    exact h.2.1 k hk
  · by_cases e : j = i
    · subst e
      obtain ⟨u, hu⟩ := (h.2.2 j hj).1
      exact ⟨v, World.cell?_setCell_same _ _ _ hu⟩
    · obtain ⟨u, hu⟩ := (h.2.2 j hj).1
      exact ⟨u, by rw [World.cell?_setCell_other _ _ _ _ (by simp <;> omega)]; exact hu⟩
  · have := (h.2.2 j hj).2
    simpa using this
theorem Zeroed.cell {wz wr : World} {g n b o : Nat} {v : Value} (h : Zeroed wz g n wr) (hb : b ≠ g) (hc : wz.cell? ⟨b, o, none⟩ = some v) : wr.cell? ⟨b, o, none⟩ = some v :=
  (World.cell?_of_block (a := ⟨b, o, none⟩) (h.2.1 b hb)).trans hc
/-- The row that the loop writes over, nil or not. -/
theorem Zeroed.any {w w4 : World} {base : Nat} {a : Option Addr} {l : List Int} {cap : Nat} (h : Own w base a l cap) (h4 : Own w4 base a l cap) (hw : base ≤ w4.heap.size) : ∃ g, Hid (base ≤ g ∧ g ≠ w4.heap.size ∧ (0 < l.length → a = some ⟨g, 0, none⟩) ∧ Zeroed w g l.length w) := by
  rcases Nat.eq_zero_or_pos l.length with h0 | h0
  · exact ⟨w4.heap.size + 1, Lib.hid ⟨by omega, by omega, fun h => by omega, Below.refl _ _, fun _ _ => rfl, fun i hi => by omega⟩⟩
  · obtain ⟨g, rfl, h2, h3⟩ := own_cellsAt h h0
    have := Own.block_lt h4 rfl
    exact ⟨g, Lib.hid ⟨h2, by have : g < w4.heap.size := this; omega, fun _ => rfl, Below.refl _ _, fun _ _ => rfl, h3⟩⟩
theorem Zeroed.start {w : World} {base : Nat} {a : Option Addr} {l : List Int} {cap : Nat} (h : Own w base a l cap) (h0 : 0 < l.length) : ∃ g, a = some ⟨g, 0, none⟩ ∧ base ≤ g ∧ Zeroed w g l.length w := by
  obtain ⟨g, h1, h2, h3⟩ := own_cellsAt h h0
  exact ⟨g, h1, h2, Below.refl _ _, fun _ _ => rfl, h3⟩

/-- Both hands: what the one holds is O, E; what the other holds O', E'; w0: the world ahead of all. -/
structure Both (w0 w : World) (q : HLoc) (p : Nat) (B : Nat → Prop) (N : Nat) (f : Int) (l : List Int) (O : List (Int × Int × List Int)) (E : List (Int × Int × Int × Int)) (O' : List (Int × Int × List Int)) (E' : List (Int × Int × Int × Int)) : Prop where
  h : HandX w q N f l O O O E E
  r : RefX w p w0.heap.size B f l O' E'
  np : ¬ q.ban q.p
  nr : ∀ b ∈ q.R, ¬ q.ban b
  bp : q.ban p
  bt : ∀ b, tabOf w p b → q.ban b
  lt : ∀ b, q.ban b → b < w.heap.size
  sub : ∀ b, B b → q.ban b
  bb : ∀ b, B b → w0.heap.size ≤ b
  hr : ∀ b ∈ q.R, w0.heap.size ≤ b
  old : Below w0.heap.size w0 w
/-- Blocks made between two worlds. -/
def Made (w w' : World) (b : Nat) : Prop := w.heap.size ≤ b ∧ b < w'.heap.size
section
variable {w0 w w' : World} {q : HLoc} {p : Nat} {B : Nat → Prop} {N : Nat} {f : Int} {l : List Int} {O O' O1 : List (Int × Int × List Int)} {E E' E1 : List (Int × Int × Int × Int)}
theorem Both.hB (H : Both w0 w q p B N f l O E O' E') : ∀ b, w.heap.size ≤ b → ¬ B b := fun b hb hh => absurd (H.lt b (H.sub b hh)) (Nat.not_lt.2 hb)
theorem Both.hP (H : Both w0 w q p B N f l O E O' E') : ∀ b, w.heap.size ≤ b → ¬ q.ban b := fun b hb hh => absurd (H.lt b hh) (Nat.not_lt.2 hb)
theorem tabOf_same {p b : Nat} (hp : w'.heap[p]? = w.heap[p]?) (h : tabOf w' p b) : tabOf w p b := by
  obtain ⟨j, n, cap, hj, hc⟩ := h
  exact ⟨j, n, cap, hj, by rw [← hc]; exact (World.cell?_of_block (a := ⟨p, j, none⟩) hp).symm⟩
theorem Both.below (H : Both w0 w q p B N f l O E O' E') (hb : Below w.heap.size w w') : Both w0 w' q p B N f l O E O' E' :=
  ⟨H.h.below hb, H.r.below hb, H.np, H.nr, H.bp, fun b ht => H.bt b (tabOf_same (hb.block p H.r.lt) ht), fun b hh => Nat.lt_of_lt_of_le (H.lt b hh) hb.size, H.sub, H.bb, H.hr, Below.step H.old hb⟩
/-- What was made may be banned. -/
theorem Both.fresh (H : Both w0 w q p B N f l O E O' E') (hb : Below w.heap.size w w') : Both w0 w' (q.to fun b => q.ban b ∨ Made w w' b) p (fun b => B b ∨ Made w w' b) N f l O E O' E' := by
  have hz := hb.size
  have hz0 := H.old.size
  refine ⟨(H.h.reban (B := fun b => q.ban b ∨ Made w w' b) fun b h1 h2 => h2.elim id fun h3 => absurd h1 (Nat.not_lt.2 h3.1)).below hb, (H.r.reban fun b h1 h2 => h2.elim id fun h3 => absurd h1 (Nat.not_lt.2 h3.1)).below hb, ?_, fun b hm => ?_, .inl H.bp, fun b ht => .inl (H.bt b (tabOf_same (hb.block p H.r.lt) ht)),
    fun b hh => hh.elim (fun h1 => Nat.lt_of_lt_of_le (H.lt b h1) hz) fun h1 => h1.2, fun b hh => hh.imp (H.sub b) id, fun b hh => hh.elim (H.bb b) fun h1 => Nat.le_trans hz0 h1.1, H.hr, Below.step H.old hb⟩
  · exact fun hh => hh.elim H.np fun h1 => absurd H.h.pcells (Nat.not_lt.2 h1.1)
  · exact fun hh => hh.elim (H.nr b hm) fun h1 => absurd (H.h.lt b hm) (Nat.not_lt.2 h1.1)
/-- The hand has done something. -/
theorem Both.hand (H : Both w0 w q p B N f l O E O' E') {N' : Nat} (hH : HandX w' q N' f l O1 O1 O1 E1 E1) (ho : Only q.R w w') : Both w0 w' q p B N' f l O1 E1 O' E' := by
  have hpn : p ∉ q.R := fun hm => H.nr p hm H.bp
  exact ⟨hH, H.r.hand H.h ho, H.np, H.nr, H.bp, fun b ht => H.bt b (tabOf_same (ho.block p H.r.lt hpn) ht), fun b hh => Nat.lt_of_lt_of_le (H.lt b hh) ho.size, H.sub, H.bb, H.hr, Only.below H.old ho H.hr (Nat.le_refl _)⟩
/-- The document's hand has done something. -/
theorem Both.ref (H : Both w0 w q p B N f l O E O' E') (hr : RefX w' p w0.heap.size B f l O1 E1) (hb : Below w0.heap.size w w') (hg : RefGo p w w') : Both w0 w' (q.to fun b => q.ban b ∨ Made w w' b) p B N f l O E O1 E1 := by
  have hz := hg.size
  refine ⟨?_, hr, ?_, fun b hm => ?_, .inl H.bp, fun b ht => ?_, fun b hh => hh.elim (fun h1 => Nat.lt_of_lt_of_le (H.lt b h1) hz) fun h1 => h1.2, fun b hh => .inl (H.sub b hh), H.bb, H.hr, H.old.trans hb⟩
  · refine HandX.unban (H.h.reban (B := fun b => q.ban b ∨ Made w w' b) fun b h1 h2 => h2.elim id fun h3 => absurd h1 (Nat.not_lt.2 h3.1)) (fun b h1 h2 => hg.block b h1 ?_ ?_) ?_ fun b hm => ?_
    · exact fun e => h2 (.inl (e ▸ H.bp))
    · exact fun e => h2 (.inl (H.bt b e))
    · exact fun hh => hh.elim H.np fun h1 => absurd H.h.pcells (Nat.not_lt.2 h1.1)
    · exact fun hh => hh.elim (H.nr b hm) fun h1 => absurd (H.h.lt b hm) (Nat.not_lt.2 h1.1)
  · exact fun hh => hh.elim H.np fun h1 => absurd H.h.pcells (Nat.not_lt.2 h1.1)
  · exact fun hh => hh.elim (H.nr b hm) fun h1 => absurd (H.h.lt b hm) (Nat.not_lt.2 h1.1)
  · rcases hg.rows b ht with h1 | h1
    · exact .inl (H.bt b h1)
    · refine .inr ⟨h1, ?_⟩
      obtain ⟨j, n, c, hj, hh⟩ := ht
      exact hr.tabs j b n c hj hh
theorem Both.setCell (H : Both w0 w q p B N f l O E O' E') {g : Nat} (hg : B g) (k : Nat) (u : Value) : Both w0 (w.setCell ⟨g, k, none⟩ u) q p B N f l O E O' E' := by
  have hpg : p ≠ g := fun e => H.r.np (e ▸ hg)
  have hp : (w.setCell ⟨g, k, none⟩ u).heap[p]? = w.heap[p]? := Below.heap_setCell w ⟨g, k, none⟩ u p (fun e => hpg e)
  refine ⟨H.h.setCell (H.sub g hg) (fun e => H.np (e ▸ H.sub g hg)) (fun hm => H.nr g hm (H.sub g hg)) k u, H.r.setCell hg k u, H.np, H.nr, H.bp, fun b ht => H.bt b (tabOf_same hp ht), fun b hh => by simpa using H.lt b hh, H.sub, H.bb, H.hr, H.old.setCell (H.bb g hg) _⟩
theorem Both.mono (H : Both w0 w q p B N f l O E O' E') {N' : Nat} (hN : N ≤ N') : Both w0 w q p B N' f l O E O' E' :=
  ⟨H.h.mono hN fun _ => rfl, H.r, H.np, H.nr, H.bp, H.bt, H.lt, H.sub, H.bb, H.hr, H.old⟩
theorem RefX.offB {w w' : World} {p base : Nat} {B : Nat → Prop} (h : RefX w p base B f l O E) (hk : ∀ k, ¬ B k → w'.heap[k]? = w.heap[k]?) : RefX w' p base B f l O E := by
  have hp : w'.heap[p]? = w.heap[p]? := hk p h.np
  have hc : ∀ j v, w.cell? ⟨p, j, none⟩ = some v → w'.cell? ⟨p, j, none⟩ = some v := fun j v hv => (World.cell?_of_block (a := ⟨p, j, none⟩) hp).trans hv
  have hI : ∀ {a : Option Addr} {l : List Int}, Ints w a l → Far (Apart B w p) a l → Ints w' a l ∧ Far (Apart B w' p) a l := fun {a l} hI hF =>
    ⟨ints_blocks hI fun x hx hne => hk _ (hF.elim (fun h0 => absurd h0 hne) fun hF hb => hF x hx (.inl hb)), hF.imp fun b => Apart.same hp⟩
  have hrow : ∀ {e : TypeId} {size : Nat} {v : Value} {n : Nat} {xs : List Value}, w.ownsRow base e size v n xs → (∀ b, v.ownBlock = some b → b ≠ p ∧ ¬ B b) → w'.ownsRow base e size v n xs := by
    intro e size v n xs hr hv
    obtain ⟨r0, r1 | ⟨b, cap, cur, r1, r2, r3, r4⟩⟩ := hr
    · exact ⟨r0, .inl r1⟩
    · subst r1
      exact ⟨r0, .inr ⟨b, cap, cur, rfl, r2, (hk b (hv b rfl).2).trans r3, r4⟩⟩
  obtain ⟨a, cap, h1, h2, h3, h4⟩ := h.c1
  obtain ⟨v2, xs2, o1, o2, o3, o4⟩ := h.c2
  obtain ⟨v3, xs3, e1, e2, e3, e4⟩ := h.c3
  refine ⟨by rw [hp]; exact h.row, hc _ _ h.c0, ⟨a, cap, hc _ _ h1, (hI h2 h3).1, (hI h2 h3).2, h4⟩, ⟨v2, xs2, hc _ _ o1, hrow o2 o3, o3, fun i hi => ?_⟩,
    ⟨v3, xs3, hc _ _ e1, hrow e2 e3, e3, e4⟩, (World.frozen?_of_block (a := ⟨p, 2, none⟩) hp).trans h.z2, (World.frozen?_of_block (a := ⟨p, 3, none⟩) hp).trans h.z3, h.np, h.pb⟩
  obtain ⟨y1, y2, a, cap, y3, y4, y5, y6⟩ := o4 i hi
  exact ⟨y1, y2, a, cap, y3, (hI y4 y5).1, (hI y4 y5).2, y6⟩
/-- Banned blocks alone have turned. -/
theorem Both.offB (H : Both w0 w q p B N f l O E O' E') (hk : ∀ k, ¬ B k → w'.heap[k]? = w.heap[k]?) (hb : Below w0.heap.size w w') : Both w0 w' q p B N f l O E O' E' :=
  ⟨H.h.unban (fun b _ hn => hk b fun hh => hn (H.sub b hh)) H.np H.nr, H.r.offB hk, H.np, H.nr, H.bp, fun b ht => H.bt b (tabOf_same (hk p H.r.np) ht), fun b hh => Nat.lt_of_lt_of_le (H.lt b hh) hb.size, H.sub, H.bb, H.hr, H.old.trans hb⟩
/-- What the document's hand's doings leave besides. -/
theorem Both.refBlock (H : Both w0 w q p B N f l O E O' E') (hg : RefGo p w w') {b : Nat} (hn : ¬ q.ban b ∨ B b) (hlt : b < w.heap.size) : w'.heap[b]? = w.heap[b]? := by
  refine hg.block b hlt ?_ ?_
  · rintro rfl
    exact hn.elim (fun h => h H.bp) H.r.np
  · intro ht
    rcases hn with h | h
    · exact h (H.bt b ht)
    · obtain ⟨j, n, c, hj, hc⟩ := ht
      have key : ∀ {e : TypeId} {size : Nat} {v : Value} {n' : Nat} {xs : List Value}, w.cell? ⟨p, j, none⟩ = some v → w.ownsRow w0.heap.size e size v n' xs → (∀ g, v.ownBlock = some g → g ≠ p ∧ ¬ B g) → False := by
        intro e size v n' xs h1 h2 h3
        rw [h1] at hc
        cases hc
        exact (h3 b rfl).2 h
      rcases hj with rfl | rfl
      · obtain ⟨v, xs, h1, h2, h3, _⟩ := H.r.c2
        exact key h1 h2 h3
      · obtain ⟨v, xs, h1, h2, h3, _⟩ := H.r.c3
        exact key h1 h2 h3
/-- Both hands, boxes that are kept (K), blocks that may be written over (F). -/
def St (w0 w : World) (P p N : Nat) (f : Int) (l : List Int) (O : List (Int × Int × List Int)) (E : List (Int × Int × Int × Int)) (O' : List (Int × Int × List Int)) (E' : List (Int × Int × Int × Int)) (K : List (Nat × Array Value × TypeId)) (F : Nat → Prop) : Prop :=
  ∃ q B, HLoc.p q = P ∧ Both w0 w q p B N f l O E O' E' ∧ (∀ x ∈ K, ¬ q.ban x.1 ∧ w.heap[x.1]? = some (.cells x.2.1 x.2.2 (0, 0))) ∧ (∀ b, F b → B b) ∧ EUniq E' ∧ O'.length ≤ N ∧ E'.length ≤ N
variable {P : Nat} {K : List (Nat × Array Value × TypeId)} {F : Nat → Prop}
theorem St.old (h : St w0 w P p N f l O E O' E' K F) : Below w0.heap.size w0 w := by
  obtain ⟨q, B, hp, hb, hr⟩ := h
  exact hb.old
theorem St.good (h : St w0 w P p N f l O E O' E' K F) : goodC f l = true := by
  obtain ⟨q, B, hp, hb, hr⟩ := h
  exact hb.h.good
theorem St.below (h : St w0 w P p N f l O E O' E' K F) (hb : Below w.heap.size w w') : St w0 w' P p N f l O E O' E' K F := by
  obtain ⟨q, B, hp, H, hK, hF, hU⟩ := h
  exact ⟨q, B, hp, H.below hb, fun x hx => ⟨(hK x hx).1, (hb.block _ (lt_of_heap (hK x hx).2)).trans (hK x hx).2⟩, hF, hU⟩
theorem St.drew (h : St w0 w P p N f l O E O' E' K F) : St w0 w.drew P p N f l O E O' E' K F := h.below (Below.refl _ _).drew
theorem St.fresh (h : St w0 w P p N f l O E O' E' K F) (hb : Below w.heap.size w w') : ∃ F' : Nat → Prop, (∀ b, F b → F' b) ∧ (∀ b, Made w w' b → F' b) ∧ St w0 w' P p N f l O E O' E' K F' := by
  obtain ⟨q, B, hp, H, hK, hF, hU⟩ := h
  refine ⟨fun b => F b ∨ Made w w' b, fun b hh => .inl hh, fun b hh => .inr hh, q.to fun b => q.ban b ∨ Made w w' b, fun b => B b ∨ Made w w' b, hp, H.fresh hb, fun x hx => ⟨?_, (hb.block _ (lt_of_heap (hK x hx).2)).trans (hK x hx).2⟩, fun b hh => hh.imp (hF b) id, hU⟩
  exact fun hh => hh.elim (hK x hx).1 fun h1 => absurd (lt_of_heap (hK x hx).2) (Nat.not_lt.2 h1.1)
/-- A box is made. -/
theorem St.box (h : St w0 w P p N f l O E O' E' K F) (cs : Array Value) (t : TypeId) : St w0 (w.alloc (.cells cs t)) P p N f l O E O' E' ((w.heap.size, cs, t) :: K) F := by
  obtain ⟨q, B, hp, H, hK, hF, hU⟩ := h
  have hb := Below.new w (.cells cs t)
  refine ⟨q, B, hp, H.below hb, fun x hx => ?_, hF, hU⟩
  rcases List.mem_cons.1 hx with rfl | hx
  · exact ⟨H.hP _ (Nat.le_refl _), heap_alloc_new _ _⟩
  · exact ⟨(hK x hx).1, (hb.block _ (lt_of_heap (hK x hx).2)).trans (hK x hx).2⟩
theorem St.cell (h : St w0 w P p N f l O E O' E' K F) {g : Nat} {cs : Array Value} {t : TypeId} (hx : (g, cs, t) ∈ K) (j : Nat) : w.cell? ⟨g, j, none⟩ = cs[j]? := by
  obtain ⟨q, B, hp, H, hK, hF, hU⟩ := h
  exact cell_of_row _ _ _ _ _ _ (hK _ hx).2
theorem St.block (h : St w0 w P p N f l O E O' E' K F) {g : Nat} {cs : Array Value} {t : TypeId} (hx : (g, cs, t) ∈ K) : w.heap[g]? = some (.cells cs t (0, 0)) := by
  obtain ⟨q, B, hp, H, hK, hF, hU⟩ := h
  exact (hK _ hx).2
theorem St.drop {K' : List (Nat × Array Value × TypeId)} (h : St w0 w P p N f l O E O' E' K F) (hs : ∀ x ∈ K', x ∈ K) : St w0 w P p N f l O E O' E' K' F := by
  obtain ⟨q, B, hp, H, hK, hF, hU⟩ := h
  exact ⟨q, B, hp, H, fun x hx => hK x (hs x hx), hF, hU⟩
theorem St.mono (h : St w0 w P p N f l O E O' E' K F) {N' : Nat} (hN : N ≤ N') : St w0 w P p N' f l O E O' E' K F := by
  obtain ⟨q, B, hp, H, hK, hF, hU, h1, h2⟩ := h
  exact ⟨q, B, hp, H.mono hN, hK, hF, hU, by omega, by omega⟩
/-- Rows of cells have not turned. -/
def KeepC (w w' : World) : Prop := ∀ (g : Nat) (cur : Array Value) (e : TypeId) (fz : Nat × Nat), w.heap[g]? = some (.cells cur e fz) → w'.heap[g]? = w.heap[g]?
/-- The hand's doings. -/
theorem St.hand (h : ∃ q B, HLoc.p q = P ∧ Both w0 w q p B N f l O E O' E' ∧ (∀ x ∈ K, ¬ q.ban x.1 ∧ w.heap[x.1]? = some (.cells x.2.1 x.2.2 (0, 0))) ∧ (∀ b, F b → B b) ∧ (EUniq E' ∧ O'.length ≤ N ∧ E'.length ≤ N) ∧ HandX w' q (N + 3) f l O1 O1 O1 E1 E1 ∧ Only q.R w w') :
    St w0 w' P p (N + 3) f l O1 E1 O' E' K F ∧ KeepC w w' := by
  obtain ⟨q, B, hp, H, hK, hF, ⟨hU, h1, h2⟩, hX, ho⟩ := h
  exact ⟨⟨q, B, hp, H.hand hX ho, fun x hx => ⟨(hK x hx).1, (ho.block _ (lt_of_heap (hK x hx).2) (H.h.notCells (hK x hx).2)).trans (hK x hx).2⟩, hF, hU, by omega, by omega⟩, fun g cur e fz hg => ho.block g (lt_of_heap hg) (H.h.notCells hg)⟩
/-- What a loop of noughts has done, over a row or over nothing. -/
def Zd (wz : World) (g n : Nat) (wr : World) : Prop := (n = 0 ∧ wr = wz) ∨ (0 < n ∧ Zeroed wz g n wr)
theorem Zd.start {base : Nat} {a : Option Addr} {l : List Int} {cap : Nat} (h : Own w base a l cap) : ∃ g, Hid ((0 < l.length → a = some ⟨g, 0, none⟩) ∧ Zd w g l.length w) := by
  rcases Nat.eq_zero_or_pos l.length with h0 | h0
  · exact ⟨0, Lib.hid ⟨fun h => by omega, .inl ⟨h0, rfl⟩⟩⟩
  · obtain ⟨g, h1, h2, h3⟩ := Zeroed.start h h0
    exact ⟨g, Lib.hid ⟨fun _ => h1, .inr ⟨h0, h3⟩⟩⟩
theorem Zd.step {wz wr : World} {g n i : Nat} {v : Value} (h : Zd wz g n wr) (hi : i < n) : Zd wz g n (wr.setCell ⟨g, i, none⟩ v) := by
  rcases h with ⟨h0, _⟩ | ⟨h0, h⟩
  · omega
  · exact .inr ⟨h0, h.step hi⟩
theorem Zd.at {wz wr : World} {g n i : Nat} (h : Zd wz g n wr) (hi : i < n) : (∃ v, wr.cell? ⟨g, i, none⟩ = some v) ∧ wr.frozen? ⟨g, i, none⟩ = false := by
  rcases h with ⟨h0, _⟩ | ⟨h0, h⟩
  · omega
  · exact h.2.2 i hi
theorem Zd.cell {wz wr : World} {g n : Nat} (h : Zd wz g n wr) {a : Addr} {v : Value} (hb : 0 < n → a.block ≠ g) (hc : wz.cell? a = some v) : wr.cell? a = some v := by
  rcases h with ⟨h0, rfl⟩ | ⟨h0, h⟩
  · exact hc
  · exact (World.cell?_of_block (h.2.1 _ (hb h0))).trans hc
theorem Zd.below {wz wr : World} {g n B : Nat} (h : Zd wz g n wr) (hb : 0 < n → B ≤ g) : Below B wz wr := by
  rcases h with ⟨h0, rfl⟩ | ⟨h0, h⟩
  · exact Below.refl _ _
  · exact h.1.mono (hb h0)
/-- The loop of noughts. -/
theorem St.zero {g n : Nat} (h : St w0 w P p N f l O E O' E' K F) (hg : F g) (hz : Zeroed w g n w') : St w0 w' P p N f l O E O' E' K F := by
  obtain ⟨q, B, hp, H, hK, hF, hU⟩ := h
  have hBg := hF g hg
  refine ⟨q, B, hp, H.offB (fun k hk => hz.2.1 k fun e => hk (e ▸ hBg)) (hz.1.mono (H.bb g hBg)), fun x hx => ⟨(hK x hx).1, (hz.2.1 _ fun e => (hK x hx).1 (H.sub _ (by rw [e]; exact hBg))).trans (hK x hx).2⟩, hF, hU⟩
theorem St.zd {g n : Nat} (h : St w0 w P p N f l O E O' E' K F) (hg : 0 < n → F g) (hz : Zd w g n w') : St w0 w' P p N f l O E O' E' K F := by
  rcases hz with ⟨h0, rfl⟩ | ⟨h0, hz⟩
  · exact h
  · exact h.zero (hg h0) hz
theorem KeepC.cell (h : KeepC w w') {a : Addr} {v : Value} (hc : w.cell? a = some v) : w'.cell? a = some v := by
  have hlt := block_lt_of_cell hc
  cases hh : w.heap[a.block]? with
  | none => rw [Array.getElem?_eq_none_iff] at hh; omega
  | some o =>
    cases o with
    | cells cur e fz => exact (World.cell?_of_block (h _ _ _ _ hh)).trans hc
    | _ => simp [World.cell?, hh] at hc
theorem own_keepC {base : Nat} {a : Option Addr} {l : List Int} {cap : Nat} (h : Own w base a l cap) (hk : KeepC w w') : Own w' base a l cap := ownsRow_heap h fun g cur hg => hk _ _ _ _ hg
theorem own_keepF {base : Nat} {a : Option Addr} {l : List Int} {cap : Nat} (h : Own w base a l cap) (hF : ∀ x, a = some x → F x.block) (hk : ∀ b, F b → w'.heap[b]? = w.heap[b]?) : Own w' base a l cap := by
  obtain ⟨h0, h1 | ⟨g, cap', cur, h1, h2, h3, h4⟩⟩ := h
  · exact ⟨h0, .inl h1⟩
  · refine ⟨h0, .inr ⟨g, cap', cur, h1, h2, (hk g ?_).trans h3, h4⟩⟩
    simp only [Value.slice.injEq] at h1
    exact hF _ h1.1
end
end Go.Proofs.Ytldcpnabgpjgiaa.WalksT
