/-
  The document's hand in memory: its struct's cells, two lists that grow.
-/
import Derived.Test.YtldcpnabgpjgiaaHandTF
import Derived.Test.YtldcpnabgpjgiaaHandTellP
namespace Go.Proofs.Ytldcpnabgpjgiaa.WalksT
open Go.Proofs.Ytldcpnabgpjgiaa.Walks
open Go.RowKit Plain
set_option linter.unusedVariables false

theorem isMap_of {w : World} {k : TypeId} {b n : Nat} {f : Value → Option Value} (h : VM w k b n f) : ∃ es c, w.heap[b]? = some (.map es c) := by
  obtain ⟨D, ⟨es, clock, h1, h2⟩, r⟩ := h
  exact ⟨_, _, h1⟩
section
variable {w w' : World} {q : HLoc} {N : Nat} {f : Int} {l : List Int} {O1 O3 O5 : List (Int × Int × List Int)} {E2 E4 : List (Int × Int × Int × Int)}
/-- A row of cells is none of a hand's maps. -/
theorem HandX.notCells (h : HandX w q N f l O1 O3 O5 E2 E4) {g : Nat} {cur : Array Value} {e : TypeId} {fz : Nat × Nat} (hg : w.heap[g]? = some (.cells cur e fz)) : g ∉ q.R := by
  obtain ⟨F1, m1, _⟩ := h.m1
  obtain ⟨F2, m2, _⟩ := h.m2
  obtain ⟨F3, m3, _⟩ := h.m3
  obtain ⟨F4, m4, _⟩ := h.m4
  obtain ⟨F5, m5, _⟩ := h.m5
  intro hm
  simp only [HLoc.R, List.mem_cons, List.not_mem_nil, or_false] at hm
  rcases hm with rfl | rfl | rfl | rfl | rfl
  · obtain ⟨es, c, hh⟩ := isMap_of m1; rw [hh] at hg; cases hg
  · obtain ⟨es, c, hh⟩ := isMap_of m2; rw [hh] at hg; cases hg
  · obtain ⟨es, c, hh⟩ := isMap_of m3; rw [hh] at hg; cases hg
  · obtain ⟨es, c, hh⟩ := isMap_of m4; rw [hh] at hg; cases hg
  · obtain ⟨es, c, hh⟩ := isMap_of m5; rw [hh] at hg; cases hg
end
/-- What lies in the list of orders. -/
def OrdRow (w : World) (B : Nat → Prop) (xs : List Value) (O : List (Int × Int × List Int)) : Prop := ∀ i (h : i < O.length),
  xs[i * 3]? = some (.int .i64 O[i].1) ∧ xs[i * 3 + 1]? = some (.int .i64 O[i].2.1) ∧ ∃ a cap, xs[i * 3 + 2]? = some (.slice a O[i].2.2.length cap) ∧ Ints w a O[i].2.2 ∧ Far B a O[i].2.2 ∧ (a = none → cap = 0)
/-- What lies in the list of ends. -/
def EndRow (xs : List Value) (E : List (Int × Int × Int × Int)) : Prop := ∀ i (h : i < E.length),
  xs[i * 35]? = some (.int .i64 E[i].1) ∧ xs[i * 35 + 1]? = some (.int .i64 E[i].2.1) ∧ ∀ j, j < 33 → xs[i * 35 + 2 + j]? = (markC E[i].2.2.1 E[i].2.2.2)[j]?
/-- The block of one of the two lists that grow. -/
def tabOf (w : World) (p b : Nat) : Prop := ∃ j n cap, (j = 2 ∨ j = 3) ∧ w.cell? ⟨p, j, none⟩ = some (.slice (some ⟨b, 0, none⟩) n cap)
/-- Where none of its other lists lies. -/
def Apart (B : Nat → Prop) (w : World) (p b : Nat) : Prop := B b ∨ tabOf w p b
theorem Apart.same {B : Nat → Prop} {w w' : World} {p : Nat} (hp : w'.heap[p]? = w.heap[p]?) {b : Nat} (h : Apart B w' p b) : Apart B w p b :=
  h.imp id fun ⟨j, n, cap, hj, hc⟩ => ⟨j, n, cap, hj, by rw [← hc]; exact (World.cell?_of_block (a := ⟨p, j, none⟩) hp).symm⟩
theorem Far.imp {A B : Nat → Prop} {a : Option Addr} {l : List Int} (h : Far A a l) (hB : ∀ b, B b → A b) : Far B a l := Or.imp id (fun k x hx hb => k x hx (hB _ hb)) h
/-- The document's hand at p, none of whose lists lies in a banned block. -/
structure RefX (w : World) (p base : Nat) (B : Nat → Prop) (f : Int) (l : List Int) (O : List (Int × Int × List Int)) (E : List (Int × Int × Int × Int)) : Prop where
  row : ∃ fz, w.heap[p]? = some fz
  c0 : w.cell? ⟨p, 0, none⟩ = some (.int .i64 f)
  c1 : ∃ a cap, w.cell? ⟨p, 1, none⟩ = some (.slice a l.length cap) ∧ Ints w a l ∧ Far (Apart B w p) a l ∧ (a = none → cap = 0)
  c2 : ∃ v xs, w.cell? ⟨p, 2, none⟩ = some v ∧ w.ownsRow base 147 3 v O.length xs ∧ (∀ g, v.ownBlock = some g → g ≠ p ∧ ¬ B g) ∧ OrdRow w (Apart B w p) xs O
  c3 : ∃ v xs, w.cell? ⟨p, 3, none⟩ = some v ∧ w.ownsRow base 149 35 v E.length xs ∧ (∀ g, v.ownBlock = some g → g ≠ p ∧ ¬ B g) ∧ EndRow xs E
  z2 : w.frozen? ⟨p, 2, none⟩ = false
  z3 : w.frozen? ⟨p, 3, none⟩ = false
  np : ¬ B p
  pb : base ≤ p
theorem ownsRow_heap {w w' : World} {base : Nat} {e : TypeId} {size : Nat} {v : Value} {n : Nat} {xs : List Value} (h : w.ownsRow base e size v n xs) (hk : ∀ (g : Nat) (cur : Array Value), w.heap[g]? = some (Obj.cells cur e (0, 0)) → w'.heap[g]? = w.heap[g]?) : w'.ownsRow base e size v n xs := by
  obtain ⟨h0, h1 | ⟨g, cap, cur, h1, h2, h3, h4⟩⟩ := h
  · exact ⟨h0, .inl h1⟩
  · exact ⟨h0, .inr ⟨g, cap, cur, h1, h2, (hk _ _ h3).trans h3, h4⟩⟩
section
variable {w w' : World} {p base : Nat} {B : Nat → Prop} {f : Int} {l : List Int} {O : List (Int × Int × List Int)} {E : List (Int × Int × Int × Int)}
theorem RefX.same (h : RefX w p base B f l O E) (hk : ∀ (g : Nat) (cur : Array Value) (e : TypeId) (fz : Nat × Nat), w.heap[g]? = some (Obj.cells cur e fz) → w'.heap[g]? = w.heap[g]?) : RefX w' p base B f l O E := by
  have hc : ∀ a v, w.cell? a = some v → w'.cell? a = some v := fun a v hv => by
    have hlt := block_lt_of_cell hv
    have hb : w'.heap[a.block]? = w.heap[a.block]? := by
      cases hh : w.heap[a.block]? with
      | none => rw [Array.getElem?_eq_none_iff] at hh; omega
      | some o =>
        cases o with
        | cells cur e fz => rw [hk _ _ _ _ hh, hh]
        | _ => simp [World.cell?, hh] at hv
    exact (World.cell?_of_block hb).trans hv
  have hI : ∀ a l, Ints w a l → Ints w' a l := fun a l hI => ⟨hI.1, hI.2.imp id fun ⟨b, off, e, hh⟩ => ⟨b, off, e, fun i hi => hc _ _ (hh i hi)⟩⟩
  have hp : w'.heap[p]? = w.heap[p]? := by
    obtain ⟨o, ho⟩ := h.row
    cases o with
    | cells cur e fz => exact hk _ _ _ _ ho
    | _ => have := h.c0; simp [World.cell?, ho] at this
  obtain ⟨a, cap, h1, h2, h3⟩ := h.c1
  obtain ⟨v2, xs2, o1, o2, o3, o4⟩ := h.c2
  obtain ⟨v3, xs3, e1, e2, e3, e4⟩ := h.c3
  refine ⟨by rw [hp]; exact h.row, hc _ _ h.c0, ⟨a, cap, hc _ _ h1, hI _ _ h2, h3.1.imp fun b => Apart.same hp, h3.2⟩, ⟨v2, xs2, hc _ _ o1, ownsRow_heap o2 fun g cur hg => hk _ _ _ _ hg, o3, fun i hi => ?_⟩,
    ⟨v3, xs3, hc _ _ e1, ownsRow_heap e2 fun g cur hg => hk _ _ _ _ hg, e3, e4⟩, (World.frozen?_of_block (a := ⟨p, 2, none⟩) hp).trans h.z2, (World.frozen?_of_block (a := ⟨p, 3, none⟩) hp).trans h.z3, h.np, h.pb⟩
  obtain ⟨y1, y2, a, cap, y3, y4, y5, y6⟩ := o4 i hi
  exact ⟨y1, y2, a, cap, y3, hI _ _ y4, y5.imp fun b => Apart.same hp, y6⟩
theorem RefX.below (h : RefX w p base B f l O E) (hb : Below w.heap.size w w') : RefX w' p base B f l O E :=
  h.same fun g cur e fz hg => hb.block g (lt_of_heap hg)
/-- A hand's doings leave it. -/
theorem RefX.hand {q : HLoc} {N : Nat} {f' : Int} {l' : List Int} {O1 O3 O5 : List (Int × Int × List Int)} {E2 E4 : List (Int × Int × Int × Int)} (h : RefX w p base B f l O E) (hq : HandX w q N f' l' O1 O3 O5 E2 E4) (ho : Only q.R w w') : RefX w' p base B f l O E :=
  h.same fun g cur e fz hg => ho.block g (lt_of_heap hg) (hq.notCells hg)
/-- Cells of a banned block may be written. -/
theorem RefX.setCell (h : RefX w p base B f l O E) {g : Nat} (hg : B g) (k : Nat) (u : Value) : RefX (w.setCell ⟨g, k, none⟩ u) p base B f l O E := by
  have hb : ∀ b, b ≠ g → (w.setCell ⟨g, k, none⟩ u).heap[b]? = w.heap[b]? := fun b hn => Below.heap_setCell w ⟨g, k, none⟩ u b (fun e => hn e)
  have hpg : p ≠ g := fun e => h.np (e ▸ hg)
  have hc : ∀ j v, w.cell? ⟨p, j, none⟩ = some v → (w.setCell ⟨g, k, none⟩ u).cell? ⟨p, j, none⟩ = some v := fun j v hv => (World.cell?_of_block (a := ⟨p, j, none⟩) (hb p hpg)).trans hv
  obtain ⟨a, cap, h1, h2, h3, h4⟩ := h.c1
  obtain ⟨v2, xs2, o1, o2, o3, o4⟩ := h.c2
  obtain ⟨v3, xs3, e1, e2, e3, e4⟩ := h.c3
  have hrow : ∀ {e : TypeId} {size : Nat} {v : Value} {n : Nat} {xs : List Value}, w.ownsRow base e size v n xs → (∀ b, v.ownBlock = some b → b ≠ p ∧ ¬ B b) → (w.setCell ⟨g, k, none⟩ u).ownsRow base e size v n xs := by
    intro e size v n xs hr hv
    obtain ⟨r0, r1 | ⟨b, cap, cur, r1, r2, r3, r4⟩⟩ := hr
    · exact ⟨r0, .inl r1⟩
    · subst r1
      exact ⟨r0, .inr ⟨b, cap, cur, rfl, r2, (hb b (fun e => (hv b rfl).2 (e ▸ hg))).trans r3, r4⟩⟩
  refine ⟨by rw [hb p hpg]; exact h.row, hc _ _ h.c0, ⟨a, cap, hc _ _ h1, ints_far h2 h3 (.inl hg) k u, h3.imp fun b => Apart.same (hb p hpg), h4⟩, ⟨v2, xs2, hc _ _ o1, hrow o2 o3, o3, fun i hi => ?_⟩,
    ⟨v3, xs3, hc _ _ e1, hrow e2 e3, e3, e4⟩, (World.frozen?_of_block (a := ⟨p, 2, none⟩) (hb p hpg)).trans h.z2, (World.frozen?_of_block (a := ⟨p, 3, none⟩) (hb p hpg)).trans h.z3, h.np, h.pb⟩
  obtain ⟨y1, y2, a, cap, y3, y4, y5, y6⟩ := o4 i hi
  exact ⟨y1, y2, a, cap, y3, ints_far y4 y5 (.inl hg) k u, y5.imp fun b => Apart.same (hb p hpg), y6⟩
/-- The cells of a row. -/
theorem row_cells {e : TypeId} {size : Nat} {v : Value} {n : Nat} {xs : List Value} (h : w.ownsRow base e size v n xs) (h0 : 0 < n) :
    ∃ g cap, v = .slice (some ⟨g, 0, none⟩) n cap ∧ n ≤ cap ∧ cap ≤ maxLen ∧ base ≤ g ∧ ∀ j, j < n * size → w.cell? ⟨g, j, none⟩ = xs[j]? := by
  obtain ⟨_, ⟨_, h1⟩ | ⟨g, cap, cur, h1, h2, h3, h4, h5, h6, h7⟩⟩ := h
  · omega
  · refine ⟨g, cap, h1, h4, h5, h2, fun j hj => ?_⟩
    rw [cell_of_row _ _ _ _ _ _ h3, ← h7, List.getElem?_take, if_pos hj, Array.getElem?_toList]
theorem RefX.orders (h : RefX w p base B f l O E) (h0 : 0 < O.length) :
    ∃ g cap, w.cell? ⟨p, 2, none⟩ = some (.slice (some ⟨g, 0, none⟩) O.length cap) ∧ O.length ≤ cap ∧ cap ≤ maxLen ∧ ∀ i (hi : i < O.length),
      w.cell? ⟨g, i * 3, none⟩ = some (.int .i64 O[i].1) ∧ w.cell? ⟨g, i * 3 + 1, none⟩ = some (.int .i64 O[i].2.1) ∧ ∃ a cap, w.cell? ⟨g, i * 3 + 2, none⟩ = some (.slice a O[i].2.2.length cap) ∧ Ints w a O[i].2.2 ∧ (a = none → cap = 0) := by
  obtain ⟨v2, xs2, o1, o2, o3, o4⟩ := h.c2
  obtain ⟨g, cap, rfl, k1, k2, _, k3⟩ := row_cells o2 h0
  refine ⟨g, cap, o1, k1, k2, fun i hi => ?_⟩
  obtain ⟨y1, y2, a, c, y3, y4, y5, y6⟩ := o4 i hi
  exact ⟨(k3 _ (by omega)).trans y1, (k3 _ (by omega)).trans y2, a, c, (k3 _ (by omega)).trans y3, y4, y6⟩
theorem RefX.ends (h : RefX w p base B f l O E) (h0 : 0 < E.length) :
    ∃ g cap, w.cell? ⟨p, 3, none⟩ = some (.slice (some ⟨g, 0, none⟩) E.length cap) ∧ E.length ≤ cap ∧ cap ≤ maxLen ∧ ∀ i (hi : i < E.length),
      w.cell? ⟨g, i * 35, none⟩ = some (.int .i64 E[i].1) ∧ w.cell? ⟨g, i * 35 + 1, none⟩ = some (.int .i64 E[i].2.1) ∧ ∀ j, j < 33 → w.cell? ⟨g, i * 35 + 2 + j, none⟩ = (markC E[i].2.2.1 E[i].2.2.2)[j]? := by
  obtain ⟨v3, xs3, o1, o2, o3, o4⟩ := h.c3
  obtain ⟨g, cap, rfl, k1, k2, _, k3⟩ := row_cells o2 h0
  refine ⟨g, cap, o1, k1, k2, fun i hi => ?_⟩
  obtain ⟨y1, y2, y3⟩ := o4 i hi
  exact ⟨(k3 _ (by omega)).trans y1, (k3 _ (by omega)).trans y2, fun j hj => (k3 _ (by omega)).trans (y3 j hj)⟩
theorem RefX.noOrders (h : RefX w p base B f l [] E) : ∃ v, w.cell? ⟨p, 2, none⟩ = some v ∧ ∃ a cap, v = .slice a 0 cap := by
  obtain ⟨v2, xs2, o1, o2, o3, o4⟩ := h.c2
  obtain ⟨_, ⟨h1, _⟩ | ⟨g, cap, cur, h1, h2⟩⟩ := o2
  · exact ⟨v2, o1, none, 0, h1⟩
  · exact ⟨v2, o1, _, cap, h1⟩
theorem RefX.noEnds (h : RefX w p base B f l O []) : ∃ v, w.cell? ⟨p, 3, none⟩ = some v ∧ ∃ a cap, v = .slice a 0 cap := by
  obtain ⟨v2, xs2, o1, o2, o3, o4⟩ := h.c3
  obtain ⟨_, ⟨h1, _⟩ | ⟨g, cap, cur, h1, h2⟩⟩ := o2
  · exact ⟨v2, o1, none, 0, h1⟩
  · exact ⟨v2, o1, _, cap, h1⟩
end
end Go.Proofs.Ytldcpnabgpjgiaa.WalksT
