/-
  What the document's hand's doings leave, and one more element at the end of one of its lists.
-/
import Derived.Test.YtldcpnabgpjgiaaHandTI
namespace Go.Proofs.Ytldcpnabgpjgiaa.WalksT
open Go.Proofs.Ytldcpnabgpjgiaa.Walks
open Go.RowKit Plain
set_option linter.unusedVariables false

/-- Of the old blocks only p and the two rows have turned. -/
structure RefGo (p : Nat) (w w' : World) : Prop where
  size : w.heap.size ≤ w'.heap.size
  block : ∀ b, b < w.heap.size → b ≠ p → ¬ tabOf w p b → w'.heap[b]? = w.heap[b]?
  rows : ∀ b, tabOf w' p b → tabOf w p b ∨ w.heap.size ≤ b
theorem RefGo.of_below {p : Nat} {w w' : World} (hp : p < w.heap.size) (h : Below w.heap.size w w') : RefGo p w w' :=
  ⟨h.size, fun b hb _ _ => h.block b hb, fun b ⟨j, n, cap, hj, hc⟩ => .inl ⟨j, n, cap, hj, by rw [← hc]; exact (World.cell?_of_block (a := ⟨p, j, none⟩) (h.block p hp)).symm⟩⟩
theorem RefGo.trans {p : Nat} {w w' w'' : World} (h : RefGo p w w') (k : RefGo p w' w'') : RefGo p w w'' :=
  ⟨Nat.le_trans h.size k.size, fun b h1 h2 h3 => (k.block b (Nat.lt_of_lt_of_le h1 h.size) h2 fun ht => (h.rows b ht).elim h3 fun hh => absurd h1 (Nat.not_lt.2 hh)).trans (h.block b h1 h2 h3),
    fun b ht => (k.rows b ht).elim (fun h1 => h.rows b h1) fun h1 => .inr (Nat.le_trans h.size h1)⟩
theorem RefX.lt {w : World} {p base : Nat} {B : Nat → Prop} {f : Int} {l : List Int} {O : List (Int × Int × List Int)} {E : List (Int × Int × Int × Int)} (h : RefX w p base B f l O E) : p < w.heap.size := block_lt_of_cell h.c0
theorem RefX.refGo {w w' : World} {p base : Nat} {B : Nat → Prop} {f : Int} {l : List Int} {O : List (Int × Int × List Int)} {E : List (Int × Int × Int × Int)} (h : RefX w p base B f l O E) (hb : Below w.heap.size w w') : RefGo p w w' := RefGo.of_below h.lt hb
theorem ints_blocks {w w' : World} {a : Option Addr} {l : List Int} (h : Ints w a l) (hk : ∀ x, a = some x → l ≠ [] → w'.heap[x.block]? = w.heap[x.block]?) : Ints w' a l := by
  refine ⟨h.1, h.2.imp id fun ⟨b, off, e, hh⟩ => ⟨b, off, e, fun i hi => ?_⟩⟩
  rw [← hh i hi]
  exact World.cell?_of_block (a := ⟨b, off + i, none⟩) (hk ⟨b, off, none⟩ e (by rintro rfl; simp at hi))
theorem ints_setCell_ne {w : World} {a : Option Addr} {l : List Int} (h : Ints w a l) {x : Addr} {v : Value} (hx : w.cell? x = some v) (hv : ∀ i, v ≠ .int .i64 i) (u : Value) : Ints (w.setCell x u) a l := by
  refine ⟨h.1, h.2.imp id fun ⟨b, off, e, hh⟩ => ⟨b, off, e, fun i hi => ?_⟩⟩
  rw [World.cell?_setCell_other _ _ _ _ (by intro hy; have h1 := hh i hi; (first | rw [hy] at h1 | rw [← hy] at h1); rw [h1] at hx; exact hv _ (Option.some.inj hx).symm)]
  exact hh i hi
theorem row_setCell {w : World} {base : Nat} {e : TypeId} {size : Nat} {v : Value} {n : Nat} {xs : List Value} (hr : w.ownsRow base e size v n xs) {p : Nat} (hv : ∀ b, v.ownBlock = some b → b ≠ p) (k : Nat) (u : Value) : (w.setCell ⟨p, k, none⟩ u).ownsRow base e size v n xs := by
  obtain ⟨r0, r1 | ⟨b, cap, cur, r1, r2, r3, r4⟩⟩ := hr
  · exact ⟨r0, .inl r1⟩
  · subst r1
    exact ⟨r0, .inr ⟨b, cap, cur, rfl, r2, (Below.heap_setCell w ⟨p, k, none⟩ u b (fun e => hv b rfl e)).trans r3, r4⟩⟩
theorem far_grow {w : World} {a : Option Addr} {l : List Int} {A B : Nat → Prop} (h : Ints w a l) (hf : Far A a l) (hB : ∀ b, B b → A b ∨ w.heap.size ≤ b) : Far B a l :=
  far_more h hf fun b hb hx => (hB b hx).elim id fun hh => absurd hb (Nat.not_lt.2 hh)
/-- What own rows' values look like. -/
theorem row_val {w : World} {base : Nat} {e : TypeId} {size : Nat} {v : Value} {n : Nat} {xs : List Value} (h : w.ownsRow base e size v n xs) : (v = .slice none 0 0 ∧ n = 0) ∨ ∃ g cap, v = .slice (some ⟨g, 0, none⟩) n cap ∧ v.ownBlock = some g ∧ g < w.heap.size := by
  obtain ⟨_, h1 | ⟨g, cap, cur, h1, h2, h3, _⟩⟩ := h
  · exact .inl h1
  · exact .inr ⟨g, cap, h1, by rw [h1]; rfl, lt_of_heap h3⟩
theorem row_ne {w : World} {base : Nat} {e e' : TypeId} {size size' : Nat} {v v' : Value} {n n' : Nat} {xs xs' : List Value} (h : w.ownsRow base e size v n xs) (h' : w.ownsRow base e' size' v' n' xs') (hne : e ≠ e') {g : Nat} (hg : v.ownBlock = some g) : v'.ownBlock ≠ some g := by
  intro hg'
  obtain ⟨_, ⟨rfl, _⟩ | ⟨b, cap, cur, rfl, h2, h3, _⟩⟩ := h
  · simp [Value.ownBlock] at hg
  obtain ⟨_, ⟨rfl, _⟩ | ⟨b', cap', cur', rfl, k2, k3, _⟩⟩ := h'
  · simp [Value.ownBlock] at hg'
  simp only [Value.ownBlock, Option.some.injEq] at hg hg'
  subst hg; subst hg'
  rw [h3] at k3
  simp at k3
  exact hne k3.2

/-- A row that grew, and its value stored anew at p: what is kept. -/
structure Grew (w w5 w' : World) (p base j : Nat) (B : Nat → Prop) (e : TypeId) (g n cap : Nat) : Prop where
  cells : ∀ j' v, j' ≠ j → w.cell? ⟨p, j', none⟩ = some v → w'.cell? ⟨p, j', none⟩ = some v
  new : w'.cell? ⟨p, j, none⟩ = some (.slice (some ⟨g, 0, none⟩) n cap)
  frozen : ∀ j', w'.frozen? ⟨p, j', none⟩ = w.frozen? ⟨p, j', none⟩
  gp : g ≠ p
  ints : ∀ {a : Option Addr} {k : List Int}, Ints w a k → Far (Apart B w p) a k → Ints w' a k ∧ Far (Apart B w' p) a k
  other : ∀ {e' : TypeId} {size : Nat} {v : Value} {n : Nat} {xs : List Value}, e' ≠ e → w.ownsRow base e' size v n xs → (∀ b, v.ownBlock = some b → b ≠ p) → w'.ownsRow base e' size v n xs
  row : ∀ {e' : TypeId} {size : Nat} {n cap : Nat} {xs : List Value}, w5.ownsRow base e' size (.slice (some ⟨g, 0, none⟩) n cap) n xs → w'.ownsRow base e' size (.slice (some ⟨g, 0, none⟩) n cap) n xs
  below : Below base w w'
  go : RefGo p w w'

section
variable {w wd w5 : World} {p base : Nat} {B : Nat → Prop} {f : Int} {l : List Int} {O : List (Int × Int × List Int)} {E : List (Int × Int × Int × Int)}
theorem grew {j : Nat} (hj : j = 2 ∨ j = 3) (hp : p < w.heap.size) (hpb : base ≤ p) (hb : Below w.heap.size w wd) {v : Value} {e : TypeId} {size n : Nat} {xs : List Value} (hv : w.cell? ⟨p, j, none⟩ = some v) (o2 : w.ownsRow base e size v n xs) (o3 : ∀ g, v.ownBlock = some g → g ≠ p)
    {g k cap : Nat} (hgr : wd.grownBy w5 v.ownBlock) (hat : v.ownBlock = some g ∨ g = wd.heap.size) {w' : World} (hw' : w' = w5.setCell ⟨p, j, none⟩ (.slice (some ⟨g, 0, none⟩) k cap)) : Grew w w5 w' p base j B e g k cap ∧
      (∀ {a : Option Addr} {m : List Int}, Ints wd a m → (∀ x, a = some x → w.heap.size ≤ x.block) → (∀ b, w.heap.size ≤ b → ¬ B b) → (∀ j' b n c, (j' = 2 ∨ j' = 3) → w.cell? ⟨p, j', none⟩ = some (.slice (some ⟨b, 0, none⟩) n c) → b < w.heap.size) → Ints w' a m ∧ Far (Apart B w' p) a m) := by
  have hz := hb.size
  have hz5 := hgr.size
  have hvs : (v = .slice none 0 0 ∧ n = 0) ∨ ∃ g cap, v = .slice (some ⟨g, 0, none⟩) n cap ∧ v.ownBlock = some g ∧ g < w.heap.size := row_val o2
  have htab : ∀ b, v.ownBlock = some b → tabOf w p b := by
    intro b hb'
    rcases hvs with ⟨rfl, _⟩ | ⟨g', c', e1, e2, _⟩
    · simp [Value.ownBlock] at hb'
    · rw [e2] at hb'
      cases hb'
      exact ⟨j, _, _, hj, by rw [hv, e1]⟩
  have hblk : ∀ b, b < w.heap.size → v.ownBlock ≠ some b → w5.heap[b]? = w.heap[b]? := fun b h1 h2 => (hgr.block b (by omega) (Ne.symm h2)).trans (hb.block b h1)
  have hp5 : w5.heap[p]? = w.heap[p]? := hblk p hp fun hh => o3 p hh rfl
  have hgp : g ≠ p := by
    rcases hat with h1 | h1
    · exact o3 g h1
    · omega
  have hset : ∀ b, b ≠ p → w'.heap[b]? = w5.heap[b]? := fun b hn => by rw [hw']; exact Below.heap_setCell w5 ⟨p, j, none⟩ _ b (fun e => hn e)
  have hc5 : ∀ j v, w.cell? ⟨p, j, none⟩ = some v → w5.cell? ⟨p, j, none⟩ = some v := fun j v hv => (World.cell?_of_block (a := ⟨p, j, none⟩) hp5).trans hv
  have hcs : ∀ j' v, j' ≠ j → w.cell? ⟨p, j', none⟩ = some v → w'.cell? ⟨p, j', none⟩ = some v := fun j' v hj hv => by
    rw [hw', World.cell?_setCell_other _ _ _ _ (by intro hx; simp at hx; first | done | omega)]
    exact hc5 j' v hv
  have hfr : ∀ j', w'.frozen? ⟨p, j', none⟩ = w.frozen? ⟨p, j', none⟩ := fun j' => by rw [hw']; simp; exact World.frozen?_of_block (a := ⟨p, j', none⟩) hp5
  have hv5 : w5.cell? ⟨p, j, none⟩ = some v := hc5 j v hv
  have hnew : w'.cell? ⟨p, j, none⟩ = some (.slice (some ⟨g, 0, none⟩) k cap) := by rw [hw']; exact World.cell?_setCell_same _ _ _ hv5
  have hv2i : ∀ i, v ≠ .int .i64 i := by
    intro i
    rcases hvs with ⟨rfl, _⟩ | ⟨g', c', rfl, _, _⟩ <;> simp
  have htabn : ∀ b, tabOf w' p b → tabOf w p b ∨ wd.heap.size ≤ b := by
    rintro b ⟨j', k', c, hj', hh⟩
    by_cases hjj : j' = j
    · subst hjj
      rw [hnew] at hh
      simp only [Option.some.injEq, Value.slice.injEq, Addr.mk.injEq] at hh
      obtain ⟨⟨rfl, _⟩, _⟩ := hh
      rcases hat with h1 | h1
      · exact .inl (htab _ h1)
      · exact .inr (by omega)
    · left
      refine ⟨j', k', c, hj', ?_⟩
      rw [← hh, hw', World.cell?_setCell_other _ _ _ _ (by intro hx; simp at hx; first | done | exact hjj hx | exact hjj hx.symm)]
      exact (World.cell?_of_block (a := ⟨p, j', none⟩) hp5).symm
  have hApart : ∀ b, Apart B w' p b → Apart B w p b ∨ w.heap.size ≤ b := fun b hb' => hb'.elim (fun h1 => .inl (.inl h1)) fun h1 => (htabn b h1).elim (fun h2 => .inl (.inr h2)) fun h2 => .inr (by omega)
  have hB' : Below base w w' := by
    have hB5 : Below base w w5 := ⟨hgr.os.trans hb.os, hgr.tape.trans hb.tape, hgr.output.trans hb.output, by omega, fun b hb' => by
      refine hblk b (by omega) fun hh => ?_
      obtain ⟨_, ⟨rfl, _⟩ | ⟨g', c', cur, rfl, q2, _⟩⟩ := o2
      · simp [Value.ownBlock] at hh
      · simp only [Value.ownBlock, Option.some.injEq] at hh; omega⟩
    rw [hw']
    exact hB5.setCell hpb _
  refine ⟨⟨hcs, hnew, hfr, hgp, fun {a k} hI hF => ⟨?_, far_grow hI hF hApart⟩, fun hne hr hvp => ?_, fun hr => ?_, hB', ⟨?_, fun b h1 h2 h3 => ?_, fun b hb' => (htabn b hb').imp id fun h => by omega⟩⟩, fun {a m} hI hF hBn hrow => ⟨?_, ?_⟩⟩
  · rw [hw']
    refine ints_setCell_ne (ints_blocks hI fun x hx hne => ?_) hv5 hv2i _
    refine hblk _ ?_ fun hh => ?_
    · rcases hI.2 with h0 | ⟨b, off, e1, hh⟩
      · exact absurd h0 hne
      · rw [hx] at e1; cases e1
        exact block_lt_of_cell (hh 0 (List.length_pos_iff.2 hne))
    · rcases hF with h0 | hF
      · exact hne h0
      · exact hF x hx (.inr (htab _ hh))
  · rw [hw']
    refine row_setCell (ownsRow_heap hr fun g' cur hg' => hblk g' (lt_of_heap hg') fun hh => ?_) hvp _ _
    obtain ⟨_, ⟨rfl, _⟩ | ⟨b, c', cur', rfl, q2, q3, _⟩⟩ := o2
    · simp [Value.ownBlock] at hh
    · simp only [Value.ownBlock, Option.some.injEq] at hh
      subst hh
      rw [q3] at hg'
      simp at hg'
      exact hne hg'.2.symm
  · rw [hw']
    exact row_setCell hr (fun b hb' => by simp only [Value.ownBlock, Option.some.injEq] at hb'; omega) _ _
  · rw [hw']; simp; omega
  · rw [hset b h2]
    exact hblk b h1 fun hh => h3 (htab b hh)
  · rw [hw']
    refine ints_setCell_ne (ints_blocks hI fun x hx hne => ?_) hv5 hv2i _
    have hge := hF x hx
    refine hgr.block _ ?_ fun hh => ?_
    · rcases hI.2 with h0 | ⟨b, off, e1, hh⟩
      · exact absurd h0 hne
      · rw [hx] at e1; cases e1
        exact block_lt_of_cell (hh 0 (List.length_pos_iff.2 hne))
    · rcases hvs with ⟨rfl, _⟩ | ⟨g', c', e2, e3, h3⟩
      · simp [Value.ownBlock] at hh
      · rw [e3] at hh; cases hh; omega
  · rcases hI.2 with h0 | ⟨b, off, e1, hh⟩
    · exact .inl h0
    by_cases hm : m = []
    · exact .inl hm
    right
    intro x hx hA
    rw [e1] at hx; cases hx
    have hlt := block_lt_of_cell (hh 0 (List.length_pos_iff.2 hm))
    have hge := hF _ e1
    rcases hA with h1 | h1
    · exact hBn _ hge h1
    · rcases htabn _ h1 with ⟨j', k', c, hj', h2⟩ | h2
      · exact absurd (hrow _ _ _ _ hj' h2) (Nat.not_lt.2 hge)
      · simp only at hlt h2; omega
theorem RefX.tabs (h : RefX w p base B f l O E) (j' b n c : Nat) (hj : j' = 2 ∨ j' = 3) (hh : w.cell? ⟨p, j', none⟩ = some (.slice (some ⟨b, 0, none⟩) n c)) : b < w.heap.size := by
  have key : ∀ {e : TypeId} {size : Nat} {v : Value} {n' : Nat} {xs : List Value}, w.cell? ⟨p, j', none⟩ = some v → w.ownsRow base e size v n' xs → b < w.heap.size := by
    intro e size v n' xs h1 h2
    rw [h1] at hh
    cases hh
    rcases row_val h2 with ⟨h3, _⟩ | ⟨g', c', e2, e3, h3⟩
    · cases h3
    · simp only [Value.slice.injEq, Option.some.injEq, Addr.mk.injEq] at e2
      omega
  rcases hj with rfl | rfl
  · obtain ⟨v, xs, h1, h2, _⟩ := h.c2
    exact key h1 h2
  · obtain ⟨v, xs, h1, h2, _⟩ := h.c3
    exact key h1 h2
/-- The cells of an end. -/
def endC (n e s r : Int) : Array Value := #[.int .i64 n, .int .i64 e, .int .i64 s, .int .u8 r, .int .u8 0, .int .u8 0, .int .u8 0, .int .u8 0, .int .u8 0, .int .u8 0, .int .u8 0, .int .u8 0, .int .u8 0, .int .u8 0, .int .u8 0, .int .u8 0, .int .u8 0, .int .u8 0, .int .u8 0, .int .u8 0, .int .u8 0, .int .u8 0, .int .u8 0, .int .u8 0, .int .u8 0, .int .u8 0, .int .u8 0, .int .u8 0, .int .u8 0, .int .u8 0, .int .u8 0, .int .u8 0, .int .u8 0, .int .u8 0, .int .u8 0]
theorem endC_size (n e s r : Int) : (endC n e s r).size = 35 := rfl
theorem endC_list (n e s r : Int) : (endC n e s r).toList = .int .i64 n :: .int .i64 e :: (markC s r).toList := rfl
theorem endC_one (n e s r : Int) : ∀ u ∈ (endC n e s r).toList, u.oneCell' = true := by
  intro u hu
  rw [endC_list, List.mem_cons, List.mem_cons] at hu
  rcases hu with rfl | rfl | hu
  · rfl
  · rfl
  · have h1 : (markC s r).toList.all (·.oneCell') = true := by rw [Array.all_toList]; exact markC_one s r
    exact List.all_eq_true.1 h1 u hu
theorem endC_at (n e s r : Int) : (endC n e s r).toList[0]? = some (.int .i64 n) ∧ (endC n e s r).toList[1]? = some (.int .i64 e) ∧ ∀ j, (endC n e s r).toList[2 + j]? = (markC s r)[j]? := by
  refine ⟨rfl, rfl, fun j => ?_⟩
  rw [endC_list, show 2 + j = j + 1 + 1 by omega, List.getElem?_cons_succ, List.getElem?_cons_succ, Array.getElem?_toList]
/-- What lies in the list with one more. -/
theorem ordRow_snoc {xs : List Value} {A : Nat → Prop} {n e : Int} {m : List Int} {a5 : Option Addr} {c5 : Nat} (hl : xs.length = O.length * 3) (h : OrdRow w A xs O) (hI : Ints w a5 m) (hF : Far A a5 m) (hc : a5 = none → c5 = 0) :
    OrdRow w A (xs ++ [.int .i64 n, .int .i64 e, .slice a5 m.length c5]) (O ++ [(n, e, m)]) := by
  intro i hi
  simp only [List.length_append, List.length_singleton] at hi
  by_cases hlt : i < O.length
  · rw [List.getElem_append_left hlt]
    rw [List.getElem?_append_left (by omega), List.getElem?_append_left (by omega), List.getElem?_append_left (by omega)]
    exact h i hlt
  · obtain rfl : i = O.length := by omega
    rw [List.getElem_append_right (Nat.le_refl _)]
    rw [List.getElem?_append_right (by omega), List.getElem?_append_right (by omega), List.getElem?_append_right (by omega), hl]
    simp only [Nat.sub_self, Nat.add_sub_cancel_left, List.getElem_cons_zero]
    exact ⟨rfl, rfl, a5, c5, rfl, hI, hF, hc⟩
theorem endRow_snoc {xs : List Value} {n e s r : Int} (hl : xs.length = E.length * 35) (h : EndRow xs E) : EndRow (xs ++ (endC n e s r).toList) (E ++ [(n, e, s, r)]) := by
  intro i hi
  simp only [List.length_append, List.length_singleton] at hi
  by_cases hlt : i < E.length
  · rw [List.getElem_append_left hlt]
    rw [List.getElem?_append_left (by omega), List.getElem?_append_left (by omega)]
    obtain ⟨h1, h2, h3⟩ := h i hlt
    exact ⟨h1, h2, fun j hj => by rw [List.getElem?_append_left (by omega)]; exact h3 j hj⟩
  · obtain rfl : i = E.length := by omega
    rw [List.getElem_append_right (Nat.le_refl _)]
    rw [List.getElem?_append_right (by omega), List.getElem?_append_right (by omega), hl]
    simp only [Nat.sub_self, Nat.add_sub_cancel_left, List.getElem_cons_zero]
    obtain ⟨x0, x1, x2⟩ := endC_at n e s r
    refine ⟨x0, x1, fun j hj => ?_⟩
    rw [List.getElem?_append_right (by omega), hl, show E.length * 35 + 2 + j - E.length * 35 = 2 + j by omega]
    exact x2 j
/-- One more order. -/
theorem RefX.appended2 (h : RefX w p base B f l O E) (hb : Below w.heap.size w wd) {n e : Int} {m : List Int} {a5 : Option Addr} {c5 : Nat} (hI : Ints wd a5 m) (hF : ∀ x, a5 = some x → w.heap.size ≤ x.block) (hB : ∀ b, w.heap.size ≤ b → ¬ B b) (hc : a5 = none → c5 = 0)
    {v2 : Value} {xs2 : List Value} (hv : w.cell? ⟨p, 2, none⟩ = some v2) (o2 : w.ownsRow base 147 3 v2 O.length xs2) (o3 : ∀ g, v2.ownBlock = some g → g ≠ p ∧ ¬ B g) (o4 : OrdRow w (Apart B w p) xs2 O)
    {g cap : Nat} (hown : w5.ownsRow base 147 3 (.slice (some ⟨g, 0, none⟩) (O.length + 1) cap) (O.length + 1) (xs2 ++ [.int .i64 n, .int .i64 e, .slice a5 m.length c5])) (hgr : wd.grownBy w5 v2.ownBlock) (hat : v2.ownBlock = some g ∨ g = wd.heap.size)
    {w' : World} (hw' : w' = w5.setCell ⟨p, 2, none⟩ (.slice (some ⟨g, 0, none⟩) (O.length + 1) cap)) : RefX w' p base B f l (O ++ [(n, e, m)]) E ∧ Below base w w' ∧ RefGo p w w' := by
  obtain ⟨G, hN⟩ := grew (B := B) (.inl rfl) h.lt h.pb hb hv o2 (fun g hg => (o3 g hg).1) hgr hat hw'
  have hgB : ¬ B g := by
    rcases hat with h1 | h1
    · exact (o3 g h1).2
    · exact hB g (by have := hb.size; omega)
  obtain ⟨i1, f1⟩ := hN hI hF hB h.tabs
  obtain ⟨a, c, h1, h2, h3, h4⟩ := h.c1
  obtain ⟨v3, xs3, k1, k2, k3, k4⟩ := h.c3
  refine ⟨⟨?_, G.cells 0 _ (by omega) h.c0, ⟨a, c, G.cells 1 _ (by omega) h1, (G.ints h2 h3).1, (G.ints h2 h3).2, h4⟩, ⟨_, xs2 ++ [.int .i64 n, .int .i64 e, .slice a5 m.length c5], G.new, ?_, fun g' hg' => ?_, ?_⟩, ⟨v3, xs3, G.cells 3 _ (by omega) k1, G.other (by decide) k2 fun b hb => (k3 b hb).1, k3, k4⟩, (G.frozen 2).trans h.z2, (G.frozen 3).trans h.z3, h.np, h.pb⟩, G.below, G.go⟩
  · have := block_lt_of_cell (G.cells 0 _ (by omega) h.c0)
    exact ⟨_, Array.getElem?_eq_getElem this⟩
  · rw [List.length_append, List.length_singleton]; exact G.row hown
  · simp only [Value.ownBlock, Option.some.injEq] at hg'
    subst hg'
    exact ⟨G.gp, hgB⟩
  · refine ordRow_snoc o2.1 (fun i hi => ?_) i1 f1 hc
    obtain ⟨y1, y2, a, c, y3, y4, y5, y6⟩ := o4 i hi
    exact ⟨y1, y2, a, c, y3, (G.ints y4 y5).1, (G.ints y4 y5).2, y6⟩
/-- One more end. -/
theorem RefX.appended3 (h : RefX w p base B f l O E) (hb : Below w.heap.size w wd) {n e s r : Int} (hB : ∀ b, w.heap.size ≤ b → ¬ B b)
    {v3 : Value} {xs3 : List Value} (hv : w.cell? ⟨p, 3, none⟩ = some v3) (o2 : w.ownsRow base 149 35 v3 E.length xs3) (o3 : ∀ g, v3.ownBlock = some g → g ≠ p ∧ ¬ B g) (o4 : EndRow xs3 E)
    {g cap : Nat} (hown : w5.ownsRow base 149 35 (.slice (some ⟨g, 0, none⟩) (E.length + 1) cap) (E.length + 1) (xs3 ++ (endC n e s r).toList)) (hgr : wd.grownBy w5 v3.ownBlock) (hat : v3.ownBlock = some g ∨ g = wd.heap.size)
    {w' : World} (hw' : w' = w5.setCell ⟨p, 3, none⟩ (.slice (some ⟨g, 0, none⟩) (E.length + 1) cap)) : RefX w' p base B f l O (E ++ [(n, e, s, r)]) ∧ Below base w w' ∧ RefGo p w w' := by
  obtain ⟨G, hN⟩ := grew (B := B) (.inr rfl) h.lt h.pb hb hv o2 (fun g hg => (o3 g hg).1) hgr hat hw'
  have hgB : ¬ B g := by
    rcases hat with h1 | h1
    · exact (o3 g h1).2
    · exact hB g (by have := hb.size; omega)
  obtain ⟨a, c, h1, h2, h3, h4⟩ := h.c1
  obtain ⟨v2, xs2, k1, k2, k3, k4⟩ := h.c2
  refine ⟨⟨?_, G.cells 0 _ (by omega) h.c0, ⟨a, c, G.cells 1 _ (by omega) h1, (G.ints h2 h3).1, (G.ints h2 h3).2, h4⟩, ⟨v2, xs2, G.cells 2 _ (by omega) k1, G.other (by decide) k2 fun b hb => (k3 b hb).1, k3, fun i hi => ?_⟩, ⟨_, xs3 ++ (endC n e s r).toList, G.new, ?_, fun g' hg' => ?_, ?_⟩, (G.frozen 2).trans h.z2, (G.frozen 3).trans h.z3, h.np, h.pb⟩, G.below, G.go⟩
  · have := block_lt_of_cell (G.cells 0 _ (by omega) h.c0)
    exact ⟨_, Array.getElem?_eq_getElem this⟩
  · obtain ⟨y1, y2, a, c, y3, y4, y5, y6⟩ := k4 i hi
    exact ⟨y1, y2, a, c, y3, (G.ints y4 y5).1, (G.ints y4 y5).2, y6⟩
  · rw [List.length_append, List.length_singleton]; exact G.row hown
  · simp only [Value.ownBlock, Option.some.injEq] at hg'
    subst hg'
    exact ⟨G.gp, hgB⟩
  · exact endRow_snoc o2.1 o4
end
end Go.Proofs.Ytldcpnabgpjgiaa.WalksT
