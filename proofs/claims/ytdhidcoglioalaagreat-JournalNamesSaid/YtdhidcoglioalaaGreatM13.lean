/-
  The document's plate in memory.
  The walks of the document's plate: what reads, the power goes.
-/
import Derived.Test.YtdhidcoglioalaaGreatM12
namespace Go.Proofs.YtdhidcoglioalaaGreat.Walks
open Go.RowKit Plain
set_option linter.unusedVariables false

theorem add0 (a : Addr) : a.add 0 = a := by unfold Addr.add; simp
/-- Where the document's plate lies: its struct, its three rows. -/
structure RLoc where
  p : Nat
  sb : Nat
  nb : Nat
  wb : Nat
  ban : List Nat
def RLoc.R (r : RLoc) : List Nat := [r.p, r.sb, r.nb, r.wb]
/-- Where none of its rows' slices and not its list lie. -/
def RLoc.N (r : RLoc) : List Nat := r.R ++ r.ban
theorem RLoc.inN' (r : RLoc) {b : Nat} (h : b ∈ r.R) : b ∈ r.N := List.mem_append_left _ h
theorem RLoc.notR (r : RLoc) {b : Nat} (h : b ∉ r.N) : b ∉ r.R := fun hm => h (r.inN' hm)
theorem RLoc.inP (r : RLoc) : r.p ∈ r.R := by simp [RLoc.R]
theorem RLoc.inS (r : RLoc) : r.sb ∈ r.R := by simp [RLoc.R]
theorem RLoc.inN (r : RLoc) : r.nb ∈ r.R := by simp [RLoc.R]
theorem RLoc.inW (r : RLoc) : r.wb ∈ r.R := by simp [RLoc.R]
/-- A slice of a sector's bytes, in a block that is none of R. -/
def RowV (w : World) (R : List Nat) (v : Value) (s : Sec) : Prop := ∃ g o c, v = .slice (some ⟨g, o, none⟩) 64 c ∧ w.rangeAt g o (secL s) ∧ g ∉ R
/-- A row of such slices. -/
def RowsAt (w : World) (R : List Nat) (b n : Nat) (f : Nat → Sec) : Prop := ∀ i, i < n → w.frozen? ⟨b, i, none⟩ = false ∧ ∃ v, w.cell? ⟨b, i, none⟩ = some v ∧ RowV w R v (f i)
def FlagsAt (w : World) (b n : Nat) (f : Nat → Bool) : Prop := ∀ i, i < n → w.frozen? ⟨b, i, none⟩ = false ∧ w.cell? ⟨b, i, none⟩ = some (.bool (f i))
/-- The document's plate: what stays, what is seen, which wait. -/
structure RefX (w : World) (r : RLoc) (n : Nat) (S N : Nat → Sec) (F : Nat → Bool) (dead fails : Bool) (left : Int) (keep : List Bool) : Prop where
  c0 : ∃ c, w.cell? ⟨r.p, 0, none⟩ = some (.slice (some ⟨r.sb, 0, none⟩) n c)
  c1 : ∃ c, w.cell? ⟨r.p, 1, none⟩ = some (.slice (some ⟨r.nb, 0, none⟩) n c)
  c2 : ∃ c, w.cell? ⟨r.p, 2, none⟩ = some (.slice (some ⟨r.wb, 0, none⟩) n c)
  c3 : w.cell? ⟨r.p, 3, none⟩ = some (.bool dead)
  c4 : w.cell? ⟨r.p, 4, none⟩ = some (.bool fails)
  c5 : w.cell? ⟨r.p, 5, none⟩ = some (.int .i64 left)
  c6 : ∃ a c, w.cell? ⟨r.p, 6, none⟩ = some (.slice a keep.length c) ∧ Bools w a keep ∧ (keep ≠ [] → ∀ ad, a = some ad → ad.block ∉ r.N)
  fz : ∀ i, w.frozen? ⟨r.p, i, none⟩ = false
  st : RowsAt w r.N r.sb n S
  sn : RowsAt w r.N r.nb n N
  fl : FlagsAt w r.wb n F
  ne : r.p ≠ r.sb ∧ r.p ≠ r.nb ∧ r.p ≠ r.wb ∧ r.sb ≠ r.nb ∧ r.sb ≠ r.wb ∧ r.nb ≠ r.wb
  n1 : 1 ≤ n
  n2 : n ≤ 4096
  bl : ∀ b ∈ r.ban, b < w.heap.size
def waitB (P : Pl) (i : Nat) : Bool := (P.waits i).isSome
structure RefAt (w : World) (r : RLoc) (P : Pl) : Prop where
  x : RefX w r P.n P.stays P.seen (waitB P) P.dead P.fails P.left P.keep
  ok : P.Ok

section
variable {w w' : World} {r : RLoc} {n : Nat} {S N S' N' : Nat → Sec} {F F' : Nat → Bool} {dead fails : Bool} {left : Int} {keep : List Bool}
theorem RowV.of {R : List Nat} {v : Value} {s : Sec} (h : RowV w R v s) (hc : ∀ ad : Addr, ad.block ∉ R → ∀ v, w.cell? ad = some v → w'.cell? ad = some v) : RowV w' R v s := by
  obtain ⟨g, o, c, e, h1, h2⟩ := h
  exact ⟨g, o, c, e, fun j v hv => hc _ h2 _ (h1 j v hv), h2⟩
theorem RowV.congr {R : List Nat} {v : Value} {s s' : Sec} (h : RowV w R v s) (e : secL s = secL s') : RowV w R v s' := by
  obtain ⟨g, o, c, e1, h1, h2⟩ := h
  exact ⟨g, o, c, e1, by rw [← e]; exact h1, h2⟩
theorem RefX.lt (h : RefX w r n S N F dead fails left keep) : ∀ b ∈ r.R, b < w.heap.size := by
  have h1 := h.n1
  obtain ⟨_, v, hv, _⟩ := h.st 0 (by omega)
  obtain ⟨_, u, hu, _⟩ := h.sn 0 (by omega)
  obtain ⟨_, hf⟩ := h.fl 0 (by omega)
  intro b hb
  simp only [RLoc.R, List.mem_cons, List.not_mem_nil, or_false] at hb
  rcases hb with rfl | rfl | rfl | rfl
  · exact block_lt_of_cell h.c3
  · exact block_lt_of_cell hv
  · exact block_lt_of_cell hu
  · exact block_lt_of_cell hf
theorem RefX.ltN (h : RefX w r n S N F dead fails left keep) : ∀ b ∈ r.N, b < w.heap.size := fun b hb => (List.mem_append.1 hb).elim (h.lt b) (h.bl b)
/-- Its own blocks are as they were, and what its rows point at. -/
theorem RefX.same (h : RefX w r n S N F dead fails left keep) (hz : w.heap.size ≤ w'.heap.size) (hb : ∀ b ∈ r.R, w'.heap[b]? = w.heap[b]?) (hc : ∀ ad : Addr, ad.block ∉ r.N → ∀ v, w.cell? ad = some v → w'.cell? ad = some v) : RefX w' r n S N F dead fails left keep := by
  have hcell : ∀ {b : Nat}, b ∈ r.R → ∀ o, w'.cell? ⟨b, o, none⟩ = w.cell? ⟨b, o, none⟩ := fun hm o => World.cell?_of_block (hb _ hm)
  have hfz : ∀ {b : Nat}, b ∈ r.R → ∀ o, w'.frozen? ⟨b, o, none⟩ = w.frozen? ⟨b, o, none⟩ := fun hm o => by unfold World.frozen?; simp only [hb _ hm]
  obtain ⟨x0, c0⟩ := h.c0
  obtain ⟨x1, c1⟩ := h.c1
  obtain ⟨x2, c2⟩ := h.c2
  obtain ⟨a, c, c6, k1, k2⟩ := h.c6
  refine ⟨⟨x0, (hcell r.inP _).trans c0⟩, ⟨x1, (hcell r.inP _).trans c1⟩, ⟨x2, (hcell r.inP _).trans c2⟩, (hcell r.inP _).trans h.c3, (hcell r.inP _).trans h.c4, (hcell r.inP _).trans h.c5, ⟨a, c, (hcell r.inP _).trans c6, ?_, k2⟩, fun i => (hfz r.inP i).trans (h.fz i), ?_, ?_, ?_, h.ne, h.n1, h.n2, fun b hb => Nat.lt_of_lt_of_le (h.bl b hb) hz⟩
  · refine ⟨k1.1, ?_⟩
    rcases k1.2 with h0 | ⟨b, off, rfl, hh⟩
    · exact .inl h0
    · exact .inr ⟨b, off, rfl, fun i hi => hc ⟨b, off + i, none⟩ (k2 (List.ne_nil_of_length_pos (by omega)) ⟨b, off, none⟩ rfl) _ (hh i hi)⟩
  · intro i hi
    obtain ⟨h1, v, h2, h3⟩ := h.st i hi
    exact ⟨(hfz r.inS _).trans h1, v, (hcell r.inS _).trans h2, h3.of hc⟩
  · intro i hi
    obtain ⟨h1, v, h2, h3⟩ := h.sn i hi
    exact ⟨(hfz r.inN _).trans h1, v, (hcell r.inN _).trans h2, h3.of hc⟩
  · intro i hi
    obtain ⟨h1, h2⟩ := h.fl i hi
    exact ⟨(hfz r.inW _).trans h1, (hcell r.inW _).trans h2⟩
theorem RefX.below (h : RefX w r n S N F dead fails left keep) (hb : Below w.heap.size w w') : RefX w' r n S N F dead fails left keep :=
  h.same hb.size (fun b hm => hb.block b (h.lt b hm)) (fun _ _ _ hc => keepc hb hc)
/-- What others turn in blocks that are banned. -/
theorem RefX.other (h : RefX w r n S N F dead fails left keep) {R : List Nat} (ho : Only R w w') (hR : ∀ b ∈ R, b ∈ r.ban ∧ b ∉ r.R) : RefX w' r n S N F dead fails left keep :=
  h.same ho.size (fun b hm => ho.block b (h.lt b hm) (fun hb => (hR b hb).2 hm)) (fun ad hn _ hc => ho.cell (fun hb => hn (List.mem_append_right _ (hR _ hb).1)) hc)
/-- What turns the struct and the three rows alone keeps what the rows point at. -/
theorem only_cell {R R' : List Nat} (ho : Only R w w') (hR : ∀ b ∈ R, b ∈ R') : ∀ ad : Addr, ad.block ∉ R' → ∀ v, w.cell? ad = some v → w'.cell? ad = some v := fun _ hn _ hc => ho.cell (fun hm => hn (hR _ hm)) hc
/-- One cell of the struct is written. -/
theorem RefX.setP (h : RefX w r n S N F dead fails left keep) {i : Nat} {v : Value} {dead' fails' : Bool} {left' : Int} {keep' : List Bool}
    (h3 : if i = 3 then v = .bool dead' else dead' = dead) (h4 : if i = 4 then v = .bool fails' else fails' = fails) (h5 : if i = 5 then v = .int .i64 left' else left' = left)
    (h6 : if i = 6 then (∃ a c, v = .slice a keep'.length c ∧ Bools (w.setCell ⟨r.p, i, none⟩ v) a keep' ∧ (keep' ≠ [] → ∀ ad, a = some ad → ad.block ∉ r.N)) else keep' = keep) (hi : 3 ≤ i) :
    RefX (w.setCell ⟨r.p, i, none⟩ v) r n S N F dead' fails' left' keep' := by
  have hO : Only [r.p] w (w.setCell ⟨r.p, i, none⟩ v) := (Only.refl _ _).setCell (by simp) _
  have hoth : ∀ ad : Addr, ad.block ≠ r.p → ∀ v', w.cell? ad = some v' → (w.setCell ⟨r.p, i, none⟩ v).cell? ad = some v' := fun ad hb v' hc => hO.cell (by simp [hb]) hc
  have hsome : ∀ {o : Nat} {u : Value}, w.cell? ⟨r.p, o, none⟩ = some u → (w.setCell ⟨r.p, i, none⟩ v).cell? ⟨r.p, o, none⟩ = some (if i = o then v else u) := by
    intro o u hu
    by_cases e : i = o
    · subst e; rw [if_pos rfl]; exact World.cell?_setCell_same _ _ _ hu
    · rw [if_neg e, World.cell?_setCell_other _ _ _ _ (fun h => e (by injection h))]; exact hu
  obtain ⟨x0, c0⟩ := h.c0
  obtain ⟨x1, c1⟩ := h.c1
  obtain ⟨x2, c2⟩ := h.c2
  obtain ⟨a, c, c6, k1, k2⟩ := h.c6
  obtain ⟨e1, e2, e3, _, _, _⟩ := h.ne
  have hrow : ∀ {u : Value} {s : Sec}, RowV w r.N u s → RowV (w.setCell ⟨r.p, i, none⟩ v) r.N u s := fun hh => hh.of fun ad hn v' hc => hoth ad (fun e => hn (e ▸ r.inN' r.inP)) v' hc
  refine ⟨⟨x0, by rw [hsome c0, if_neg (by omega)]⟩, ⟨x1, by rw [hsome c1, if_neg (by omega)]⟩, ⟨x2, by rw [hsome c2, if_neg (by omega)]⟩, ?_, ?_, ?_, ?_, fun j => by rw [World.frozen?_setCell]; exact h.fz j, ?_, ?_, ?_, h.ne, h.n1, h.n2, by simpa using h.bl⟩
  · rw [hsome h.c3]; split at h3 <;> rename_i e
    · rw [if_pos e, h3]
    · rw [if_neg e, h3]
  · rw [hsome h.c4]; split at h4 <;> rename_i e
    · rw [if_pos e, h4]
    · rw [if_neg e, h4]
  · rw [hsome h.c5]; split at h5 <;> rename_i e
    · rw [if_pos e, h5]
    · rw [if_neg e, h5]
  · split at h6 <;> rename_i e
    · obtain ⟨a', c', rfl, hB, hn⟩ := h6
      exact ⟨a', c', by rw [hsome c6, if_pos e], hB, hn⟩
    · subst h6
      exact ⟨a, c, by rw [hsome c6, if_neg e], Only.bools hO (fun h0 ad ea hm => k2 h0 ad ea (by simp at hm; rw [hm]; exact r.inN' r.inP)) k1, k2⟩
  · intro j hj
    obtain ⟨h1, u, h2, h3⟩ := h.st j hj
    exact ⟨by rw [World.frozen?_setCell]; exact h1, u, hoth _ (fun e => e1 e.symm) _ h2, hrow h3⟩
  · intro j hj
    obtain ⟨h1, u, h2, h3⟩ := h.sn j hj
    exact ⟨by rw [World.frozen?_setCell]; exact h1, u, hoth _ (fun e => e2 e.symm) _ h2, hrow h3⟩
  · intro j hj
    obtain ⟨h1, h2⟩ := h.fl j hj
    exact ⟨by rw [World.frozen?_setCell]; exact h1, hoth _ (fun e => e3 e.symm) _ h2⟩
/-- A cell of a row block of the plate's is written: all but that row stays. -/
theorem RefX.base (h : RefX w r n S N F dead fails left keep) {b : Nat} (hb : b ∈ r.R) (hbp : b ≠ r.p) {i : Nat} {v : Value}
    (hst : RowsAt (w.setCell ⟨b, i, none⟩ v) r.N r.sb n S') (hsn : RowsAt (w.setCell ⟨b, i, none⟩ v) r.N r.nb n N') (hfl : FlagsAt (w.setCell ⟨b, i, none⟩ v) r.wb n F') : RefX (w.setCell ⟨b, i, none⟩ v) r n S' N' F' dead fails left keep := by
  have hO : Only [b] w (w.setCell ⟨b, i, none⟩ v) := (Only.refl _ _).setCell (by simp) _
  have hp : ∀ {o : Nat} {u : Value}, w.cell? ⟨r.p, o, none⟩ = some u → (w.setCell ⟨b, i, none⟩ v).cell? ⟨r.p, o, none⟩ = some u := fun hu => hO.cell (by simp; exact fun e => hbp e.symm) hu
  obtain ⟨x0, c0⟩ := h.c0
  obtain ⟨x1, c1⟩ := h.c1
  obtain ⟨x2, c2⟩ := h.c2
  obtain ⟨a, c, c6, k1, k2⟩ := h.c6
  exact ⟨⟨x0, hp c0⟩, ⟨x1, hp c1⟩, ⟨x2, hp c2⟩, hp h.c3, hp h.c4, hp h.c5, ⟨a, c, hp c6, Only.bools hO (fun h0 ad ea hm => k2 h0 ad ea (by simp at hm; rw [hm]; exact r.inN' hb)) k1, k2⟩, fun j => by rw [World.frozen?_setCell]; exact h.fz j, hst, hsn, hfl, h.ne, h.n1, h.n2, by simpa using h.bl⟩
theorem RowsAt.set {R : List Nat} {b n i : Nat} {f : Nat → Sec} {v : Value} {s : Sec} (h : RowsAt w R b n f) (hb : b ∈ R) (hv : RowV w R v s) : RowsAt (w.setCell ⟨b, i, none⟩ v) R b n (upd f i s) := by
  have hO : Only [b] w (w.setCell ⟨b, i, none⟩ v) := (Only.refl _ _).setCell (by simp) _
  have hk : ∀ ad : Addr, ad.block ∉ R → ∀ u, w.cell? ad = some u → (w.setCell ⟨b, i, none⟩ v).cell? ad = some u := fun ad hn u hc => hO.cell (by simp; exact fun e => hn (e ▸ hb)) hc
  intro j hj
  obtain ⟨h1, u, h2, h3⟩ := h j hj
  refine ⟨by rw [World.frozen?_setCell]; exact h1, ?_⟩
  by_cases e : j = i
  · subst e
    rw [upd_same]
    exact ⟨v, World.cell?_setCell_same _ _ _ h2, hv.of hk⟩
  · rw [upd_other _ _ e]
    exact ⟨u, by rw [World.cell?_setCell_other _ _ _ _ (fun h => e (by injection h with _ h2 _; exact h2.symm))]; exact h2, h3.of hk⟩
theorem RowsAt.other {R : List Nat} {b b' n i : Nat} {f : Nat → Sec} {v : Value} (h : RowsAt w R b n f) (hb' : b' ∈ R) (hne : b ≠ b') : RowsAt (w.setCell ⟨b', i, none⟩ v) R b n f := by
  have hO : Only [b'] w (w.setCell ⟨b', i, none⟩ v) := (Only.refl _ _).setCell (by simp) _
  intro j hj
  obtain ⟨h1, u, h2, h3⟩ := h j hj
  exact ⟨by rw [World.frozen?_setCell]; exact h1, u, hO.cell (by simp [hne]) h2, h3.of fun ad hn u hc => hO.cell (by simp; exact fun e => hn (e ▸ hb')) hc⟩
theorem FlagsAt.set {b n i : Nat} {f : Nat → Bool} (h : FlagsAt w b n f) (c : Bool) : FlagsAt (w.setCell ⟨b, i, none⟩ (.bool c)) b n (upd f i c) := by
  intro j hj
  obtain ⟨h1, h2⟩ := h j hj
  refine ⟨by rw [World.frozen?_setCell]; exact h1, ?_⟩
  by_cases e : j = i
  · subst e; rw [upd_same]; exact World.cell?_setCell_same _ _ _ h2
  · rw [upd_other _ _ e, World.cell?_setCell_other _ _ _ _ (fun h => e (by injection h with _ h2 _; exact h2.symm))]; exact h2
theorem FlagsAt.other {b b' n i : Nat} {f : Nat → Bool} {v : Value} (h : FlagsAt w b n f) (hne : b ≠ b') : FlagsAt (w.setCell ⟨b', i, none⟩ v) b n f := by
  intro j hj
  obtain ⟨h1, h2⟩ := h j hj
  exact ⟨by rw [World.frozen?_setCell]; exact h1, by rw [World.cell?_setCell_other _ _ _ _ (fun h => hne (by injection h with h1 _ _; exact h1.symm))]; exact h2⟩
theorem RefX.setS (h : RefX w r n S N F dead fails left keep) {i : Nat} {v : Value} {s : Sec} (hv : RowV w r.N v s) : RefX (w.setCell ⟨r.sb, i, none⟩ v) r n (upd S i s) N F dead fails left keep := by
  obtain ⟨e1, e2, e3, e4, e5, e6⟩ := h.ne
  exact h.base r.inS (fun e => e1 e.symm) (h.st.set (r.inN' r.inS) hv) (h.sn.other (r.inN' r.inS) (fun e => e4 e.symm)) (h.fl.other (fun e => e5 e.symm))
theorem RefX.setN (h : RefX w r n S N F dead fails left keep) {i : Nat} {v : Value} {s : Sec} (hv : RowV w r.N v s) : RefX (w.setCell ⟨r.nb, i, none⟩ v) r n S (upd N i s) F dead fails left keep := by
  obtain ⟨e1, e2, e3, e4, e5, e6⟩ := h.ne
  exact h.base r.inN (fun e => e2 e.symm) (h.st.other (r.inN' r.inN) e4) (h.sn.set (r.inN' r.inN) hv) (h.fl.other (fun e => e6 e.symm))
theorem RefX.setW (h : RefX w r n S N F dead fails left keep) {i : Nat} (c : Bool) : RefX (w.setCell ⟨r.wb, i, none⟩ (.bool c)) r n S N (upd F i c) dead fails left keep := by
  obtain ⟨e1, e2, e3, e4, e5, e6⟩ := h.ne
  exact h.base r.inW (fun e => e3 e.symm) (h.st.other (r.inN' r.inW) e5) (h.sn.other (r.inN' r.inW) e6) (h.fl.set c)
theorem RefX.congr (h : RefX w r n S N F dead fails left keep) (hS : ∀ i, i < n → secL (S' i) = secL (S i)) (hN : ∀ i, i < n → secL (N' i) = secL (N i)) (hF : ∀ i, i < n → F' i = F i) : RefX w r n S' N' F' dead fails left keep :=
  ⟨h.c0, h.c1, h.c2, h.c3, h.c4, h.c5, h.c6, h.fz, fun i hi => by
    obtain ⟨h1, v, h2, h3⟩ := h.st i hi
    exact ⟨h1, v, h2, h3.congr (hS i hi).symm⟩, fun i hi => by
    obtain ⟨h1, v, h2, h3⟩ := h.sn i hi
    exact ⟨h1, v, h2, h3.congr (hN i hi).symm⟩, fun i hi => by
    obtain ⟨h1, h2⟩ := h.fl i hi
    exact ⟨h1, by rw [hF i hi]; exact h2⟩, h.ne, h.n1, h.n2, h.bl⟩
/-- More blocks may be banned: such as were not there. -/
def RLoc.banX (r : RLoc) (X : List Nat) : RLoc := { r with ban := X ++ r.ban }
theorem RLoc.memX {r : RLoc} {X : List Nat} {b : Nat} (h : b ∈ (r.banX X).N) : b ∈ X ∨ b ∈ r.N := by
  rcases List.mem_append.1 h with h | h
  · exact .inr (List.mem_append_left _ h)
  · rcases List.mem_append.1 h with h | h
    · exact .inl h
    · exact .inr (List.mem_append_right _ h)
theorem RLoc.memX' {r : RLoc} {X : List Nat} {b : Nat} (h : b ∈ r.N) : b ∈ (r.banX X).N := by
  rcases List.mem_append.1 h with h | h
  · exact List.mem_append_left _ h
  · exact List.mem_append_right _ (List.mem_append_right _ h)
theorem RowV.reban {X : List Nat} {v : Value} {s : Sec} (h : RowV w r.N v s) (hb : Below w.heap.size w w') (hX : ∀ x ∈ X, w.heap.size ≤ x) : RowV w' (r.banX X).N v s := by
  obtain ⟨g, o, c, e, h1, h2⟩ := h
  refine ⟨g, o, c, e, fun j v hv => keepc hb (h1 j v hv), fun hm => ?_⟩
  rcases RLoc.memX hm with hm | hm
  · have h3 := block_lt_of_cell (h1 0 _ (secL_get s (by omega)))
    have h4 := hX _ hm
    simp only at h3
    omega
  · exact h2 hm
theorem RefX.reban (h : RefX w r n S N F dead fails left keep) (hb : Below w.heap.size w w') {X : List Nat} (hX : ∀ x ∈ X, w.heap.size ≤ x ∧ x < w'.heap.size) : RefX w' (r.banX X) n S N F dead fails left keep := by
  have h' := h.below hb
  obtain ⟨a, c, c6, k1, k2⟩ := h.c6
  refine ⟨h'.c0, h'.c1, h'.c2, h'.c3, h'.c4, h'.c5, ⟨a, c, keepc hb c6, k1.below hb, fun h0 ad e hm => ?_⟩, h'.fz, fun i hi => ?_, fun i hi => ?_, h'.fl, h'.ne, h'.n1, h'.n2, fun b hm => ?_⟩
  · rcases RLoc.memX hm with hm | hm
    · obtain ⟨b, off, e2, hc⟩ : ∃ b off, a = some ⟨b, off, none⟩ ∧ ∀ i (hi : i < keep.length), w.cell? ⟨b, off + i, none⟩ = some (.bool keep[i]) := by
        rcases k1.2 with h | h
        · exact absurd h h0
        · exact h
      rw [e2] at e
      cases e
      have := block_lt_of_cell (hc 0 (List.length_pos_iff.2 h0))
      have := (hX _ hm).1
      simp only at *
      omega
    · exact k2 h0 ad e hm
  · obtain ⟨_, v, h2, h3⟩ := h.st i hi
    exact ⟨(h'.st i hi).1, v, keepc hb h2, h3.reban hb (fun x hx => (hX x hx).1)⟩
  · obtain ⟨_, v, h2, h3⟩ := h.sn i hi
    exact ⟨(h'.sn i hi).1, v, keepc hb h2, h3.reban hb (fun x hx => (hX x hx).1)⟩
  · rcases List.mem_append.1 hm with hm | hm
    · exact (hX b hm).2
    · exact h'.bl b hm
theorem RefX.unban {X : List Nat} (h : RefX w (r.banX X) n S N F dead fails left keep) : RefX w r n S N F dead fails left keep := by
  obtain ⟨a, c, c6, k1, k2⟩ := h.c6
  refine ⟨h.c0, h.c1, h.c2, h.c3, h.c4, h.c5, ⟨a, c, c6, k1, fun h0 ad e hm => k2 h0 ad e (RLoc.memX' hm)⟩, h.fz, fun i hi => ?_, fun i hi => ?_, h.fl, h.ne, h.n1, h.n2, fun b hm => h.bl b (List.mem_append_right _ hm)⟩
  · obtain ⟨h1, v, h2, g, o, c, e, h3, h4⟩ := h.st i hi
    exact ⟨h1, v, h2, g, o, c, e, h3, fun hm => h4 (RLoc.memX' hm)⟩
  · obtain ⟨h1, v, h2, g, o, c, e, h3, h4⟩ := h.sn i hi
    exact ⟨h1, v, h2, g, o, c, e, h3, fun hm => h4 (RLoc.memX' hm)⟩
end
end Go.Proofs.YtdhidcoglioalaaGreat.Walks
namespace Go.Proofs.YtdhidcoglioalaaGreat.Walks
open Go.RowKit Plain
set_option linter.unusedVariables false

abbrev rv (r : RLoc) : Value := .pointer (some ⟨r.p, 0, none⟩)
def thereB (P : Pl) (i : Int) : Bool := decide (0 ≤ i) && decide (i < P.n)
theorem rf_there (w : World) (r : RLoc) (P : Pl) (h : RefAt w r P) (i : Int) : Calls Tryz.prog 107 #[rv r, .int .i64 i] w fun e w' => e = .returned (.bool (thereB P i)) ∧ w = w' := by
  obtain ⟨c, c1⟩ := h.x.c1
  unfold thereB
  obtain ⟨n, hn⟩ : ∃ n, n = P.n := ⟨_, rfl⟩
  rw [← hn] at c1 ⊢
  clear h hn
  by_cases h1 : 0 ≤ i
  · go_enter Tryz.func107, Tryz.ntmps107
    go_wp2
    go_ret
    exact ⟨ret_bool (by simp [h1]), rfl⟩
  · go_enter Tryz.func107, Tryz.ntmps107
    go_wp2
    go_ret
    exact ⟨ret_bool (by simp; omega), rfl⟩
theorem rf_dead (w : World) (r : RLoc) (P : Pl) (h : RefAt w r P) : Calls Tryz.prog 79 #[rv r] w fun e w' => e = .returned (.bool P.dead) ∧ w = w' := by
  have c3 := h.x.c3
  clear h
  go_enter Tryz.func79, Tryz.ntmps79
  go_wp2
  go_ret
  exact ⟨rfl, rfl⟩
theorem rf_size (w : World) (r : RLoc) (P : Pl) (h : RefAt w r P) : Calls Tryz.prog 88 #[rv r] w fun e w' => e = .returned (.int .i64 P.n) ∧ w = w' := by
  obtain ⟨c, c1⟩ := h.x.c1
  clear h
  go_enter Tryz.func88, Tryz.ntmps88
  go_wp2
  go_ret
  exact ⟨rfl, rfl⟩
theorem rf_boot (w : World) (r : RLoc) (P : Pl) (h : RefAt w r P) : Calls Tryz.prog 80 #[rv r] w fun e w' => e = .returned (.int .i64 0) ∧ RefAt w' r P.boot ∧ Only r.R w w' := by
  have c3 := h.x.c3
  have c4 := h.x.c4
  have f3 := h.x.fz 3
  have f4 := h.x.fz 4
  have H := Lib.hid h
  clear h
  go_enter Tryz.func80, Tryz.ntmps80
  go_wp2
  go_ret
  have h1 := H.out.x.setP (i := 3) (v := .bool false) (dead' := false) (fails' := P.fails) (left' := P.left) (keep' := P.keep) (by simp) (by simp) (by simp) (by simp) (by omega)
  have h2 := h1.setP (i := 4) (v := .bool false) (dead' := false) (fails' := false) (left' := P.left) (keep' := P.keep) (by simp) (by simp) (by simp) (by simp) (by omega)
  exact ⟨rfl, ⟨h2, H.out.ok.boot⟩, ((Only.refl _ _).setCell r.inP _).setCell r.inP _⟩
/-! ### Bytes are copied -/
abbrev OwnBy (w : World) (base : Nat) (a : Option Addr) (l : List Byte) (cap : Nat) : Prop := w.ownsRow base 5 1 (.slice a l.length cap) l.length (l.map byteV)
theorem OwnBy.bys {w : World} {base : Nat} {a : Option Addr} {l : List Byte} {cap : Nat} (h : OwnBy w base a l cap) (hm : l.length ≤ 140737488355328) : Bys w a l ∧ (∀ ad, a = some ad → base ≤ ad.block ∧ ∀ j, w.frozen? ⟨ad.block, j, none⟩ = false) ∧ (a = none → cap = 0) := by
  obtain ⟨_, ⟨h1, h2⟩ | ⟨g, cap', cur, h1, hb, hg, hc, hmx, hs, ht⟩⟩ := h
  · have h0 := List.eq_nil_of_length_eq_zero h2
    simp only [Value.slice.injEq] at h1
    obtain ⟨rfl, _, rfl⟩ := h1
    exact ⟨⟨hm, .inl h0⟩, (fun _ e => by cases e), fun _ => rfl⟩
  · simp only [Value.slice.injEq] at h1
    obtain ⟨rfl, _, rfl⟩ := h1
    refine ⟨⟨hm, .inr ⟨g, 0, rfl, fun i hi => ?_⟩⟩, (fun ad e => by cases e; exact ⟨hb, fun j => by unfold World.frozen?; simp only [hg]; simp⟩), (fun e => by cases e)⟩
    rw [cell_of_row _ _ _ _ _ _ hg]
    have ht' : cur.toList.take l.length = l.map byteV := by simpa using ht
    have := congrArg (fun z => z[i]?) ht'
    simp only [List.getElem?_take, hi, if_true, List.getElem?_map, List.getElem?_eq_getElem hi, Option.map_some] at this
    rw [Nat.zero_add, ← Array.getElem?_toList]
    exact this
theorem info5f : (Tryz.prog.info? 5).map (fun i => (i.zero, i.size, i.bytes)) = some (some (.int .u8 0), 1, 1) := by kernel_rfl
theorem news_bys {w : World} {ad : Addr} {l : List Byte} (h : Bys w (some ad) l) : ∀ j u, (l.map byteV)[j]? = some u → w.cell? (ad.add j) = some u := by
  intro j u hj
  have hj' : j < l.length := by
    have := (List.getElem?_eq_some_iff.1 hj).1
    simpa using this
  obtain ⟨b, off, hh, _, hc⟩ := h.at_lt hj'
  cases hh
  rw [List.getElem?_map, List.getElem?_eq_getElem hj'] at hj
  simp at hj
  subst hj
  rw [Addr.add_mid]
  exact hc j hj'
theorem bys_one (l : List Byte) : ∀ u ∈ l.map byteV, u.oneCell' = true := by
  intro u hu
  obtain ⟨x, _, rfl⟩ := List.mem_map.1 hu
  rfl
/-- append(nil, l...). -/
theorem wp_append_bys {w : World} {ops : Array Oper} {rest : List Oper} {o : Oper} {a : Act} {Q : Exit → Act → World → Prop} (hgd : o.guard = none) (s x : Operand)
    (ho : o.op = .call { callee := .builtin .append, args := #[s, x], argTypes := #[23, 23] }) (hs : a.eval s = .slice none 0 0)
    (ao : Option Addr) (c : Nat) (l : List Byte) (n : Nat) (hln : l.length = n) (hx : a.eval x = .slice ao n c) (hB : Bys w ao l) (hn : ao = none → c = 0)
    (h : ∀ a' cap' w', Bys w' a' l ∧ (∀ ad, a' = some ad → w.heap.size ≤ ad.block ∧ ∀ j, w'.frozen? ⟨ad.block, j, none⟩ = false) ∧ (a' = none → cap' = 0) → Below w.heap.size w w' → wpList Tryz.prog ops Q rest (a.put o.dst (.slice a' n cap')) w') : wpList Tryz.prog ops Q (o :: rest) a w := by
  obtain ⟨i0, hi, hz0, hz1, hz2⟩ := info_parts info5f
  subst hln
  have hm := hB.1
  have fin : ∀ v' w', w'.ownsRow w.heap.size 5 1 v' (0 + l.length) ([] ++ l.map byteV) → w.grownBy w' (Value.slice none 0 0).ownBlock → (v' = .slice none 0 0 ↔ Value.slice none 0 0 = .slice none 0 0 ∧ l.length = 0) → wpList Tryz.prog ops Q rest (a.put o.dst v') w' := by
    intro v' w' h1 h2 h3
    rw [List.nil_append, Nat.zero_add] at h1
    have hbe : Below w.heap.size w w' := ⟨h2.os, h2.tape, h2.output, h2.size, fun i hi => h2.block i hi (by simp [Value.ownBlock])⟩
    have h1' := h1
    obtain ⟨_, ⟨e, h0⟩ | ⟨g, cap', cur, e, _⟩⟩ := h1'
    · subst e
      have := h none 0 w' (OwnBy.bys (cap := 0) (by rw [OwnBy, h0]; rw [h0] at h1; exact h1) hm) hbe
      rw [h0] at this
      exact this
    · subst e
      exact h _ _ w' (OwnBy.bys h1 hm) hbe
  rcases Option.eq_none_or_eq_some ao with rfl | ⟨ad, rfl⟩
  · have hc0 := hn rfl
    subst hc0
    have hl : l = [] := by
      rcases hB.2 with h | ⟨b, off, h, _⟩
      · exact h
      · cases h
    subst hl
    refine wpList_append_own_none hgd s x 23 ho w.heap.size 5 i0 1 Tryz.underlying23 hi (.slice none 0 0) 0 [] hs (World.ownsRow_nil _ _ _ _) hx (fin _ w (by simpa using World.ownsRow_nil _ _ _ _) ⟨rfl, rfl, rfl, Nat.le_refl _, fun _ _ _ => rfl⟩ ⟨fun e => ⟨e, rfl⟩, fun e => e.1⟩)
  · exact wpList_append_own w hgd s x 23 ho w.heap.size 5 i0 (.int .u8 0) 1 1 Tryz.underlying23 hi hz0 hz1 hz2 rfl (by decide) (.slice none 0 0) 0 [] hs (World.ownsRow_nil _ _ _ _) ad l.length c (l.map byteV) hx (by simp) (news_bys hB) (bys_one _)
      (by unfold maxLen; omega) (by omega) (Nat.le_refl _) fin
theorem rf_copy (w : World) (a : Option Addr) (cap : Nat) (l : List Byte) (hB : Bys w a l) (hn : a = none → cap = 0) :
    Calls Tryz.prog 64 #[.slice a l.length cap] w fun e w' => ∃ a' cap', e = .returned (.slice a' l.length cap') ∧ Bys w' a' l ∧ (∀ ad, a' = some ad → w.heap.size ≤ ad.block ∧ ∀ j, w'.frozen? ⟨ad.block, j, none⟩ = false) ∧ (a' = none → cap' = 0) ∧ Below w.heap.size w w' := by
  have HB := Lib.hid hB
  have HN := Lib.hid hn
  obtain ⟨n, hln⟩ : ∃ n, n = l.length := ⟨_, rfl⟩
  rw [← hln]
  have HLN := Lib.hid hln.symm
  clear hB hn hln
  go_enter Tryz.func64, Tryz.ntmps64
  go_wp2_with (first | (at_builtin; go_loud (refine wp_append_bys rfl (.tmp 4) (.tmp 5) rfl rfl a cap l n HLN.out rfl HB.out HN.out ?_)))
  intro a' cap' w' h1 h2 h3 hb
  have H1 := Lib.hid h1
  have H2 := Lib.hid h2
  have H3 := Lib.hid h3
  have HBe := Lib.hid hb
  clear h1 h2 h3 hb
  go_wp2
  go_ret
  exact ⟨a', cap', rfl, H1.out, H2.out, H3.out, HBe.out⟩
end Go.Proofs.YtdhidcoglioalaaGreat.Walks
