/-
  A plate in memory.
-/
import Derived.Test.YtdhidcoglioalaaSecM
namespace Go.Proofs.Ytdhidcoglioalaa.Walks
open Go.RowKit Plain
set_option linter.unusedVariables false

/-- Bools lie in memory. -/
def Bools (w : World) (a : Option Addr) (l : List Bool) : Prop :=
  l.length ≤ 140737488355328 ∧ (l = [] ∨ ∃ b off, a = some ⟨b, off, none⟩ ∧ ∀ i (h : i < l.length), w.cell? ⟨b, off + i, none⟩ = some (.bool l[i]))
theorem Bools.nil (w : World) (a : Option Addr) : Bools w a [] := ⟨by simp, .inl rfl⟩
theorem Bools.of {w w' : World} {a : Option Addr} {l : List Bool} (h : Bools w a l) (hc : ∀ ad v, w.cell? ad = some v → w'.cell? ad = some v) : Bools w' a l := by
  refine ⟨h.1, ?_⟩
  rcases h.2 with rfl | ⟨b, off, rfl, hh⟩
  · exact .inl rfl
  · exact .inr ⟨b, off, rfl, fun i hi => hc _ _ (hh i hi)⟩
theorem Bools.below {w w' : World} {a : Option Addr} {l : List Bool} (h : Bools w a l) (hb : Below w.heap.size w w') : Bools w' a l := h.of fun _ _ hc => keepc hb hc

/-- Where a plate lies: its struct, its sectors, its map; blocks in which its list must not lie. -/
structure PLoc where
  p : Nat
  sb : Nat
  mb : Nat
  ban : List Nat
def PLoc.R (q : PLoc) : List Nat := [q.p, q.sb, q.mb]
theorem PLoc.inP (q : PLoc) : q.p ∈ q.R := by simp [PLoc.R]
theorem PLoc.inS (q : PLoc) : q.sb ∈ q.R := by simp [PLoc.R]
theorem PLoc.inM (q : PLoc) : q.mb ∈ q.R := by simp [PLoc.R]
/-- What waits, as the map tells it. -/
def wmap (f : Nat → Option Sec) (x : Int) : Option Value := if 0 ≤ x then (f x.toNat).map secV else none
def ES (v : Value) : Prop := ∃ s, v = secV s
/-- The keep list in memory lies in no block of the plate's. -/
def KeepAt (w : World) (q : PLoc) (l : List Bool) : Prop :=
  ∃ a cap, w.cell? ⟨q.p, 5, none⟩ = some (.slice a l.length cap) ∧ Bools w a l ∧ (l ≠ [] → ∀ ad, a = some ad → ad.block ∉ q.R ∧ ad.block ∉ q.ban)
structure PlateAt (w : World) (q : PLoc) (P : Pl) : Prop where
  c0 : w.cell? ⟨q.p, 0, none⟩ = some (.slice (some ⟨q.sb, 0, none⟩) P.n P.n)
  c1 : w.cell? ⟨q.p, 1, none⟩ = some (.map (some q.mb))
  c2 : w.cell? ⟨q.p, 2, none⟩ = some (.bool P.dead)
  c3 : w.cell? ⟨q.p, 3, none⟩ = some (.bool P.fails)
  c4 : w.cell? ⟨q.p, 4, none⟩ = some (.int .i64 P.left)
  c5 : KeepAt w q P.keep
  fz : ∀ i, w.frozen? ⟨q.p, i, none⟩ = false
  st : ∀ i, i < P.n → w.rangeAt q.sb (i * 64) (secL (P.stays i))
  th : ∀ i, i < P.n → w.there q.sb (i * 64) 64
  mp : IM ES w q.mb (wmap P.waits)
  ne : q.p ≠ q.sb
  ok : P.Ok
  bl : ∀ b ∈ q.ban, b < w.heap.size

section
variable {w w' : World} {q : PLoc} {P P' : Pl}
theorem PlateAt.lt (h : PlateAt w q P) : ∀ b ∈ q.R, b < w.heap.size := by
  intro b hb
  simp only [PLoc.R, List.mem_cons, List.not_mem_nil, or_false] at hb
  rcases hb with rfl | rfl | rfl
  · exact block_lt_of_cell h.c0
  · exact block_lt_of_cell (h.st 0 h.ok.pos 0 _ (secL_get _ (by omega)))
  · exact h.mp.lt
theorem PlateAt.nem (h : PlateAt w q P) : q.p ≠ q.mb ∧ q.sb ≠ q.mb := by
  constructor
  · intro e
    have := h.mp.nocell ⟨q.p, 0, none⟩ e
    rw [h.c0] at this
    cases this
  · intro e
    have := h.mp.nocell ⟨q.sb, 0 * 64 + 0, none⟩ e
    rw [h.st 0 h.ok.pos 0 _ (secL_get _ (by omega))] at this
    cases this
/-- A plate none of whose blocks has turned. -/
theorem PlateAt.same (h : PlateAt w q P) (hz : w.heap.size ≤ w'.heap.size) (hb : ∀ b ∈ q.R, w'.heap[b]? = w.heap[b]?) (hK : ∀ a, (P.keep ≠ [] → ∀ ad, a = some ad → ad.block ∉ q.R ∧ ad.block ∉ q.ban) → Bools w a P.keep → Bools w' a P.keep) : PlateAt w' q P := by
  have hp : ∀ o, w'.cell? ⟨q.p, o, none⟩ = w.cell? ⟨q.p, o, none⟩ := fun o => World.cell?_of_block (hb _ q.inP)
  have hs : ∀ o, w'.cell? ⟨q.sb, o, none⟩ = w.cell? ⟨q.sb, o, none⟩ := fun o => World.cell?_of_block (hb _ q.inS)
  have hfz : ∀ {b : Nat}, b ∈ q.R → ∀ o, w'.frozen? ⟨b, o, none⟩ = w.frozen? ⟨b, o, none⟩ := fun hm o => by unfold World.frozen?; simp only [hb _ hm]
  obtain ⟨a, cap, k1, k2, k3⟩ := h.c5
  exact ⟨(hp _).trans h.c0, (hp _).trans h.c1, (hp _).trans h.c2, (hp _).trans h.c3, (hp _).trans h.c4, ⟨a, cap, (hp _).trans k1, hK _ k3 k2, k3⟩, fun i => (hfz q.inP i).trans (h.fz i),
    fun i hi j v hv => (hs _).trans (h.st i hi j v hv), fun i hi j hj => ⟨by rw [hs]; exact (h.th i hi j hj).1, (hfz q.inS _).trans (h.th i hi j hj).2⟩, h.mp.block (hb _ q.inM), h.ne, h.ok, fun b hb => Nat.lt_of_lt_of_le (h.bl b hb) hz⟩
theorem PlateAt.below (h : PlateAt w q P) (hb : Below w.heap.size w w') : PlateAt w' q P :=
  h.same hb.size (fun b hm => hb.block b (h.lt b hm)) (fun _ _ hB => hB.below hb)
theorem PlateAt.drewN (h : PlateAt w q P) (k : Nat) : PlateAt (w.drewN k) q P := h.below (below_drewN (Below.refl _ _) k)
theorem PlateAt.drew (h : PlateAt w q P) : PlateAt w.drew q P := h.drewN 1
theorem PlateAt.alloc (h : PlateAt w q P) (o : Obj) : PlateAt (w.alloc o) q P := h.below (Below.new _ _)
/-- What other calls turn in blocks that are not this plate's and not its list's. -/
theorem PlateAt.only (h : PlateAt w q P) {R : List Nat} (ho : Only R w w') (hd : ∀ b ∈ q.R, b ∉ R) (hk : ∀ a, (P.keep ≠ [] → ∀ ad, a = some ad → ad.block ∉ q.R ∧ ad.block ∉ q.ban) → Bools w a P.keep → Bools w' a P.keep) : PlateAt w' q P :=
  h.same ho.size (fun b hm => ho.block b (h.lt b hm) (hd b hm)) hk
/-- .. and whose list is none. -/
theorem PlateAt.bare (h : PlateAt w q P) {R : List Nat} (ho : Only R w w') (hd : ∀ b ∈ q.R, b ∉ R) (hk : P.keep = []) : PlateAt w' q P :=
  h.only ho hd (fun a _ _ => by rw [hk]; exact Bools.nil _ _)
/-- A cell that is none of the plate's is kept by what turns the plate alone. -/
theorem Only.bools {R : List Nat} (ho : Only R w w') {a : Option Addr} {l : List Bool} (hn : l ≠ [] → ∀ ad, a = some ad → ad.block ∉ R) (h : Bools w a l) : Bools w' a l := by
  refine ⟨h.1, ?_⟩
  rcases h.2 with rfl | ⟨b, off, rfl, hh⟩
  · exact .inl rfl
  · exact .inr ⟨b, off, rfl, fun i hi => ho.cell (hn (List.ne_nil_of_length_pos (by omega)) ⟨b, off, none⟩ rfl) (hh i hi)⟩

/-! ### Turns of the plate -/
theorem wmap_upd (f : Nat → Option Sec) (i : Nat) (o : Option Sec) : wmap (upd f i o) = updI (wmap f) (i : Int) (o.map secV) := by
  funext x
  unfold wmap updI
  by_cases e : x = (i : Int)
  · subst e
    simp [upd_same]
  · rw [if_neg e]
    by_cases h0 : 0 ≤ x
    · simp only [if_pos h0]
      rw [upd_other _ _ (by omega)]
    · simp only [if_neg h0]
theorem wmap_none : wmap (fun _ => none) = fun _ => none := by
  funext x
  unfold wmap
  split <;> rfl
theorem PlateAt.setCell (h : PlateAt w q P) {i : Nat} {v : Value} (hi : i < 6) (P' : Pl) (hn : P'.n = P.n) (hs : P'.stays = P.stays) (hw : P'.waits = P.waits) (hk : P'.keep = P.keep) (hok : P'.Ok)
    (h2 : if i = 2 then v = .bool P'.dead else P'.dead = P.dead) (h3 : if i = 3 then v = .bool P'.fails else P'.fails = P.fails) (h4 : if i = 4 then v = .int .i64 P'.left else P'.left = P.left) (hi' : i = 2 ∨ i = 3 ∨ i = 4) :
    PlateAt (w.setCell ⟨q.p, i, none⟩ v) q P' := by
  have hsome : ∀ {o : Nat} {u : Value}, w.cell? ⟨q.p, o, none⟩ = some u → (w.setCell ⟨q.p, i, none⟩ v).cell? ⟨q.p, o, none⟩ = some (if i = o then v else u) := by
    intro o u hu
    by_cases e : i = o
    · subst e; rw [if_pos rfl]; exact World.cell?_setCell_same _ _ _ hu
    · rw [if_neg e, World.cell?_setCell_other _ _ _ _ (by simp)]; exact hu
  have hoth : ∀ ad : Addr, ad.block ≠ q.p → (w.setCell ⟨q.p, i, none⟩ v).cell? ad = w.cell? ad := fun ad hb => World.cell?_setCell_other _ _ _ _ (fun e => hb (by rw [← e]))
  obtain ⟨nm1, nm2⟩ := h.nem
  obtain ⟨a, cap, k1, k2, k3⟩ := h.c5
  refine ⟨?_, ?_, ?_, ?_, ?_, ⟨a, cap, ?_, ?_, by rw [hk]; exact k3⟩, fun j => by rw [World.frozen?_setCell]; exact h.fz j, ?_, ?_, ?_, h.ne, hok, by simpa using h.bl⟩
  · rw [hsome h.c0, if_neg (by omega), hn]
  · rw [hsome h.c1, if_neg (by omega)]
  · rw [hsome h.c2]; split at h2 <;> rename_i e
    · rw [if_pos e, h2]
    · rw [if_neg e, h2]
  · rw [hsome h.c3]; split at h3 <;> rename_i e
    · rw [if_pos e, h3]
    · rw [if_neg e, h3]
  · rw [hsome h.c4]; split at h4 <;> rename_i e
    · rw [if_pos e, h4]
    · rw [if_neg e, h4]
  · rw [hsome k1, if_neg (by omega), hk]
  · rw [hk]
    exact Only.bools (R := [q.p]) ((Only.refl _ _).setCell (by simp) _) (fun h0 ad e => fun hm => (k3 h0 ad e).1 (by simp at hm; simp [PLoc.R, hm])) k2
  · intro j hj k u hu
    rw [hoth _ (fun e => h.ne e.symm)]
    rw [hs] at hu
    exact h.st j (hn ▸ hj) k u hu
  · intro j hj k hk
    rw [hoth _ (fun e => h.ne e.symm), World.frozen?_setCell]
    exact h.th j (hn ▸ hj) k hk
  · rw [hw]
    exact h.mp.block (RowKit.Below.heap_setCell _ _ _ _ (fun e => nm1 (by simpa using e.symm)))
theorem PlateAt.setKeep (h : PlateAt w q P) {a : Option Addr} {l : List Bool} {cap : Nat} (hB : Bools w a l) (ha : l ≠ [] → ∀ ad, a = some ad → ad.block ∉ q.R ∧ ad.block ∉ q.ban) :
    PlateAt (w.setCell ⟨q.p, 5, none⟩ (.slice a l.length cap)) q { P with keep := l } := by
  have hsome : ∀ {o : Nat} {u : Value}, w.cell? ⟨q.p, o, none⟩ = some u → (w.setCell ⟨q.p, 5, none⟩ (.slice a l.length cap)).cell? ⟨q.p, o, none⟩ = some (if 5 = o then (.slice a l.length cap) else u) := by
    intro o u hu
    by_cases e : 5 = o
    · subst e; rw [if_pos rfl]; exact World.cell?_setCell_same _ _ _ hu
    · rw [if_neg e, World.cell?_setCell_other _ _ _ _ (by simp)]; exact hu
  have hoth : ∀ ad : Addr, ad.block ≠ q.p → (w.setCell ⟨q.p, 5, none⟩ (.slice a l.length cap)).cell? ad = w.cell? ad := fun ad hb => World.cell?_setCell_other _ _ _ _ (fun e => hb (by rw [← e]))
  obtain ⟨nm1, nm2⟩ := h.nem
  obtain ⟨a0, cap0, k1, k2, k3⟩ := h.c5
  refine ⟨?_, ?_, ?_, ?_, ?_, ⟨a, cap, ?_, ?_, ha⟩, fun j => by rw [World.frozen?_setCell]; exact h.fz j, ?_, ?_, ?_, h.ne, ⟨h.ok.pos, h.ok.most, h.ok.waits, h.ok.left⟩, by simpa using h.bl⟩
  · rw [hsome h.c0, if_neg (by omega)]
  · rw [hsome h.c1, if_neg (by omega)]
  · rw [hsome h.c2, if_neg (by omega)]
  · rw [hsome h.c3, if_neg (by omega)]
  · rw [hsome h.c4, if_neg (by omega)]
  · rw [hsome k1, if_pos rfl]
  · exact Only.bools (R := [q.p]) ((Only.refl _ _).setCell (by simp) _) (fun h0 ad e => fun hm => (ha h0 ad e).1 (by simp at hm; simp [PLoc.R, hm])) hB
  · intro j hj k u hu
    rw [hoth _ (fun e => h.ne e.symm)]
    exact h.st j hj k u hu
  · intro j hj k hk
    rw [hoth _ (fun e => h.ne e.symm), World.frozen?_setCell]
    exact h.th j hj k hk
  · exact h.mp.block (RowKit.Below.heap_setCell _ _ _ _ (fun e => nm1 (by simpa using e.symm)))
/-- A sector is written. -/
theorem PlateAt.setSec (h : PlateAt w q P) {i : Nat} (hi : i < P.n) (s : Sec) : PlateAt (w.setCells q.sb (i * 64) (secL s)) q { P with stays := upd P.stays i s } := by
  have hO : Only [q.sb] w (w.setCells q.sb (i * 64) (secL s)) := Only.setCells (by simp) _ _ (Only.refl _ _)
  have hp : ∀ {o : Nat} {u : Value}, w.cell? ⟨q.p, o, none⟩ = some u → (w.setCells q.sb (i * 64) (secL s)).cell? ⟨q.p, o, none⟩ = some u := fun hu => hO.cell (by simp [h.ne]) hu
  obtain ⟨nm1, nm2⟩ := h.nem
  obtain ⟨a0, cap0, k1, k2, k3⟩ := h.c5
  refine ⟨hp h.c0, hp h.c1, hp h.c2, hp h.c3, hp h.c4, ⟨a0, cap0, hp k1, ?_, k3⟩, fun j => by rw [World.frozen?_setCells]; exact h.fz j, ?_, ?_, ?_, h.ne, ⟨h.ok.pos, h.ok.most, h.ok.waits, h.ok.left⟩, by rw [setCells_size]; exact h.bl⟩
  · exact Only.bools hO (fun h0 ad e => fun hm => (k3 h0 ad e).1 (by simp at hm; simp [PLoc.R, hm])) k2
  · intro j hj
    show World.rangeAt _ _ _ (secL (upd P.stays i s j))
    by_cases e : j = i
    · subst e
      rw [upd_same]
      exact World.rangeAt_setCells_same _ _ _ _ (by rw [secL_length]; exact h.th j hj)
    · rw [upd_other _ _ e]
      exact World.rangeAt_setCells_apart (h.st j hj) _ _ _ (.inr (by rw [secL_length, secL_length]; omega))
  · intro j hj
    exact World.there_setCells (h.th j hj) _ _ _
  · exact h.mp.block (hO.block _ h.mp.lt (by simp [Ne.symm nm2]))
/-- The map is turned. -/
theorem PlateAt.setMap (h : PlateAt w q P) (hg : w.grownBy w' (some q.mb)) {f : Nat → Option Sec} (hm : IM ES w' q.mb (wmap f)) (hf : ∀ i, P.n ≤ i → f i = none) : PlateAt w' q { P with waits := f } := by
  have hO : Only [q.mb] w w' := Only.of_grown hg (by simp)
  obtain ⟨nm1, nm2⟩ := h.nem
  have hp : ∀ {o : Nat} {u : Value}, w.cell? ⟨q.p, o, none⟩ = some u → w'.cell? ⟨q.p, o, none⟩ = some u := fun hu => hO.cell (by simp [nm1]) hu
  have hfz : ∀ {b : Nat}, b ∈ q.R → b ≠ q.mb → ∀ o, w'.frozen? ⟨b, o, none⟩ = w.frozen? ⟨b, o, none⟩ := fun hm hne o => by
    unfold World.frozen?; simp only [hO.block _ (h.lt _ hm) (by simp [hne])]
  obtain ⟨a0, cap0, k1, k2, k3⟩ := h.c5
  refine ⟨hp h.c0, hp h.c1, hp h.c2, hp h.c3, hp h.c4, ⟨a0, cap0, hp k1, ?_, k3⟩, fun j => (hfz q.inP nm1 j).trans (h.fz j), ?_, ?_, hm, h.ne, ⟨h.ok.pos, h.ok.most, hf, h.ok.left⟩, fun b hb => Nat.lt_of_lt_of_le (h.bl b hb) hg.size⟩
  · exact Only.bools hO (fun h0 ad e => fun hm => (k3 h0 ad e).1 (by simp at hm; simp [PLoc.R, hm])) k2
  · intro j hj k u hu
    exact hO.cell (by simp [nm2]) (h.st j hj k u hu)
  · intro j hj k hk
    obtain ⟨h1, h2⟩ := h.th j hj k hk
    obtain ⟨u, hu⟩ := Option.isSome_iff_exists.1 h1
    exact ⟨by rw [hO.cell (by simp [nm2]) hu]; rfl, (hfz q.inS nm2 _).trans h2⟩
/-- More blocks may be banned: such as were not there. -/
def PLoc.banX (q : PLoc) (X : List Nat) : PLoc := { q with ban := X ++ q.ban }
theorem PlateAt.reban (h : PlateAt w q P) (hb : Below w.heap.size w w') {X : List Nat} (hX : ∀ x ∈ X, w.heap.size ≤ x ∧ x < w'.heap.size) : PlateAt w' (q.banX X) P := by
  have h' := h.below hb
  obtain ⟨a, cap, k1, k2, k3⟩ := h.c5
  have kk := keepc hb k1
  refine ⟨h'.c0, h'.c1, h'.c2, h'.c3, h'.c4, ⟨a, cap, kk, k2.below hb, fun h0 ad e => ⟨(k3 h0 ad e).1, fun hm => ?_⟩⟩, h'.fz, h'.st, h'.th, h'.mp, h'.ne, h'.ok, fun b hm => ?_⟩
  · rcases List.mem_append.1 hm with hm | hm
    · obtain ⟨b, off, e2, hc⟩ : ∃ b off, a = some ⟨b, off, none⟩ ∧ ∀ i (hi : i < P.keep.length), w.cell? ⟨b, off + i, none⟩ = some (.bool P.keep[i]) := by
        rcases k2.2 with h | h
        · exact absurd h h0
        · exact h
      rw [e2] at e
      cases e
      have := block_lt_of_cell (hc 0 (List.length_pos_iff.2 h0))
      have := (hX _ hm).1
      simp only at *
      omega
    · exact (k3 h0 ad e).2 hm
  · rcases List.mem_append.1 hm with hm | hm
    · exact (hX b hm).2
    · exact h'.bl b hm
theorem PlateAt.unban {X : List Nat} (h : PlateAt w (q.banX X) P) : PlateAt w q P := by
  obtain ⟨a, cap, k1, k2, k3⟩ := h.c5
  exact ⟨h.c0, h.c1, h.c2, h.c3, h.c4, ⟨a, cap, k1, k2, fun h0 ad e => ⟨(k3 h0 ad e).1, fun hm => (k3 h0 ad e).2 (List.mem_append_right _ hm)⟩⟩, h.fz, h.st, h.th, h.mp, h.ne, h.ok, fun b hm => h.bl b (List.mem_append_right _ hm)⟩
theorem PlateAt.congr (h : PlateAt w q P) (hn : P'.n = P.n) (hs : ∀ i, i < P.n → secL (P'.stays i) = secL (P.stays i)) (hw : P'.waits = P.waits) (hd : P'.dead = P.dead) (hf : P'.fails = P.fails) (hl : P'.left = P.left) (hk : P'.keep = P.keep) : PlateAt w q P' := by
  obtain ⟨n, st, wt, d, f, l, k⟩ := P
  obtain ⟨n', st', wt', d', f', l', k'⟩ := P'
  simp only at hn hs hw hd hf hl hk
  subst hn; subst hw; subst hd; subst hf; subst hl; subst hk
  exact ⟨h.c0, h.c1, h.c2, h.c3, h.c4, h.c5, h.fz, fun i hi => by show World.rangeAt _ _ _ (secL (st' i)); rw [show secL (st' i) = secL (st i) from hs i hi]; exact h.st i hi, h.th, h.mp, h.ne, ⟨h.ok.pos, h.ok.most, h.ok.waits, h.ok.left⟩, h.bl⟩
theorem Only.grown {b : Nat} (h : Only [b] w w') : w.grownBy w' (some b) := ⟨h.os, h.tape, h.output, h.size, fun i hi hn => h.block i hi (by simp; exact fun e => hn (by rw [e]))⟩
/-- A loop's step over a map turns no plate. -/
theorem PlateAt.iter {r n cnt : Nat} {D : DM} {left : Lit → Bool} {E : Value → Prop} {b : Nat} (h : PlateAt w q P) (hr : w.ranges Try.prog 3 (RE E) b r n D left cnt) (hg : w.grownBy w' (some r)) (hq : q.mb ≠ r) : PlateAt w' q P := by
  have hno : ∀ ad : Addr, ad.block = r → w.cell? ad = none := fun ad e => by
    obtain ⟨es, clock, since, seen, c0, _, _, _, _, hi, _⟩ := hr
    obtain ⟨ab, ao, asp⟩ := ad
    simp only at e
    subst e
    simp [World.cell?, hi]
  refine h.same hg.size (fun bb hm => hg.block bb (h.lt bb hm) (fun e => ?_)) (fun a _ hB => hB.of fun ad v hc => ?_)
  · cases e
    simp only [PLoc.R, List.mem_cons, List.not_mem_nil, or_false] at hm
    rcases hm with e | e | e
    · have := hno ⟨q.p, 0, none⟩ e.symm
      rw [h.c0] at this
      cases this
    · have := hno ⟨q.sb, 0 * 64 + 0, none⟩ e.symm
      rw [h.st 0 h.ok.pos 0 _ (secL_get _ (by omega))] at this
      cases this
    · exact hq e.symm
  · refine (World.cell?_of_block (hg.block ad.block (block_lt_of_cell hc) (fun e => ?_))).trans hc
    cases e
    rw [hno ad rfl] at hc
    cases hc
theorem PlateAt.sec (h : PlateAt w q P) {i : Nat} (hi : i < P.n) : Sec88 w ⟨q.sb, i * 64, none⟩ (P.stays i) := ⟨rfl, h.st i hi⟩
theorem PlateAt.room (h : PlateAt w q P) {i : Nat} (hi : i < P.n) : Room88 w ⟨q.sb, i * 64, none⟩ := ⟨rfl, h.th i hi⟩
theorem PlateAt.bound (h : PlateAt w q P) : ∀ x, (wmap P.waits x).isSome = true → 0 ≤ x ∧ x < (P.n : Int) := by
  intro x hx
  unfold wmap at hx
  by_cases h0 : 0 ≤ x
  · rw [if_pos h0] at hx
    refine ⟨h0, Int.not_le.1 fun hle => ?_⟩
    rw [h.ok.waits x.toNat (by omega)] at hx
    cases hx
  · rw [if_neg h0] at hx; cases hx
end
end Go.Proofs.Ytdhidcoglioalaa.Walks
