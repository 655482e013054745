/-
  A plate in memory.
  The walks of a plate's calls that only read.
  A slice of bools is copied.
-/
import Derived.Test.YtdhidcoglioalaaGreatM02
import Derived.Lib.SliceRun
import Derived.Laws.AppendOwnNone
namespace Go.Proofs.YtdhidcoglioalaaGreat.Walks
open Go.RowKit Plain
set_option linter.unusedVariables false

/-- Bools lie in memory. -/
def Bools (w : World) (a : Option Addr) (l : List Bool) : Prop :=
  l.length ≤ 140737488355328 ∧ (l = [] ∨ ∃ b off, a = some ⟨b, off, none⟩ ∧ ∀ i (h : i < l.length), w.cell? ⟨b, off + i, none⟩ = some (.bool l[i]))
theorem Bools.nil (w : World) (a : Option Addr) : Bools w a [] := ⟨by simp, .inl rfl⟩
theorem Bools.of {w w' : World} {a : Option Addr} {l : List Bool} (h : Bools w a l) (hc : ∀ ad v, w.cell? ad = some v → w'.cell? ad = some v) : Bools w' a l := by
  refine ⟨h.1, ?_⟩
  rcases h.2 with rfl | ⟨b, off, rfl, hh⟩
  · exact .inl rfl
  · exact .inr ⟨b, off, rfl, fun i hi => hc _ _ (hh i hi)⟩
theorem Bools.below {w w' : World} {a : Option Addr} {l : List Bool} (h : Bools w a l) (hb : Below w.heap.size w w') : Bools w' a l := h.of fun _ _ hc => keepc hb hc

/-- Where a plate lies: its struct, its sectors, its map; blocks in which its list must not lie. -/
structure PLoc where
  p : Nat
  sb : Nat
  mb : Nat
  ban : List Nat
def PLoc.R (q : PLoc) : List Nat := [q.p, q.sb, q.mb]
theorem PLoc.inP (q : PLoc) : q.p ∈ q.R := by simp [PLoc.R]
theorem PLoc.inS (q : PLoc) : q.sb ∈ q.R := by simp [PLoc.R]
theorem PLoc.inM (q : PLoc) : q.mb ∈ q.R := by simp [PLoc.R]
/-- What waits, as the map tells it. -/
def wmap (f : Nat → Option Sec) (x : Int) : Option Value := if 0 ≤ x then (f x.toNat).map secV else none
def ES (v : Value) : Prop := ∃ s, v = secV s
/-- The keep list in memory lies in no block of the plate's. -/
def KeepAt (w : World) (q : PLoc) (l : List Bool) : Prop :=
  ∃ a cap, w.cell? ⟨q.p, 5, none⟩ = some (.slice a l.length cap) ∧ Bools w a l ∧ (l ≠ [] → ∀ ad, a = some ad → ad.block ∉ q.R ∧ ad.block ∉ q.ban)
structure PlateAt (w : World) (q : PLoc) (P : Pl) : Prop where
  c0 : w.cell? ⟨q.p, 0, none⟩ = some (.slice (some ⟨q.sb, 0, none⟩) P.n P.n)
  c1 : w.cell? ⟨q.p, 1, none⟩ = some (.map (some q.mb))
  c2 : w.cell? ⟨q.p, 2, none⟩ = some (.bool P.dead)
  c3 : w.cell? ⟨q.p, 3, none⟩ = some (.bool P.fails)
  c4 : w.cell? ⟨q.p, 4, none⟩ = some (.int .i64 P.left)
  c5 : KeepAt w q P.keep
  fz : ∀ i, w.frozen? ⟨q.p, i, none⟩ = false
  st : ∀ i, i < P.n → w.rangeAt q.sb (i * 64) (secL (P.stays i))
  th : ∀ i, i < P.n → w.there q.sb (i * 64) 64
  mp : IM ES w q.mb (wmap P.waits)
  ne : q.p ≠ q.sb
  ok : P.Ok
  bl : ∀ b ∈ q.ban, b < w.heap.size

section
variable {w w' : World} {q : PLoc} {P P' : Pl}
theorem PlateAt.lt (h : PlateAt w q P) : ∀ b ∈ q.R, b < w.heap.size := by
  intro b hb
  simp only [PLoc.R, List.mem_cons, List.not_mem_nil, or_false] at hb
  rcases hb with rfl | rfl | rfl
  · exact block_lt_of_cell h.c0
  · exact block_lt_of_cell (h.st 0 h.ok.pos 0 _ (secL_get _ (by omega)))
  · exact h.mp.lt
theorem PlateAt.nem (h : PlateAt w q P) : q.p ≠ q.mb ∧ q.sb ≠ q.mb := by
  constructor
  · intro e
    have := h.mp.nocell ⟨q.p, 0, none⟩ e
    rw [h.c0] at this
    cases this
  · intro e
    have := h.mp.nocell ⟨q.sb, 0 * 64 + 0, none⟩ e
    rw [h.st 0 h.ok.pos 0 _ (secL_get _ (by omega))] at this
    cases this
/-- A plate none of whose blocks has turned. -/
theorem PlateAt.same (h : PlateAt w q P) (hz : w.heap.size ≤ w'.heap.size) (hb : ∀ b ∈ q.R, w'.heap[b]? = w.heap[b]?) (hK : ∀ a, (P.keep ≠ [] → ∀ ad, a = some ad → ad.block ∉ q.R ∧ ad.block ∉ q.ban) → Bools w a P.keep → Bools w' a P.keep) : PlateAt w' q P := by
  have hp : ∀ o, w'.cell? ⟨q.p, o, none⟩ = w.cell? ⟨q.p, o, none⟩ := fun o => World.cell?_of_block (hb _ q.inP)
  have hs : ∀ o, w'.cell? ⟨q.sb, o, none⟩ = w.cell? ⟨q.sb, o, none⟩ := fun o => World.cell?_of_block (hb _ q.inS)
  have hfz : ∀ {b : Nat}, b ∈ q.R → ∀ o, w'.frozen? ⟨b, o, none⟩ = w.frozen? ⟨b, o, none⟩ := fun hm o => by unfold World.frozen?; simp only [hb _ hm]
  obtain ⟨a, cap, k1, k2, k3⟩ := h.c5
  exact ⟨(hp _).trans h.c0, (hp _).trans h.c1, (hp _).trans h.c2, (hp _).trans h.c3, (hp _).trans h.c4, ⟨a, cap, (hp _).trans k1, hK _ k3 k2, k3⟩, fun i => (hfz q.inP i).trans (h.fz i),
    fun i hi j v hv => (hs _).trans (h.st i hi j v hv), fun i hi j hj => ⟨by rw [hs]; exact (h.th i hi j hj).1, (hfz q.inS _).trans (h.th i hi j hj).2⟩, h.mp.block (hb _ q.inM), h.ne, h.ok, fun b hb => Nat.lt_of_lt_of_le (h.bl b hb) hz⟩
theorem PlateAt.below (h : PlateAt w q P) (hb : Below w.heap.size w w') : PlateAt w' q P :=
  h.same hb.size (fun b hm => hb.block b (h.lt b hm)) (fun _ _ hB => hB.below hb)
theorem PlateAt.drewN (h : PlateAt w q P) (k : Nat) : PlateAt (w.drewN k) q P := h.below (below_drewN (Below.refl _ _) k)
theorem PlateAt.drew (h : PlateAt w q P) : PlateAt w.drew q P := h.drewN 1
theorem PlateAt.alloc (h : PlateAt w q P) (o : Obj) : PlateAt (w.alloc o) q P := h.below (Below.new _ _)
/-- What other calls turn in blocks that are not this plate's and not its list's. -/
theorem PlateAt.only (h : PlateAt w q P) {R : List Nat} (ho : Only R w w') (hd : ∀ b ∈ q.R, b ∉ R) (hk : ∀ a, (P.keep ≠ [] → ∀ ad, a = some ad → ad.block ∉ q.R ∧ ad.block ∉ q.ban) → Bools w a P.keep → Bools w' a P.keep) : PlateAt w' q P :=
  h.same ho.size (fun b hm => ho.block b (h.lt b hm) (hd b hm)) hk
/-- .. and whose list is none. -/
theorem PlateAt.bare (h : PlateAt w q P) {R : List Nat} (ho : Only R w w') (hd : ∀ b ∈ q.R, b ∉ R) (hk : P.keep = []) : PlateAt w' q P :=
  h.only ho hd (fun a _ _ => by rw [hk]; exact Bools.nil _ _)
/-- A cell that is none of the plate's is kept by what turns the plate alone. -/
theorem Only.bools {R : List Nat} (ho : Only R w w') {a : Option Addr} {l : List Bool} (hn : l ≠ [] → ∀ ad, a = some ad → ad.block ∉ R) (h : Bools w a l) : Bools w' a l := by
  refine ⟨h.1, ?_⟩
  rcases h.2 with rfl | ⟨b, off, rfl, hh⟩
  · exact .inl rfl
  · exact .inr ⟨b, off, rfl, fun i hi => ho.cell (hn (List.ne_nil_of_length_pos (by omega)) ⟨b, off, none⟩ rfl) (hh i hi)⟩

/-! ### Turns of the plate -/
theorem wmap_upd (f : Nat → Option Sec) (i : Nat) (o : Option Sec) : wmap (upd f i o) = updI (wmap f) (i : Int) (o.map secV) := by
  funext x
  unfold wmap updI
  by_cases e : x = (i : Int)
  · subst e
    simp [upd_same]
  · rw [if_neg e]
    by_cases h0 : 0 ≤ x
    · simp only [if_pos h0]
      rw [upd_other _ _ (by omega)]
    · simp only [if_neg h0]
theorem wmap_none : wmap (fun _ => none) = fun _ => none := by
  funext x
  unfold wmap
  split <;> rfl
theorem PlateAt.setCell (h : PlateAt w q P) {i : Nat} {v : Value} (hi : i < 6) (P' : Pl) (hn : P'.n = P.n) (hs : P'.stays = P.stays) (hw : P'.waits = P.waits) (hk : P'.keep = P.keep) (hok : P'.Ok)
    (h2 : if i = 2 then v = .bool P'.dead else P'.dead = P.dead) (h3 : if i = 3 then v = .bool P'.fails else P'.fails = P.fails) (h4 : if i = 4 then v = .int .i64 P'.left else P'.left = P.left) (hi' : i = 2 ∨ i = 3 ∨ i = 4) :
    PlateAt (w.setCell ⟨q.p, i, none⟩ v) q P' := by
  have hsome : ∀ {o : Nat} {u : Value}, w.cell? ⟨q.p, o, none⟩ = some u → (w.setCell ⟨q.p, i, none⟩ v).cell? ⟨q.p, o, none⟩ = some (if i = o then v else u) := by
    intro o u hu
    by_cases e : i = o
    · subst e; rw [if_pos rfl]; exact World.cell?_setCell_same _ _ _ hu
    · rw [if_neg e, World.cell?_setCell_other _ _ _ _ (by simp)]; exact hu
  have hoth : ∀ ad : Addr, ad.block ≠ q.p → (w.setCell ⟨q.p, i, none⟩ v).cell? ad = w.cell? ad := fun ad hb => World.cell?_setCell_other _ _ _ _ (fun e => hb (by rw [← e]))
  obtain ⟨nm1, nm2⟩ := h.nem
  obtain ⟨a, cap, k1, k2, k3⟩ := h.c5
  refine ⟨?_, ?_, ?_, ?_, ?_, ⟨a, cap, ?_, ?_, by rw [hk]; exact k3⟩, fun j => by rw [World.frozen?_setCell]; exact h.fz j, ?_, ?_, ?_, h.ne, hok, by simpa using h.bl⟩
  · rw [hsome h.c0, if_neg (by omega), hn]
  · rw [hsome h.c1, if_neg (by omega)]
  · rw [hsome h.c2]; split at h2 <;> rename_i e
    · rw [if_pos e, h2]
    · rw [if_neg e, h2]
  · rw [hsome h.c3]; split at h3 <;> rename_i e
    · rw [if_pos e, h3]
    · rw [if_neg e, h3]
  · rw [hsome h.c4]; split at h4 <;> rename_i e
    · rw [if_pos e, h4]
    · rw [if_neg e, h4]
  · rw [hsome k1, if_neg (by omega), hk]
  · rw [hk]
    exact Only.bools (R := [q.p]) ((Only.refl _ _).setCell (by simp) _) (fun h0 ad e => fun hm => (k3 h0 ad e).1 (by simp at hm; simp [PLoc.R, hm])) k2
  · intro j hj k u hu
    rw [hoth _ (fun e => h.ne e.symm)]
    rw [hs] at hu
    exact h.st j (hn ▸ hj) k u hu
  · intro j hj k hk
    rw [hoth _ (fun e => h.ne e.symm), World.frozen?_setCell]
    exact h.th j (hn ▸ hj) k hk
  · rw [hw]
    exact h.mp.block (RowKit.Below.heap_setCell _ _ _ _ (fun e => nm1 (by simpa using e.symm)))
theorem PlateAt.setKeep (h : PlateAt w q P) {a : Option Addr} {l : List Bool} {cap : Nat} (hB : Bools w a l) (ha : l ≠ [] → ∀ ad, a = some ad → ad.block ∉ q.R ∧ ad.block ∉ q.ban) :
    PlateAt (w.setCell ⟨q.p, 5, none⟩ (.slice a l.length cap)) q { P with keep := l } := by
  have hsome : ∀ {o : Nat} {u : Value}, w.cell? ⟨q.p, o, none⟩ = some u → (w.setCell ⟨q.p, 5, none⟩ (.slice a l.length cap)).cell? ⟨q.p, o, none⟩ = some (if 5 = o then (.slice a l.length cap) else u) := by
    intro o u hu
    by_cases e : 5 = o
    · subst e; rw [if_pos rfl]; exact World.cell?_setCell_same _ _ _ hu
    · rw [if_neg e, World.cell?_setCell_other _ _ _ _ (by simp)]; exact hu
  have hoth : ∀ ad : Addr, ad.block ≠ q.p → (w.setCell ⟨q.p, 5, none⟩ (.slice a l.length cap)).cell? ad = w.cell? ad := fun ad hb => World.cell?_setCell_other _ _ _ _ (fun e => hb (by rw [← e]))
  obtain ⟨nm1, nm2⟩ := h.nem
  obtain ⟨a0, cap0, k1, k2, k3⟩ := h.c5
  refine ⟨?_, ?_, ?_, ?_, ?_, ⟨a, cap, ?_, ?_, ha⟩, fun j => by rw [World.frozen?_setCell]; exact h.fz j, ?_, ?_, ?_, h.ne, ⟨h.ok.pos, h.ok.most, h.ok.waits, h.ok.left⟩, by simpa using h.bl⟩
  · rw [hsome h.c0, if_neg (by omega)]
  · rw [hsome h.c1, if_neg (by omega)]
  · rw [hsome h.c2, if_neg (by omega)]
  · rw [hsome h.c3, if_neg (by omega)]
  · rw [hsome h.c4, if_neg (by omega)]
  · rw [hsome k1, if_pos rfl]
  · exact Only.bools (R := [q.p]) ((Only.refl _ _).setCell (by simp) _) (fun h0 ad e => fun hm => (ha h0 ad e).1 (by simp at hm; simp [PLoc.R, hm])) hB
  · intro j hj k u hu
    rw [hoth _ (fun e => h.ne e.symm)]
    exact h.st j hj k u hu
  · intro j hj k hk
    rw [hoth _ (fun e => h.ne e.symm), World.frozen?_setCell]
    exact h.th j hj k hk
  · exact h.mp.block (RowKit.Below.heap_setCell _ _ _ _ (fun e => nm1 (by simpa using e.symm)))
/-- A sector is written. -/
theorem PlateAt.setSec (h : PlateAt w q P) {i : Nat} (hi : i < P.n) (s : Sec) : PlateAt (w.setCells q.sb (i * 64) (secL s)) q { P with stays := upd P.stays i s } := by
  have hO : Only [q.sb] w (w.setCells q.sb (i * 64) (secL s)) := Only.setCells (by simp) _ _ (Only.refl _ _)
  have hp : ∀ {o : Nat} {u : Value}, w.cell? ⟨q.p, o, none⟩ = some u → (w.setCells q.sb (i * 64) (secL s)).cell? ⟨q.p, o, none⟩ = some u := fun hu => hO.cell (by simp [h.ne]) hu
  obtain ⟨nm1, nm2⟩ := h.nem
  obtain ⟨a0, cap0, k1, k2, k3⟩ := h.c5
  refine ⟨hp h.c0, hp h.c1, hp h.c2, hp h.c3, hp h.c4, ⟨a0, cap0, hp k1, ?_, k3⟩, fun j => by rw [World.frozen?_setCells]; exact h.fz j, ?_, ?_, ?_, h.ne, ⟨h.ok.pos, h.ok.most, h.ok.waits, h.ok.left⟩, by rw [setCells_size]; exact h.bl⟩
  · exact Only.bools hO (fun h0 ad e => fun hm => (k3 h0 ad e).1 (by simp at hm; simp [PLoc.R, hm])) k2
  · intro j hj
    show World.rangeAt _ _ _ (secL (upd P.stays i s j))
    by_cases e : j = i
    · subst e
      rw [upd_same]
      exact World.rangeAt_setCells_same _ _ _ _ (by rw [secL_length]; exact h.th j hj)
    · rw [upd_other _ _ e]
      exact World.rangeAt_setCells_apart (h.st j hj) _ _ _ (.inr (by rw [secL_length, secL_length]; omega))
  · intro j hj
    exact World.there_setCells (h.th j hj) _ _ _
  · exact h.mp.block (hO.block _ h.mp.lt (by simp [Ne.symm nm2]))
/-- The map is turned. -/
theorem PlateAt.setMap (h : PlateAt w q P) (hg : w.grownBy w' (some q.mb)) {f : Nat → Option Sec} (hm : IM ES w' q.mb (wmap f)) (hf : ∀ i, P.n ≤ i → f i = none) : PlateAt w' q { P with waits := f } := by
  have hO : Only [q.mb] w w' := Only.of_grown hg (by simp)
  obtain ⟨nm1, nm2⟩ := h.nem
  have hp : ∀ {o : Nat} {u : Value}, w.cell? ⟨q.p, o, none⟩ = some u → w'.cell? ⟨q.p, o, none⟩ = some u := fun hu => hO.cell (by simp [nm1]) hu
  have hfz : ∀ {b : Nat}, b ∈ q.R → b ≠ q.mb → ∀ o, w'.frozen? ⟨b, o, none⟩ = w.frozen? ⟨b, o, none⟩ := fun hm hne o => by
    unfold World.frozen?; simp only [hO.block _ (h.lt _ hm) (by simp [hne])]
  obtain ⟨a0, cap0, k1, k2, k3⟩ := h.c5
  refine ⟨hp h.c0, hp h.c1, hp h.c2, hp h.c3, hp h.c4, ⟨a0, cap0, hp k1, ?_, k3⟩, fun j => (hfz q.inP nm1 j).trans (h.fz j), ?_, ?_, hm, h.ne, ⟨h.ok.pos, h.ok.most, hf, h.ok.left⟩, fun b hb => Nat.lt_of_lt_of_le (h.bl b hb) hg.size⟩
  · exact Only.bools hO (fun h0 ad e => fun hm => (k3 h0 ad e).1 (by simp at hm; simp [PLoc.R, hm])) k2
  · intro j hj k u hu
    exact hO.cell (by simp [nm2]) (h.st j hj k u hu)
  · intro j hj k hk
    obtain ⟨h1, h2⟩ := h.th j hj k hk
    obtain ⟨u, hu⟩ := Option.isSome_iff_exists.1 h1
    exact ⟨by rw [hO.cell (by simp [nm2]) hu]; rfl, (hfz q.inS nm2 _).trans h2⟩
/-- More blocks may be banned: such as were not there. -/
def PLoc.banX (q : PLoc) (X : List Nat) : PLoc := { q with ban := X ++ q.ban }
theorem PlateAt.reban (h : PlateAt w q P) (hb : Below w.heap.size w w') {X : List Nat} (hX : ∀ x ∈ X, w.heap.size ≤ x ∧ x < w'.heap.size) : PlateAt w' (q.banX X) P := by
  have h' := h.below hb
  obtain ⟨a, cap, k1, k2, k3⟩ := h.c5
  have kk := keepc hb k1
  refine ⟨h'.c0, h'.c1, h'.c2, h'.c3, h'.c4, ⟨a, cap, kk, k2.below hb, fun h0 ad e => ⟨(k3 h0 ad e).1, fun hm => ?_⟩⟩, h'.fz, h'.st, h'.th, h'.mp, h'.ne, h'.ok, fun b hm => ?_⟩
  · rcases List.mem_append.1 hm with hm | hm
    · obtain ⟨b, off, e2, hc⟩ : ∃ b off, a = some ⟨b, off, none⟩ ∧ ∀ i (hi : i < P.keep.length), w.cell? ⟨b, off + i, none⟩ = some (.bool P.keep[i]) := by
        rcases k2.2 with h | h
        · exact absurd h h0
        · exact h
      rw [e2] at e
      cases e
      have := block_lt_of_cell (hc 0 (List.length_pos_iff.2 h0))
      have := (hX _ hm).1
      simp only at *
      omega
    · exact (k3 h0 ad e).2 hm
  · rcases List.mem_append.1 hm with hm | hm
    · exact (hX b hm).2
    · exact h'.bl b hm
theorem PlateAt.unban {X : List Nat} (h : PlateAt w (q.banX X) P) : PlateAt w q P := by
  obtain ⟨a, cap, k1, k2, k3⟩ := h.c5
  exact ⟨h.c0, h.c1, h.c2, h.c3, h.c4, ⟨a, cap, k1, k2, fun h0 ad e => ⟨(k3 h0 ad e).1, fun hm => (k3 h0 ad e).2 (List.mem_append_right _ hm)⟩⟩, h.fz, h.st, h.th, h.mp, h.ne, h.ok, fun b hm => h.bl b (List.mem_append_right _ hm)⟩
theorem PlateAt.congr (h : PlateAt w q P) (hn : P'.n = P.n) (hs : ∀ i, i < P.n → secL (P'.stays i) = secL (P.stays i)) (hw : P'.waits = P.waits) (hd : P'.dead = P.dead) (hf : P'.fails = P.fails) (hl : P'.left = P.left) (hk : P'.keep = P.keep) : PlateAt w q P' := by
  obtain ⟨n, st, wt, d, f, l, k⟩ := P
  obtain ⟨n', st', wt', d', f', l', k'⟩ := P'
  simp only at hn hs hw hd hf hl hk
  subst hn; subst hw; subst hd; subst hf; subst hl; subst hk
  exact ⟨h.c0, h.c1, h.c2, h.c3, h.c4, h.c5, h.fz, fun i hi => by show World.rangeAt _ _ _ (secL (st' i)); rw [show secL (st' i) = secL (st i) from hs i hi]; exact h.st i hi, h.th, h.mp, h.ne, ⟨h.ok.pos, h.ok.most, h.ok.waits, h.ok.left⟩, h.bl⟩
theorem Only.grown {b : Nat} (h : Only [b] w w') : w.grownBy w' (some b) := ⟨h.os, h.tape, h.output, h.size, fun i hi hn => h.block i hi (by simp; exact fun e => hn (by rw [e]))⟩
/-- A loop's step over a map turns no plate. -/
theorem PlateAt.iter {r n cnt : Nat} {D : DM} {left : Lit → Bool} {E : Value → Prop} {b : Nat} (h : PlateAt w q P) (hr : w.ranges Tryz.prog 3 (RE E) b r n D left cnt) (hg : w.grownBy w' (some r)) (hq : q.mb ≠ r) : PlateAt w' q P := by
  have hno : ∀ ad : Addr, ad.block = r → w.cell? ad = none := fun ad e => by
    obtain ⟨es, clock, since, seen, c0, _, _, _, _, hi, _⟩ := hr
    obtain ⟨ab, ao, asp⟩ := ad
    simp only at e
    subst e
    simp [World.cell?, hi]
  refine h.same hg.size (fun bb hm => hg.block bb (h.lt bb hm) (fun e => ?_)) (fun a _ hB => hB.of fun ad v hc => ?_)
  · cases e
    simp only [PLoc.R, List.mem_cons, List.not_mem_nil, or_false] at hm
    rcases hm with e | e | e
    · have := hno ⟨q.p, 0, none⟩ e.symm
      rw [h.c0] at this
      cases this
    · have := hno ⟨q.sb, 0 * 64 + 0, none⟩ e.symm
      rw [h.st 0 h.ok.pos 0 _ (secL_get _ (by omega))] at this
      cases this
    · exact hq e.symm
  · refine (World.cell?_of_block (hg.block ad.block (block_lt_of_cell hc) (fun e => ?_))).trans hc
    cases e
    rw [hno ad rfl] at hc
    cases hc
theorem PlateAt.sec (h : PlateAt w q P) {i : Nat} (hi : i < P.n) : Sec88 w ⟨q.sb, i * 64, none⟩ (P.stays i) := ⟨rfl, h.st i hi⟩
theorem PlateAt.room (h : PlateAt w q P) {i : Nat} (hi : i < P.n) : Room88 w ⟨q.sb, i * 64, none⟩ := ⟨rfl, h.th i hi⟩
theorem PlateAt.bound (h : PlateAt w q P) : ∀ x, (wmap P.waits x).isSome = true → 0 ≤ x ∧ x < (P.n : Int) := by
  intro x hx
  unfold wmap at hx
  by_cases h0 : 0 ≤ x
  · rw [if_pos h0] at hx
    refine ⟨h0, Int.not_le.1 fun hle => ?_⟩
    rw [h.ok.waits x.toNat (by omega)] at hx
    cases hx
  · rw [if_neg h0] at hx; cases hx
end
end Go.Proofs.YtdhidcoglioalaaGreat.Walks
namespace Go.Proofs.YtdhidcoglioalaaGreat.Walks
open Go.RowKit Plain
set_option linter.unusedVariables false
attribute [local go_sem ↓] exec_load88 exec_store88 exec_alloc88
attribute [local go_sem] isPt_mk adOf_mk isSec_mk sOf_mk alloc_setCells is_new at_new room_new is_past at_past room_past is_drew at_drew room_drew setCells_past setCells_size setCells_drew

abbrev pv (q : PLoc) : Value := .pointer (some ⟨q.p, 0, none⟩)
theorem may_any (w : World) (q : PLoc) (P : Pl) (h : PlateAt w q P) : Calls Tryz.prog 51 #[pv q] w fun e w' => e = .returned (.int .i64 P.may) ∧ w = w' := by
  have hn : ((P.n : Int) == 0) = false := by have := h.ok.pos; simp; omega
  have c0 := h.c0
  have c2 := h.c2
  unfold Pl.may
  have H := Lib.hid h
  clear h
  cases hd : P.dead
  · rw [hd] at c2
    go_enter Tryz.func51, Tryz.ntmps51
    go_wp2
    go_ret
    exact ⟨by simp, rfl⟩
  · rw [hd] at c2
    go_enter Tryz.func51, Tryz.ntmps51
    go_wp2
    go_ret
    exact ⟨by simp, rfl⟩
theorem has_any (w : World) (q : PLoc) (P : Pl) (h : PlateAt w q P) (i : Int) : Calls Tryz.prog 45 #[pv q, .int .i64 i] w fun e w' => e = .returned (.int .i64 (P.has i)) ∧ w = w' := by
  have c0 := h.c0
  have hc := may_any w q P h
  have H := Lib.hid h
  clear h
  unfold Pl.may at hc
  unfold Pl.has
  obtain ⟨d, hd⟩ : ∃ d, d = P.dead := ⟨_, rfl⟩
  obtain ⟨n, hn⟩ : ∃ n, n = P.n := ⟨_, rfl⟩
  rw [← hn] at c0
  rw [← hd] at hc
  rw [← hd, ← hn]
  clear hd hn
  cases d
  · simp only [Bool.false_eq_true, if_false] at hc ⊢
    have HC := Lib.hid hc
    clear hc
    by_cases h1 : i < 0
    · go_enter Tryz.func45, Tryz.ntmps45
      go_wp2_with fail
      refine Calls.mono HC.out ?_
      rintro e w' ⟨rfl, rfl⟩
      go_wp2
      go_ret
      exact ⟨rfl, rfl⟩
    · by_cases h2 : (n : Int) ≤ i
      · go_enter Tryz.func45, Tryz.ntmps45
        go_wp2_with fail
        refine Calls.mono HC.out ?_
        rintro e w' ⟨rfl, rfl⟩
        go_wp2
        go_ret
        exact ⟨rfl, rfl⟩
      · go_enter Tryz.func45, Tryz.ntmps45
        go_wp2_with fail
        refine Calls.mono HC.out ?_
        rintro e w' ⟨rfl, rfl⟩
        go_wp2
        go_ret
        exact ⟨rfl, rfl⟩
  · simp only [if_true] at hc ⊢
    have HC := Lib.hid hc
    clear hc
    go_enter Tryz.func45, Tryz.ntmps45
    go_wp2_with fail
    refine Calls.mono HC.out ?_
    rintro e w' ⟨rfl, rfl⟩
    go_wp2
    go_ret
    exact ⟨rfl, rfl⟩
theorem res51 (W : World) (o : Obj) (s : Sec) (tmps : Array Value) (ht : tmps.getD 4 undef = .pointer (some ⟨W.heap.size, 0, none⟩)) :
    (results Tryz.f46 tmps).run Tryz.prog ((W.alloc (.cells (secC s) 91)).alloc o) = .ok (secV s) ((W.alloc (.cells (secC s) 91)).alloc o) :=
  results_cell_row (p := 4) (ty := 91) rfl tmps _ W.heap.size 91 (secC s) (0, 0) _ ht ((heap_alloc_lt (by simp)).trans (heap_alloc_new _ _)) Tryz.underlying91 rfl (by rw [secC_size]; exact z88)
set_option maxRecDepth 10000 in
theorem seen_any (w : World) (q : PLoc) (P : Pl) (h : PlateAt w q P) (i : Nat) (hi : i < P.n) : Calls Tryz.prog 46 #[pv q, .int .i64 i] w fun e w' => e = .returned (secV (P.seen i)) ∧ Below w.heap.size w w' := by
  have hwf : Wf (i : Int) := Wf.of (by omega) (by have := h.ok.most; omega)
  have c0 := h.c0
  have c1 := h.c1
  have hl := h.mp.look (w := w) (t := 99) (e := 91) true Tryz.underlying99 (zero88 _) hwf
  have hm : wmap P.waits (i : Int) = (P.waits i).map secV := by unfold wmap; simp
  rw [hm] at hl
  have hs := h.sec hi
  obtain ⟨n, hn⟩ : ∃ n, n = P.n := ⟨_, rfl⟩
  rw [← hn] at c0
  have HI := Lib.hid hi
  have hi' : i < n := by omega
  have hp := h.lt _ q.inP
  have hsb := h.lt _ q.inS
  have hsb1 : q.sb < w.heap.size + 1 := by omega
  have hac := hs.atC
  have his := hs.is
  have H := Lib.hid h
  clear h hl hi hn hs
  cases hx : P.waits i with
  | some x =>
    have hl2 : (Instr.lookup 99 (.map (some q.mb)) (.int .i64 (i : Int)) true).run Tryz.prog (w.alloc (.cells (secC zeroS) 91)) = .ok (.tuple #[secV x, .bool true]) (w.alloc (.cells (secC zeroS) 91)) := by
      have := (H.out.alloc (.cells (secC zeroS) 91)).mp.look (t := 99) (e := 91) true Tryz.underlying99 (zero88 _) hwf
      rw [hm, hx] at this
      exact this
    have es : P.seen i = x := by unfold Pl.seen; rw [hx]; rfl
    rw [es]
    clear es hx hm
    go_enter Tryz.func46, Tryz.ntmps46
    go_wp2
    refine bodyPost_ret (res51 _ _ _ _ rfl) rfl ?_
    exact ⟨rfl, Below.step (Below.new _ _) (Below.new _ _)⟩
  | none =>
    have hl2 : (Instr.lookup 99 (.map (some q.mb)) (.int .i64 (i : Int)) true).run Tryz.prog (w.alloc (.cells (secC zeroS) 91)) = .ok (.tuple #[secV zeroS, .bool false]) (w.alloc (.cells (secC zeroS) 91)) := by
      have := (H.out.alloc (.cells (secC zeroS) 91)).mp.look (t := 99) (e := 91) true Tryz.underlying99 (zero88 _) hwf
      rw [hm, hx] at this
      exact this
    have es : P.seen i = P.stays i := by unfold Pl.seen; rw [hx]; rfl
    rw [es]
    clear es hx hm
    go_enter Tryz.func46, Tryz.ntmps46
    go_wp2
    refine bodyPost_ret (res51 _ _ _ _ rfl) rfl ?_
    exact ⟨rfl, Below.step (Below.new _ _) (Below.new _ _)⟩
theorem has_nz {P : Pl} {i : Int} (h : P.has i ≠ 0) : (P.has i != 0) = true := by simpa using h
/-- A sector's bytes in memory of their own, as a slice. -/
def BytesAt (w : World) (v : Value) (s : Sec) : Prop := ∃ g, v = .slice (some ⟨g, 0, none⟩) 64 64 ∧ w.heap[g]? = some (.cells (secC s) 91 (0, 0))
set_option maxRecDepth 10000 in
theorem read_ok (w : World) (q : PLoc) (P : Pl) (h : PlateAt w q P) (k : Nat) (hk : k < P.n) (hd : P.dead = false) : Calls Tryz.prog 15 #[pv q, .int .i64 k] w fun e w' => Below w.heap.size w w' ∧
    ∃ g, e = .returned (.tuple #[.slice (some ⟨g, 0, none⟩) 64 64, .int .i64 0]) ∧ w.heap.size ≤ g ∧ w'.heap[g]? = some (.cells (secC (P.seen k)) 91 (0, 0)) := by
  have hc := has_any w q P h k
  have h0 : P.has k = 0 := by unfold Pl.has; rw [hd, if_neg (by simp), if_neg (by omega)]
  have hs := seen_any w q P h k hk
  rw [h0] at hc
  have HC := Lib.hid hc
  have HS := Lib.hid hs
  clear hc hs h h0 hk hd
  go_enter Tryz.func15, Tryz.ntmps15
  go_wp2_with fail
  refine Calls.mono HC.out ?_
  rintro e w' ⟨rfl, rfl⟩
  go_wp2_with fail
  refine Calls.mono HS.out ?_
  rintro e w' ⟨rfl, hb⟩
  have HB := Lib.hid hb
  clear hb
  go_wp2
  refine bodyPost_ret (results_tmp2 rfl _ _ _) rfl ?_
  refine ⟨Below.step HB.out (Below.new _ _), _, rfl, HB.out.size, heap_alloc_new _ _⟩
theorem read_no (w : World) (q : PLoc) (P : Pl) (h : PlateAt w q P) (i : Int) (h0 : P.has i ≠ 0) : Calls Tryz.prog 15 #[pv q, .int .i64 i] w fun e w' => e = .returned (.tuple #[.slice none 0 0, .int .i64 (P.has i)]) ∧ w = w' := by
  have hc := has_any w q P h i
  have hq := has_nz h0
  obtain ⟨z, hz⟩ : ∃ z, z = P.has i := ⟨_, rfl⟩
  rw [← hz] at hc hq ⊢
  have HC := Lib.hid hc
  clear hc h hz h0
  go_enter Tryz.func15, Tryz.ntmps15
  go_wp2_with fail
  refine Calls.mono HC.out ?_
  rintro e w' ⟨rfl, rfl⟩
  go_wp2
  refine bodyPost_ret (results_tmp2 rfl _ _ _) rfl ?_
  exact ⟨rfl, rfl⟩
theorem size_any (w : World) (q : PLoc) (P : Pl) (h : PlateAt w q P) : Calls Tryz.prog 18 #[pv q] w fun e w' => e = .returned (.int .i64 P.n) ∧ w = w' := by
  have hc := may_any w q P h
  have c0 := h.c0
  have hq : (P.may == 1) = false := by unfold Pl.may; split <;> rfl
  obtain ⟨z, hz⟩ : ∃ z, z = P.may := ⟨_, rfl⟩
  rw [← hz] at hc hq
  have HC := Lib.hid hc
  clear hc h hz
  go_enter Tryz.func18, Tryz.ntmps18
  go_wp2_with fail
  refine Calls.mono HC.out ?_
  rintro e w' ⟨rfl, rfl⟩
  go_wp2
  go_ret
  exact ⟨rfl, rfl⟩
theorem dead_any (w : World) (q : PLoc) (P : Pl) (h : PlateAt w q P) : Calls Tryz.prog 27 #[pv q] w fun e w' => e = .returned (.bool P.dead) ∧ w = w' := by
  have hc := may_any w q P h
  have hq : (P.may == 50) = P.dead := by unfold Pl.may; cases P.dead <;> rfl
  obtain ⟨z, hz⟩ : ∃ z, z = P.may := ⟨_, rfl⟩
  rw [← hz] at hc hq
  rw [← hq]
  have HC := Lib.hid hc
  clear hc h hz hq
  go_enter Tryz.func27, Tryz.ntmps27
  go_wp2_with fail
  refine Calls.mono HC.out ?_
  rintro e w' ⟨rfl, rfl⟩
  go_wp2
  go_ret
  exact ⟨rfl, rfl⟩
theorem boot_any (w : World) (q : PLoc) (P : Pl) (h : PlateAt w q P) : Calls Tryz.prog 44 #[pv q] w fun e w' => e = .returned (.int .i64 0) ∧ PlateAt w' q P.boot ∧ Only q.R w w' := by
  have hc := may_any w q P h
  have hq : (P.may == 1) = false := by unfold Pl.may; split <;> rfl
  obtain ⟨z, hz⟩ : ∃ z, z = P.may := ⟨_, rfl⟩
  rw [← hz] at hc hq
  have c2 := h.c2
  have c3 := h.c3
  have f2 := h.fz 2
  have f3 := h.fz 3
  have HC := Lib.hid hc
  have H := Lib.hid h
  clear hc h hz
  go_enter Tryz.func44, Tryz.ntmps44
  go_wp2_with fail
  refine Calls.mono HC.out ?_
  rintro e w' ⟨rfl, rfl⟩
  go_wp2
  go_ret
  have h1 := H.out.setCell (i := 2) (v := .bool false) (by omega) { P with dead := false } rfl rfl rfl rfl ⟨H.out.ok.pos, H.out.ok.most, H.out.ok.waits, H.out.ok.left⟩ (by simp) (by simp) (by simp) (by simp)
  have h2 := h1.setCell (i := 3) (v := .bool false) (by omega) P.boot rfl rfl rfl rfl H.out.ok.boot (by simp [Pl.boot]) (by simp [Pl.boot]) (by simp [Pl.boot]) (by simp)
  exact ⟨rfl, h2, ((Only.refl _ _).setCell q.inP _).setCell q.inP _⟩
end Go.Proofs.YtdhidcoglioalaaGreat.Walks
namespace Go.Proofs.YtdhidcoglioalaaGreat.Walks
open Go.RowKit Plain
set_option linter.unusedVariables false

theorem Bools.at_lt {w : World} {a : Option Addr} {l : List Bool} (h : Bools w a l) {i : Nat} (hi : i < l.length) :
    ∃ b off, a = some ⟨b, off, none⟩ ∧ b < w.heap.size ∧ ∀ i (h : i < l.length), w.cell? ⟨b, off + i, none⟩ = some (.bool l[i]) := by
  rcases h.2 with rfl | ⟨b, off, e, hc⟩
  · simp at hi
  · exact ⟨b, off, e, block_lt_of_cell (hc i hi), hc⟩
/-- A slice of bools in memory of the call's own. -/
abbrev OwnBo (w : World) (base : Nat) (a : Option Addr) (l : List Bool) (cap : Nat) : Prop := w.ownsRow base 4 1 (.slice a l.length cap) l.length (l.map Value.bool)
theorem OwnBo.bools {w : World} {base : Nat} {a : Option Addr} {l : List Bool} {cap : Nat} (h : OwnBo w base a l cap) (hm : l.length ≤ 140737488355328) : Bools w a l ∧ ∀ ad, a = some ad → base ≤ ad.block := by
  obtain ⟨_, ⟨h1, h2⟩ | ⟨g, cap', cur, h1, hb, hg, hc, hmx, hs, ht⟩⟩ := h
  · have h0 := List.eq_nil_of_length_eq_zero h2
    simp only [Value.slice.injEq] at h1
    obtain ⟨rfl, _⟩ := h1
    exact ⟨⟨hm, .inl h0⟩, (fun _ e => by cases e)⟩
  · simp only [Value.slice.injEq] at h1
    obtain ⟨rfl, _, rfl⟩ := h1
    refine ⟨⟨hm, .inr ⟨g, 0, rfl, fun i hi => ?_⟩⟩, fun ad e => by cases e; exact hb⟩
    rw [cell_of_row _ _ _ _ _ _ hg]
    have ht' : cur.toList.take l.length = l.map Value.bool := by simpa using ht
    have := congrArg (fun z => z[i]?) ht'
    simp only [List.getElem?_take, hi, if_true, List.getElem?_map, List.getElem?_eq_getElem hi, Option.map_some] at this
    rw [Nat.zero_add, ← Array.getElem?_toList]
    exact this
theorem info4 : (Tryz.prog.info? 4).map (fun i => (i.zero, i.size, i.bytes)) = some (some (.bool false), 1, 1) := by kernel_rfl
theorem news_bools {w : World} {ad : Addr} {l : List Bool} (h : Bools w (some ad) l) : ∀ j u, (l.map Value.bool)[j]? = some u → w.cell? (ad.add j) = some u := by
  intro j u hj
  have hj' : j < l.length := by
    have := (List.getElem?_eq_some_iff.1 hj).1
    simpa using this
  obtain ⟨b, off, hh, _, hc⟩ := h.at_lt hj'
  cases hh
  rw [List.getElem?_map, List.getElem?_eq_getElem hj'] at hj
  simp at hj
  subst hj
  rw [Addr.add_mid]
  exact hc j hj'
theorem bools_one (l : List Bool) : ∀ u ∈ l.map Value.bool, u.oneCell' = true := by
  intro u hu; simp at hu; rcases hu with ⟨_, rfl⟩ | ⟨_, rfl⟩ <;> rfl
/-- append(v, l...), v the call's own and empty. -/
theorem wp_append_bools {w : World} {ops : Array Oper} {rest : List Oper} {o : Oper} {a : Act} {Q : Exit → Act → World → Prop} (hgd : o.guard = none) (s x : Operand)
    (ho : o.op = .call { callee := .builtin .append, args := #[s, x], argTypes := #[41, 41] }) (base : Nat) (v : Value) (hs : a.eval s = v) (hown : w.ownsRow base 4 1 v 0 [])
    (ad : Addr) (c : Nat) (l : List Bool) (n : Nat) (hln : l.length = n) (hx : a.eval x = .slice (some ad) n c) (hB : Bools w (some ad) l) (hbase : base ≤ w.heap.size)
    (h : ∀ a' cap' w', OwnBo w' base a' l cap' → w.grownBy w' v.ownBlock → wpList Tryz.prog ops Q rest (a.put o.dst (.slice a' n cap')) w') : wpList Tryz.prog ops Q (o :: rest) a w := by
  obtain ⟨i0, hi, hz0, hz1, hz2⟩ := info_parts info4
  subst hln
  have hm := hB.1
  refine wpList_append_own w hgd s x 41 ho base 4 i0 (.bool false) 1 1 Tryz.underlying41 hi hz0 hz1 hz2 rfl (by decide) v 0 [] hs hown ad l.length c (l.map Value.bool) hx (by simp) (news_bools hB) (bools_one _)
      (by unfold maxLen; omega) (by omega) hbase ?_
  intro v' w' h1 h2 h3
  rw [List.nil_append, Nat.zero_add] at h1
  have h1' := h1
  obtain ⟨_, ⟨e, h0⟩ | ⟨g, cap', cur, e, _⟩⟩ := h1'
  · subst e
    have := h none 0 w' (by rw [OwnBo, h0]; rw [h0] at h1; exact h1) h2
    rw [h0] at this
    exact this
  · subst e
    exact h _ _ w' h1 h2
theorem nil23 : ∀ (w : World) (a : Option Addr) (l c : Nat), (binOp .eql 41 (.slice a l c) (.slice none 0 0)).run Tryz.prog w = .ok (.bool a.isNone) w := fun w a l c => Lib.run_eql_slice_nil w 41 4 a l c 0 0 Tryz.underlying41
theorem ownsRowBo_empty (w : World) : (w.alloc (.cells #[] 4)).ownsRow w.heap.size 4 1 (.slice (some ⟨w.heap.size, 0, none⟩) 0 0) 0 [] :=
  ⟨by simp, .inr ⟨w.heap.size, 0, #[], rfl, Nat.le_refl _, heap_alloc_new _ _, Nat.le_refl _, by unfold maxLen; omega, rfl, rfl⟩⟩
def CloneBo (l : List Bool) (w : World) (e : Ending) (w' : World) : Prop := ∃ a' cap', e = .returned (.slice a' l.length cap') ∧ Bools w' a' l ∧ (∀ ad, a' = some ad → w.heap.size ≤ ad.block) ∧ Below w.heap.size w w'
theorem cloneBo_any (a : Option Addr) (cap : Nat) (l : List Bool) (w : World) (hI : Bools w a l) (hn : a = none → cap = 0) :
    Calls Tryz.prog 66 #[.slice a l.length cap] w (CloneBo l w) := by
  have hm := hI.1
  rcases Option.eq_none_or_eq_some a with rfl | ⟨ad, rfl⟩
  · have hc := hn rfl
    subst hc
    have hl : l = [] := by
      rcases hI.2 with h | ⟨b, off, h, _⟩
      · exact h
      · cases h
    subst hl
    clear hI hn
    have hnil := nil23
    go_enter Tryz.func66, Tryz.ntmps66
    go_wp2
    go_ret
    exact ⟨none, 0, rfl, Bools.nil _ _, (fun _ e => by cases e), Below.refl _ _⟩
  · have HI := Lib.hid hI
    clear hI hn
    have hnil := nil23
    go_enter Tryz.func66, Tryz.ntmps66
    go_wp2_with (first | (at_builtin; go_loud (refine wp_append_bools rfl (.tmp 5) (.tmp 6) rfl w.heap.size _ rfl (ownsRowBo_empty w) ad cap l l.length rfl rfl (HI.out.below (Below.new _ _)) (by simp) ?_)))
    intro a' cap' w' hown hg
    have HO := Lib.hid hown
    have HG := Lib.hid hg
    clear hown hg
    go_wp2
    go_ret
    obtain ⟨h1, h2⟩ := HO.out.bools hm
    exact ⟨a', cap', rfl, h1, h2, ((Below.new w _).grown HG.out (by simp) (by intro k hk; cases hk; exact Nat.le_refl _))⟩
end Go.Proofs.YtdhidcoglioalaaGreat.Walks
