/-
  Small lemmas on worlds, slices of ints and endings: what the walks of this seat share.
  Maps of the call's own with ints for keys: a map's block read as a function from ints to elements.
  A plate, in plain words.
-/
import Derived.Test.YtdhidcoglioalaaGreatRows
import Derived.WalkKit
import Derived.Lib.Hide
import Derived.Deep.RegionWith
import Derived.Deep.QuietTactic
import Derived.BigQuiet
import Derived.Deep.RegionHeld3
import Derived.Deep.MidRow
import Derived.Laws.Rows
import Derived.Laws.CopyOwn
import Derived.Laws.AppendOwnNone
import Derived.WalkSmall
import Derived.OpenShut
import Derived.Maps.Own
import Derived.Maps.OwnOps
import Derived.Maps.Views
import Derived.Maps.OwnSet
import Derived.Maps.Range
import Derived.Maps.RangeWalk
import Derived.Lib.SlKeysI
import Derived.DeepKeys4
namespace Go.Proofs.YtdhidcoglioalaaGreat.Walks
open Go.RowKit
set_option linter.unusedVariables false

theorem ret_int {k : IntKind} {a b : Int} (h : a = b) : Ending.returned (.int k a) = .returned (.int k b) := by rw [h]
theorem ret_bool {a b : Bool} (h : a = b) : Ending.returned (.bool a) = .returned (.bool b) := by rw [h]
theorem val_int {k : IntKind} {a b : Int} (h : a = b) : Value.int k a = .int k b := by rw [h]
theorem val_bool {a b : Bool} (h : a = b) : Value.bool a = .bool b := by rw [h]

theorem heap_alloc_lt {w : World} {o : Obj} {i : Nat} (h : i < w.heap.size) : (w.alloc o).heap[i]? = w.heap[i]? := by
  show (w.heap.push o)[i]? = w.heap[i]?
  rw [Array.getElem?_push, if_neg (Nat.ne_of_lt h)]
theorem lt_of_heap {w : World} {i : Nat} {o : Obj} (h : w.heap[i]? = some o) : i < w.heap.size := (Array.getElem?_eq_some_iff.1 h).1

/-- What an int is in memory. -/
def iv (n : Int) : Value := .int .i64 n

/-- Ints lie in memory. -/
def Ints (w : World) (a : Option Addr) (l : List Int) : Prop :=
  l.length ≤ 9223372036854775807 ∧ (l = [] ∨ ∃ b off, a = some ⟨b, off, none⟩ ∧ ∀ i (h : i < l.length), w.cell? ⟨b, off + i, none⟩ = some (.int .i64 l[i]))

theorem Ints.nil (w : World) (a : Option Addr) : Ints w a [] := ⟨by simp, .inl rfl⟩
theorem Ints.at_lt {w : World} {a : Option Addr} {l : List Int} (h : Ints w a l) {k : Nat} (hk : k < l.length) :
    ∃ b off, a = some ⟨b, off, none⟩ ∧ b < w.heap.size ∧ ∀ i (h : i < l.length), w.cell? ⟨b, off + i, none⟩ = some (.int .i64 l[i]) := by
  rcases h.2 with rfl | ⟨b, off, ha, hc⟩
  · simp at hk
  · exact ⟨b, off, ha, block_lt_of_cell (hc k hk), hc⟩
theorem Ints.below {w w' : World} {a : Option Addr} {l : List Int} (h : Ints w a l) (hb : Below w.heap.size w w') : Ints w' a l := by
  refine ⟨h.1, ?_⟩
  rcases h.2 with rfl | ⟨b, off, rfl, hc⟩
  · exact .inl rfl
  · exact .inr ⟨b, off, rfl, fun i hi => (hb.cell (by exact block_lt_of_cell (hc i hi))).trans (hc i hi)⟩
theorem Ints.drew {w : World} {a : Option Addr} {l : List Int} (h : Ints w a l) : Ints w.drew a l := h
theorem Ints.alloc {w : World} {a : Option Addr} {l : List Int} (h : Ints w a l) (o : Obj) : Ints (w.alloc o) a l :=
  h.below ((Below.refl _ _).alloc (Nat.le_refl _) _)
theorem Ints.take {w : World} {a : Option Addr} {l : List Int} (h : Ints w a l) (n : Nat) : Ints w a (l.take n) := by
  refine ⟨by have := h.1; simp; omega, ?_⟩
  rcases h.2 with rfl | ⟨b, off, rfl, hc⟩
  · simp
  · exact .inr ⟨b, off, rfl, fun i hi => by rw [hc i (by simp at hi; omega)]; simp⟩

theorem Below.step {w w1 w2 : World} (h : Below w.heap.size w w1) (h2 : Below w1.heap.size w1 w2) : Below w.heap.size w w2 := h.trans (h2.mono h.size)
theorem Below.new (w : World) (o : Obj) : Below w.heap.size w (w.alloc o) := (Below.refl _ _).alloc (Nat.le_refl _) _
/-- A cell that was there is as it was, behind a call that made memory alone. -/
theorem keepc {w w' : World} {p : Addr} {v : Value} (hb : Below w.heap.size w w') (c : w.cell? p = some v) : w'.cell? p = some v := (hb.cell (by exact block_lt_of_cell c)).trans c
theorem keepb {w w' : World} {B : Nat} {p : Addr} {v : Value} (hb : Below B w w') (hp : p.block < B) (c : w.cell? p = some v) : w'.cell? p = some v := (hb.cell hp).trans c
theorem keepf {w w' : World} {B : Nat} {p : Addr} {v : Bool} (hb : Below B w w') (hp : p.block < B) (c : w.frozen? p = v) : w'.frozen? p = v := (hb.frozen hp).trans c
theorem quiet_of_eq {P : Program} {f : FuncId} {args : Array Value} {w : World} {n : Nat} {v : Value}
    (h : Calls P f args (w.drewN n) fun e w' => e = .returned v ∧ w.drewN n = w') : Calls P f args (w.drewN n) fun e w'' => e = .returned v ∧ ∃ m, w'' = w.drewN m :=
  h.mono fun _ _ ⟨he, hm⟩ => ⟨he, n, hm.symm⟩
end Go.Proofs.YtdhidcoglioalaaGreat.Walks
namespace Go.Proofs.YtdhidcoglioalaaGreat.Walks
open Go.RowKit
open Go.Maps (Keyed IsMap)
open Go.WideElems (Fit rd rg rd_key rd_val rg_of)
open Go.MapKept Go.ChangeMaps
set_option linter.unusedVariables false

def Wf (n : Int) : Prop := (Lit.int .i64 n).wf = true
theorem Wf.of {n : Int} (h1 : -9223372036854775808 ≤ n) (h2 : n ≤ 9223372036854775807) : Wf n := WalkArith.wf_i64 ⟨h1, h2⟩
theorem int_key : Keyed Tryz.prog 3 := Go.Maps.int_keyed Tryz.underlying3
theorem keyOf_i {n : Int} (hn : Wf n) : keyOf Tryz.prog 3 (.int .i64 n) = some (.int .i64 n) := Go.Maps.keyOf_int_mk Tryz.underlying3 hn

open Classical in
/-- An element that is one reads as itself. -/
noncomputable def RE (E : Value → Prop) (v : Value) : Option (DataW (Option Value) × List MemPlace) := if E v then some (.held (some v), []) else none
theorem RE.of {E : Value → Prop} {v : Value} (h : E v) : RE E v = some (.held (some v), []) := if_pos h
theorem RE.inv {E : Value → Prop} {v : Value} {y : DataW (Option Value) × List MemPlace} (h : RE E v = some y) : E v ∧ y = (.held (some v), []) := by
  unfold RE at h
  split at h
  · rename_i hE
    exact ⟨hE, (Option.some.inj h).symm⟩
  · cases h

abbrev DM := DataW (Option Value)
/-- A datum that has elements alone. -/
def Held (E : Value → Prop) (D : DM) : Prop := ∃ es : List (Lit × DM), D = .map es ∧ es.Pairwise (fun p q => p.1 ≠ q.1) ∧ ∀ p ∈ es, (∃ x, p.1 = .int .i64 x ∧ Wf x) ∧ ∃ v, E v ∧ p.2 = .held (some v)
set_option maxRecDepth 100000 in
theorem held_of {E : Value → Prop} {w : World} {b n : Nat} {D : DM} (h : w.ownsMap Tryz.prog 3 (RE E) b n D) : Held E D := by
  have ht := h.tidy int_key
  obtain ⟨es, clock, hb, F, hs, rfl⟩ := h
  obtain ⟨es', e1, e2⟩ := ht
  cases e1
  refine ⟨_, rfl, e2, fun p hp => ?_⟩
  obtain ⟨x, hx, rfl⟩ := List.mem_map.1 (mem_sorted.1 hp)
  obtain ⟨y, hy⟩ := F.reads x hx
  rw [rg_of hy]
  obtain ⟨a, _, ha, hw⟩ := Maps.keyOf_i64 Tryz.underlying3 (rd_key hy)
  obtain ⟨z, hz, hy2⟩ := rd_val hy
  obtain ⟨hE, rfl⟩ := RE.inv hz
  exact ⟨⟨a, ha, hw⟩, _, hE, hy2⟩

/-- What the datum has at a key. -/
def atI (D : DM) (x : Int) : Option Value := match D.atKey (.int .i64 x) (.held none) with
  | .held o => o
  | _ => none
theorem same_int {x y : Int} : (Lit.int .i64 x).sameKey (.int .i64 y) = decide (x = y) := by simp [Lit.sameKey]
theorem atKey_find {es : List (Lit × DM)} {k : Lit} {z : DM} : (DataW.map es : DM).atKey k z = ((es.find? fun p => p.1.sameKey k).map (·.2)).getD z := by
  cases h : es.find? (fun p => p.1.sameKey k) <;> simp [DataW.atKey, h]
theorem Held.at {E : Value → Prop} {D : DM} (h : Held E D) (x : Int) : (Maps.has D (.int .i64 x) = true ∧ ∃ v, E v ∧ atI D x = some v ∧ ∀ z, D.atKey (.int .i64 x) z = .held (some v)) ∨
    (Maps.has D (.int .i64 x) = false ∧ atI D x = none ∧ ∀ z, D.atKey (.int .i64 x) z = z) := by
  obtain ⟨es, rfl, h1, h2⟩ := h
  unfold atI
  cases hf : es.find? (fun p => p.1.sameKey (.int .i64 x)) with
  | none =>
    refine .inr ⟨?_, ?_, fun z => ?_⟩
    · rw [Maps.has_eq]
      rw [List.find?_eq_none] at hf
      simpa using hf
    · rw [atKey_find, hf]; rfl
    · rw [atKey_find, hf]; rfl
  | some p =>
    have hp := List.mem_of_find?_eq_some hf
    have hk := List.find?_some hf
    obtain ⟨_, v, hE, hv⟩ := h2 p hp
    refine .inl ⟨?_, v, hE, ?_, fun z => ?_⟩
    · rw [Maps.has_eq]; exact List.any_eq_true.2 ⟨p, hp, hk⟩
    · rw [atKey_find, hf]; simp [hv]
    · rw [atKey_find, hf]; simp [hv]
theorem Held.has {E : Value → Prop} {D : DM} (h : Held E D) (x : Int) : Maps.has D (.int .i64 x) = (atI D x).isSome := by
  rcases h.at x with ⟨h1, v, _, h2, _⟩ | ⟨h1, h2, _⟩ <;> rw [h1, h2] <;> rfl
theorem Held.keys {E : Value → Prop} {D : DM} (h : Held E D) : (intKeys D).Nodup ∧ (∀ x, x ∈ intKeys D ↔ (atI D x).isSome = true) ∧ (intKeys D).length = Maps.size D := by
  have h' := h
  obtain ⟨es, rfl, h1, h2⟩ := h
  have hnd : (intKeys (.map es : DM)).Nodup := by
    refine List.pairwise_map.2 (h1.imp_of_mem fun {p q} hp hq hne e => hne ?_)
    obtain ⟨⟨a, ha, _⟩, _⟩ := h2 p hp
    obtain ⟨⟨b, hb, _⟩, _⟩ := h2 q hq
    rw [ha, hb] at e ⊢
    exact congrArg _ e
  refine ⟨hnd, fun x => ?_, by simp [intKeys, Maps.size]⟩
  rw [← h'.has, Maps.has_eq, List.any_eq_true]
  show x ∈ es.map (fun p => Go.intOf p.1) ↔ _
  rw [List.mem_map]
  constructor
  · rintro ⟨p, hp, rfl⟩
    obtain ⟨⟨a, ha, _⟩, _⟩ := h2 p hp
    exact ⟨p, hp, by rw [ha, same_int]; simp [Go.intOf]⟩
  · rintro ⟨p, hp, hs⟩
    obtain ⟨⟨a, ha, _⟩, _⟩ := h2 p hp
    rw [ha, same_int] at hs
    exact ⟨p, hp, by rw [ha]; simpa [Go.intOf] using hs⟩

/-- Block b is a map from ints to elements that reads as m. -/
def IM (E : Value → Prop) (w : World) (b : Nat) (m : Int → Option Value) : Prop := ∃ n D, w.ownsMap Tryz.prog 3 (RE E) b n D ∧ ∀ x, atI D x = m x
theorem IM.lt {E : Value → Prop} {w : World} {b : Nat} {m : Int → Option Value} (h : IM E w b m) : b < w.heap.size := by obtain ⟨n, D, h, _⟩ := h; exact h.lt
theorem IM.block {E : Value → Prop} {w w' : World} {b : Nat} {m : Int → Option Value} (h : IM E w b m) (hb : w'.heap[b]? = w.heap[b]?) : IM E w' b m := by
  obtain ⟨n, D, ⟨es, clock, h1, h2⟩, r⟩ := h
  exact ⟨n, D, ⟨es, clock, hb.trans h1, h2⟩, r⟩
theorem IM.nocell {E : Value → Prop} {w : World} {b : Nat} {m : Int → Option Value} (h : IM E w b m) (ad : Addr) (hb : ad.block = b) : w.cell? ad = none := by
  subst hb
  obtain ⟨n, D, ⟨es, clock, h1, h2⟩, r⟩ := h
  simp [World.cell?, h1]
theorem IM.new (E : Value → Prop) (w : World) : IM E (w.alloc (.map #[] 0)) w.heap.size (fun _ => none) :=
  ⟨0, .map [], World.ownsMap_made w Tryz.prog 3 (RE E), fun _ => rfl⟩
theorem IM.has {E : Value → Prop} {w : World} {b : Nat} {m : Int → Option Value} (h : IM E w b m) {x : Int} {v : Value} (hx : m x = some v) : E v := by
  obtain ⟨n, D, h1, h2⟩ := h
  rcases (held_of h1).at x with ⟨_, v', hE, hv, _⟩ | ⟨_, hv, _⟩
  · rw [h2, hx] at hv; cases hv; exact hE
  · rw [h2, hx] at hv; cases hv
/-- No more room than it needs. -/
theorem tight {E : Value → Prop} {w : World} {b n : Nat} {D : DM} (h : w.ownsMap Tryz.prog 3 (RE E) b n D) : w.ownsMap Tryz.prog 3 (RE E) b (Maps.size D) D := by
  obtain ⟨es, clock, hb, F, hs, rfl⟩ := h
  exact ⟨es, clock, hb, F, by rw [Maps.size_eq, length_sorted]; simp, rfl⟩
theorem nodup_bound : ∀ (n : Nat) (l : List Int), l.Nodup → (∀ x ∈ l, 0 ≤ x ∧ x < n) → l.length ≤ n := by
  intro n
  induction n with
  | zero =>
    intro l _ hb
    cases l with
    | nil => simp
    | cons x l => have := hb x (by simp); omega
  | succ n ih =>
    intro l hnd hb
    have h1 := ih (l.erase (n : Int)) (hnd.erase _) fun x hx => by
      obtain ⟨hne, hm⟩ := (List.Nodup.mem_erase_iff hnd).1 hx
      have := hb x hm
      omega
    have h2 := List.length_erase (a := (n : Int)) (l := l)
    split at h2 <;> omega

/-- What a lookup answers. -/
def lookRes (c : Bool) (z : Value) : Option Value → Value
  | some v => if c then .tuple #[v, .bool true] else v
  | none => if c then .tuple #[z, .bool false] else z
set_option maxRecDepth 100000 in
theorem IM.look {E : Value → Prop} {w : World} {t e : TypeId} {b : Nat} {m : Int → Option Value} (c : Bool) (h : IM E w b m) (ht : Tryz.prog.underlying t = some (.map 3 e)) {z : Value} (hz : (zeroValue e).run Tryz.prog w = .ok z w)
    {x : Int} (hx : Wf x) : (Instr.lookup t (.map (some b)) (.int .i64 x) c).run Tryz.prog w = .ok (lookRes c z (m x)) w := by
  obtain ⟨n, D, ho, hm⟩ := h
  have hh := held_of ho
  obtain ⟨es, clock, hb, F, _, rfl⟩ := ho
  rw [← hm x]
  rcases Maps.fit_look c int_key ht hz hb F (keyOf_i hx) with ⟨hrun, hno, hat⟩ | ⟨e0, y, _, _, hrun, hRv, hat, _⟩
  · rcases hh.at x with ⟨_, v, _, _, hv⟩ | ⟨_, hv, _⟩
    · have := (hat (.held none)).symm.trans (hv _)
      cases this
    · rw [hrun, hv]; cases c <;> rfl
  · obtain ⟨_, hy⟩ := RE.inv hRv
    rcases hh.at x with ⟨_, v, _, hv, hv'⟩ | ⟨_, _, hv'⟩
    · have := (hat (.held none)).symm.trans (hv' _)
      have e2 : y.1 = _ := congrArg Prod.fst hy
      simp only at e2
      rw [hrun, hv]
      have e3 : some e0.val = some v := by
        have h3 : (DataW.held (some e0.val) : DM) = .held (some v) := by first | exact e2.symm.trans this | (rw [← this]; exact e2.symm) | simp_all
        injection h3
      cases e3
      cases c <;> rfl
    · have h1 := hat (.held none)
      rw [hv'] at h1
      have h2 : y.1 = (DataW.held (some e0.val) : DM) := congrArg Prod.fst hy
      have h3 := h1.trans h2
      injection h3 with h4
      cases h4
/-- One more element. -/
def updI (f : Int → Option Value) (x : Int) (o : Option Value) : Int → Option Value := fun y => if y = x then o else f y
theorem put_at {E : Value → Prop} {D : DM} (h : Held E D) {x : Int} (v : Value) (hx : Wf x) (y : Int) : atI (D.put (.int .i64 x) (.held (some v))) y = updI (atI D) x (some v) y := by
  have hm : IsMap D := by obtain ⟨es, e, _⟩ := h; exact ⟨es, e⟩
  unfold updI
  by_cases e : y = x
  · rw [if_pos e, e]
    unfold atI
    rw [Maps.atKey_put_same hm (int_key.key (keyOf_i hx))]
  · rw [if_neg e]
    unfold atI
    rw [Maps.atKey_put_other (by simpa using e)]
theorem IM.store {E : Value → Prop} {w : World} {t e : TypeId} {b N : Nat} {m : Int → Option Value} (h : IM E w b m) (ht : Tryz.prog.underlying t = some (.map 3 e)) (hN : ∀ x, (m x).isSome = true → 0 ≤ x ∧ x < N) (hmax : N < maxLen) {x : Int} {v : Value}
    (hx : Wf x) (hv : E v) : ∃ w', (Instr.mapUpdate t (.map (some b)) (.int .i64 x) v).run Tryz.prog w = .ok () w' ∧ IM E w' b (updI m x (some v)) ∧ w.grownBy w' (some b) := by
  obtain ⟨n, D, ho, hm⟩ := h
  have hh := held_of ho
  obtain ⟨k1, k2, k3⟩ := hh.keys
  have hsz : Maps.size D ≤ N := by
    rw [← k3]
    exact nodup_bound _ _ k1 fun y hy => hN y (by rw [← hm y]; exact (k2 y).1 hy)
  obtain ⟨w', h1, h2, h3⟩ := (tight ho).update (val := v) (d := .held (some v)) (ps := []) int_key ht (by omega) (keyOf_i hx) (RE.of hv)
  exact ⟨w', h1, ⟨_, _, h2, fun y => by rw [put_at hh v hx]; unfold updI; rw [hm y]⟩, h3⟩
theorem IM.drop {E : Value → Prop} {w : World} {t e : TypeId} {b : Nat} {m : Int → Option Value} (h : IM E w b m) (ht : Tryz.prog.underlying t = some (.map 3 e)) {x : Int} (hx : Wf x) (ty : TypeId) :
    ∃ w', (Builtin.delete_ #[t, 3] ty #[.map (some b), .int .i64 x]).run Tryz.prog w = .ok (.tuple #[]) w' ∧ IM E w' b (updI m x none) ∧ w.grownBy w' (some b) := by
  obtain ⟨n, D, ho, hm⟩ := h
  obtain ⟨w', h1, h2, h3⟩ := ho.drop int_key ht (keyOf_i hx) ty
  refine ⟨w', h1, ⟨_, _, h2, fun y => ?_⟩, World.mapTurned.grown h3⟩
  unfold updI
  by_cases e : y = x
  · rw [if_pos e, e]
    unfold atI
    rw [Maps.atKey_del_same]
  · rw [if_neg e, ← hm y]
    unfold atI
    rw [Maps.atKey_del_other (by simpa using e)]
/-- clear. -/
theorem IM.clear {E : Value → Prop} {w : World} {t e : TypeId} {b : Nat} {m : Int → Option Value} (h : IM E w b m) (ht : Tryz.prog.underlying t = some (.map 3 e)) (ty : TypeId) :
    ∃ w', (Builtin.clear_ #[t] ty #[.map (some b)]).run Tryz.prog w = .ok (.tuple #[]) w' ∧ IM E w' b (fun _ => none) ∧ w.grownBy w' (some b) ∧ w'.heap.size = w.heap.size := by
  obtain ⟨n, D, ⟨es, clock, hb, F, hs, hD⟩, hm⟩ := h
  refine ⟨setBlock w b (.map #[] clock), ?_, ⟨0, .map [], ⟨#[], clock, heap_setBlock_same hb _, ⟨by simp, stamped_empty clock, by simp⟩, Nat.le_refl _, rfl⟩, fun _ => rfl⟩,
    ⟨rfl, rfl, rfl, by simp [setBlock], fun i _ hi => heap_setBlock_other hb _ (fun e => hi (by rw [e]))⟩, by simp [setBlock]⟩
  simp [Builtin.clear_, run_underlying ht, Go.MapKept.run_getObj_map hb, Go.MapKept.run_setObj_map _ hb, Result.andThen, setBlock]
end Go.Proofs.YtdhidcoglioalaaGreat.Walks
namespace Go.Proofs.YtdhidcoglioalaaGreat.Plain
abbrev Byte := BitVec 8
abbrev Sec := Nat → Byte
def byteV (b : Byte) : Value := .int .u8 (b.toNat : Int)
/-- A sector's cells. -/
def secL (s : Sec) : List Value := (List.range 64).map fun j => byteV (s j)
def secC (s : Sec) : Array Value := (secL s).toArray
/-- The bytes of a sector, and the sector of bytes. -/
def bytesOf (s : Sec) : List Byte := (List.range 64).map s
def secOf (l : List Byte) : Sec := fun j => l.getD j 0
def zeroS : Sec := fun _ => 0
theorem secL_length (s : Sec) : (secL s).length = 64 := by simp [secL]
theorem bytesOf_length (s : Sec) : (bytesOf s).length = 64 := by simp [bytesOf]
def upd {α : Type} (f : Nat → α) (i : Nat) (x : α) : Nat → α := fun j => if j = i then x else f j
theorem upd_same {α : Type} (f : Nat → α) (i : Nat) (x : α) : upd f i x i = x := if_pos rfl
theorem upd_other {α : Type} (f : Nat → α) {i j : Nat} (x : α) (h : j ≠ i) : upd f i x j = f j := if_neg h

structure Pl where
  n : Nat
  stays : Nat → Sec
  waits : Nat → Option Sec
  dead : Bool
  fails : Bool
  left : Int
  keep : List Bool

namespace Pl
def made (n : Nat) : Pl := ⟨n, fun _ => zeroS, fun _ => none, false, false, 0, []⟩
def seen (P : Pl) (i : Nat) : Sec := (P.waits i).getD (P.stays i)
def rank (P : Pl) (i : Nat) : Nat := ((List.range i).filter fun j => (P.waits j).isSome).length
def ws (P : Pl) : List Nat := (List.range P.n).filter fun j => (P.waits j).isSome
def goneAt (P : Pl) (keep : List Bool) (i : Nat) : Sec :=
  match P.waits i with
  | some x => if keep.getD (P.rank i) false then x else P.stays i
  | none => P.stays i
def gone (P : Pl) (keep : List Bool) : Pl := { P with stays := P.goneAt keep, waits := fun _ => none, dead := true, fails := false }
/-- Does the power go in a doing's stead; the plate behind it. -/
def goes (P : Pl) : Bool := P.fails && !decide (0 < P.left)
def did (P : Pl) : Pl := if P.fails then (if 0 < P.left then { P with left := P.left - 1 } else P.gone P.keep) else P
def may (P : Pl) : Int := if P.dead then 50 else 0
def has (P : Pl) (i : Int) : Int := if P.dead then 50 else if i < 0 ∨ (P.n : Int) ≤ i then 9 else 0
def writeE (P : Pl) (i : Int) (b : List Byte) : Int := if P.has i ≠ 0 then P.has i else if b.length ≠ 64 then 2 else if P.goes then 50 else 0
def write (P : Pl) (i : Int) (b : List Byte) : Pl :=
  if P.has i ≠ 0 then P else if b.length ≠ 64 then P else if P.goes then P.did else { P.did with waits := upd P.did.waits i.toNat (some (secOf b)) }
def flushE (P : Pl) : Int := if P.dead then 50 else if P.goes then 50 else 0
def settled (P : Pl) : Pl := { P with stays := P.seen, waits := fun _ => none }
def flush (P : Pl) : Pl := if P.dead then P else if P.goes then P.did else P.did.settled
def failed (P : Pl) (n : Int) (keep : List Bool) : Pl := { P with fails := decide (0 ≤ n), left := n, keep := keep }
def fail (P : Pl) (n : Int) (keep : List Bool) : Pl := if P.dead then P else P.failed n keep
def crash (P : Pl) (keep : List Bool) : Pl := if P.dead then P else P.gone keep
def boot (P : Pl) : Pl := { P with dead := false, fails := false }
/-- A sector of which a bit is turned. -/
def flip (s : Sec) (bit : Nat) : Sec := upd s (bit / 8) (s (bit / 8) ^^^ (1#8 <<< (bit % 8)))
def turnE (P : Pl) (i bit : Int) : Int := if P.has i ≠ 0 then P.has i else if bit < 0 ∨ 512 ≤ bit then 9 else 0
def turned (P : Pl) (i bit : Nat) : Pl := { P with stays := upd P.stays i (flip (P.seen i) bit), waits := upd P.waits i none }
def turn (P : Pl) (i bit : Int) : Pl := if P.turnE i bit ≠ 0 then P else P.turned i.toNat bit.toNat
/-- What is so of each plate: only its sectors wait. -/
structure Ok (P : Pl) : Prop where
  pos : 0 < P.n
  most : P.n ≤ 4096
  waits : ∀ i, P.n ≤ i → P.waits i = none
  left : -9223372036854775808 ≤ P.left ∧ P.left ≤ 9223372036854775807
theorem Ok.gone {P : Pl} (h : P.Ok) (keep : List Bool) : (P.gone keep).Ok := ⟨h.pos, h.most, fun _ _ => rfl, h.left⟩
theorem Ok.did {P : Pl} (h : P.Ok) : P.did.Ok := by
  unfold Pl.did
  split
  · split
    · exact ⟨h.pos, h.most, h.waits, by have := h.left; show _ ≤ P.left - 1 ∧ P.left - 1 ≤ _; omega⟩
    · exact h.gone _
  · exact h
theorem did_n (P : Pl) : P.did.n = P.n := by
  unfold Pl.did
  split
  · split <;> rfl
  · rfl
theorem Ok.settled {P : Pl} (h : P.Ok) : P.settled.Ok := ⟨h.pos, h.most, fun _ _ => rfl, h.left⟩
theorem Ok.failed {P : Pl} (h : P.Ok) {n : Int} {keep : List Bool} (hn : -9223372036854775808 ≤ n ∧ n ≤ 9223372036854775807) : (P.failed n keep).Ok := ⟨h.pos, h.most, h.waits, hn⟩
theorem Ok.boot {P : Pl} (h : P.Ok) : P.boot.Ok := ⟨h.pos, h.most, h.waits, h.left⟩
theorem Ok.put {P : Pl} (h : P.Ok) {i : Nat} (hi : i < P.n) (s : Sec) : ({ P with waits := upd P.waits i (some s) } : Pl).Ok :=
  ⟨h.pos, h.most, fun j hj => by show upd P.waits i (some s) j = none; rw [upd_other _ _ (by have : P.n ≤ j := hj; omega)]; exact h.waits j hj, h.left⟩
theorem Ok.turned {P : Pl} (h : P.Ok) (i bit : Nat) : (P.turned i bit).Ok :=
  ⟨h.pos, h.most, fun j hj => by
    show upd P.waits i none j = none
    by_cases e : j = i
    · rw [e, upd_same]
    · rw [upd_other _ _ e]; exact h.waits j hj, h.left⟩
theorem ok_made {n : Nat} (h : 0 < n) (h' : n ≤ 4096) : (made n).Ok := ⟨h, h', fun _ _ => rfl, by show (-9223372036854775808 : Int) ≤ 0 ∧ (0 : Int) ≤ 9223372036854775807; decide⟩
theorem has_zero {P : Pl} {i : Int} (h : P.has i = 0) : P.dead = false ∧ 0 ≤ i ∧ i < P.n := by
  unfold Pl.has at h
  split at h
  · cases h
  · rename_i hd
    split at h
    · cases h
    · rename_i hr
      refine ⟨by simpa using hd, ?_, ?_⟩ <;> omega
theorem ok_write {P : Pl} (h : P.Ok) (i : Int) (b : List Byte) : (P.write i b).Ok := by
  unfold Pl.write
  split
  · exact h
  · rename_i h0
    have h1 := has_zero (Classical.not_not.1 h0)
    split
    · exact h
    · split
      · exact h.did
      · exact h.did.put (by rw [did_n]; omega) _
theorem ok_flush {P : Pl} (h : P.Ok) : P.flush.Ok := by
  unfold Pl.flush
  split
  · exact h
  · split
    · exact h.did
    · exact h.did.settled
theorem ok_turn {P : Pl} (h : P.Ok) (i bit : Int) : (P.turn i bit).Ok := by
  unfold Pl.turn
  split
  · exact h
  · exact h.turned _ _
theorem ok_crash {P : Pl} (h : P.Ok) (keep : List Bool) : (P.crash keep).Ok := by
  unfold Pl.crash
  split
  · exact h
  · exact h.gone _
theorem ok_fail {P : Pl} (h : P.Ok) {n : Int} (keep : List Bool) (hn : -9223372036854775808 ≤ n ∧ n ≤ 9223372036854775807) : (P.fail n keep).Ok := by
  unfold Pl.fail
  split
  · exact h
  · exact h.failed hn

/-! ### The sorted keys -/
theorem rank_succ (P : Pl) (i : Nat) : P.rank (i + 1) = P.rank i + (if (P.waits i).isSome then 1 else 0) := by
  unfold rank
  rw [List.range_succ, List.filter_append, List.length_append]
  by_cases h : (P.waits i).isSome <;> simp [h]
theorem rank_mono (P : Pl) {i j : Nat} (h : i ≤ j) : P.rank i ≤ P.rank j := by
  induction h with
  | refl => exact Nat.le_refl _
  | step _ ih => rw [rank_succ]; omega
theorem ws_length (P : Pl) : P.ws.length = P.rank P.n := rfl
/-- The sector at a place of those that wait has so many ahead of it. -/
theorem ws_rank (P : Pl) : ∀ (n : Nat) (k : Nat) (hk : k < ((List.range n).filter fun j => (P.waits j).isSome).length), 
    P.rank (((List.range n).filter fun j => (P.waits j).isSome)[k]) = k ∧ (P.waits (((List.range n).filter fun j => (P.waits j).isSome)[k])).isSome = true ∧ ((List.range n).filter fun j => (P.waits j).isSome)[k] < n := by
  intro n
  induction n with
  | zero => intro k hk; simp at hk
  | succ n ih =>
    intro k hk
    have hs : (List.range (n + 1)).filter (fun j => (P.waits j).isSome) = (List.range n).filter (fun j => (P.waits j).isSome) ++ (if (P.waits n).isSome then [n] else []) := by
      rw [List.range_succ, List.filter_append]
      by_cases h : (P.waits n).isSome <;> simp [h]
    have hk' := hk
    rw [hs, List.length_append] at hk'
    by_cases hlt : k < ((List.range n).filter fun j => (P.waits j).isSome).length
    · have e : ((List.range (n + 1)).filter fun j => (P.waits j).isSome)[k] = ((List.range n).filter fun j => (P.waits j).isSome)[k] := by
        simp only [hs]
        rw [List.getElem_append_left hlt]
      rw [e]
      obtain ⟨h1, h2, h3⟩ := ih k hlt
      exact ⟨h1, h2, by omega⟩
    · by_cases hw : (P.waits n).isSome
      · simp only [hw, if_true, List.length_cons, List.length_nil] at hk'
        have ek : k = ((List.range n).filter fun j => (P.waits j).isSome).length := by omega
        have e : ((List.range (n + 1)).filter fun j => (P.waits j).isSome)[k] = n := by
          simp only [hs]
          rw [List.getElem_append_right (by omega)]
          simp [hw]
        rw [e]
        exact ⟨ek.symm, hw, by omega⟩
      · simp [hw] at hk'
        omega
theorem ws_at (P : Pl) {k : Nat} (hk : k < P.ws.length) : P.rank (P.ws[k]) = k ∧ (P.waits (P.ws[k])).isSome = true ∧ P.ws[k] < P.n := ws_rank P P.n k hk
theorem rank_lt {P : Pl} {i j : Nat} (h : i < j) (hi : (P.waits i).isSome = true) : P.rank i < P.rank j := by
  have h1 := rank_succ P i
  rw [if_pos hi] at h1
  have h2 := rank_mono P (show i + 1 ≤ j from h)
  omega
theorem rank_inj {P : Pl} {i j : Nat} (hi : (P.waits i).isSome = true) (hj : (P.waits j).isSome = true) (h : P.rank i = P.rank j) : i = j := by
  rcases Nat.lt_trichotomy i j with h' | h' | h'
  · have := rank_lt h' hi; omega
  · exact h'
  · have := rank_lt h' hj; omega
/-- The stays, when so many of those that wait have been looked at. -/
def midS (P : Pl) (keep : List Bool) (k : Nat) (i : Nat) : Sec := if P.rank i < k then P.goneAt keep i else P.stays i
theorem midS_zero (P : Pl) (keep : List Bool) : P.midS keep 0 = P.stays := by funext i; simp [midS]
theorem midS_keep (P : Pl) (keep : List Bool) {k : Nat} (hk : k < P.ws.length) (h : keep.getD k false = true) : P.midS keep (k + 1) = upd (P.midS keep k) (P.ws[k]) ((P.waits (P.ws[k])).getD zeroS) := by
  obtain ⟨h1, h2, h3⟩ := ws_at P hk
  funext i
  by_cases e : i = P.ws[k]
  · subst e
    rw [upd_same]
    unfold midS
    rw [if_pos (by omega)]
    unfold goneAt
    obtain ⟨x, hx⟩ := Option.isSome_iff_exists.1 h2
    rw [hx, h1, h]
    rfl
  · rw [upd_other _ _ e]
    unfold midS
    by_cases hr : P.rank i < k
    · rw [if_pos hr, if_pos (by omega)]
    · rw [if_neg hr]
      by_cases hr' : P.rank i < k + 1
      · rw [if_pos hr']
        unfold goneAt
        cases hw : P.waits i with
        | none => rfl
        | some x => exact absurd (rank_inj (by rw [hw]; rfl) h2 (by omega)) e
      · rw [if_neg hr']
theorem midS_drop (P : Pl) (keep : List Bool) {k : Nat} (hk : k < P.ws.length) (h : keep.getD k false = false) : P.midS keep (k + 1) = P.midS keep k := by
  obtain ⟨h1, h2, h3⟩ := ws_at P hk
  funext i
  unfold midS
  by_cases hr : P.rank i < k
  · rw [if_pos hr, if_pos (by omega)]
  · rw [if_neg hr]
    by_cases hr' : P.rank i < k + 1
    · rw [if_pos hr']
      have er : P.rank i = k := by omega
      unfold goneAt
      cases hw : P.waits i with
      | none => rfl
      | some x => simp only [er, h]; rfl
    · rw [if_neg hr']
/-- The end: it does not matter what stays beyond the plate. -/
theorem midS_end (P : Pl) (keep : List Bool) {i : Nat} (hi : i < P.n) : P.midS keep P.ws.length i = P.goneAt keep i := by
  unfold midS
  by_cases h : P.rank i < P.ws.length
  · rw [if_pos h]
  · rw [if_neg h]
    unfold goneAt
    cases hw : P.waits i with
    | none => rfl
    | some x =>
      have := rank_lt (P := P) hi (by rw [hw]; rfl)
      rw [ws_length] at h
      omega
end Pl
end Go.Proofs.YtdhidcoglioalaaGreat.Plain
