/-
  Maps of the call's own with ints for keys: a map's block read as a function from ints to elements.
-/
import Derived.Test.YtdhidcoglioalaaRows
import Derived.Maps.Own
import Derived.Maps.OwnOps
import Derived.Maps.Views
import Derived.Maps.OwnSet
import Derived.Maps.Range
import Derived.Maps.RangeWalk
import Derived.Lib.SlKeysI
import Derived.DeepKeys4
import Derived.WalkKit
namespace Go.Proofs.Ytdhidcoglioalaa.Walks
open Go.RowKit
open Go.Maps (Keyed IsMap)
open Go.WideElems (Fit rd rg rd_key rd_val rg_of)
open Go.MapKept Go.ChangeMaps
set_option linter.unusedVariables false

def Wf (n : Int) : Prop := (Lit.int .i64 n).wf = true
theorem Wf.of {n : Int} (h1 : -9223372036854775808 ≤ n) (h2 : n ≤ 9223372036854775807) : Wf n := WalkArith.wf_i64 ⟨h1, h2⟩
theorem int_key : Keyed Try.prog 3 := Go.Maps.int_keyed Try.underlying3
theorem keyOf_i {n : Int} (hn : Wf n) : keyOf Try.prog 3 (.int .i64 n) = some (.int .i64 n) := Go.Maps.keyOf_int_mk Try.underlying3 hn

open Classical in
/-- An element that is one reads as itself. -/
noncomputable def RE (E : Value → Prop) (v : Value) : Option (DataW (Option Value) × List MemPlace) := if E v then some (.held (some v), []) else none
theorem RE.of {E : Value → Prop} {v : Value} (h : E v) : RE E v = some (.held (some v), []) := if_pos h
theorem RE.inv {E : Value → Prop} {v : Value} {y : DataW (Option Value) × List MemPlace} (h : RE E v = some y) : E v ∧ y = (.held (some v), []) := by
  unfold RE at h
  split at h
  · rename_i hE
    exact ⟨hE, (Option.some.inj h).symm⟩
  · cases h

abbrev DM := DataW (Option Value)
/-- A datum that has elements alone. -/
def Held (E : Value → Prop) (D : DM) : Prop := ∃ es : List (Lit × DM), D = .map es ∧ es.Pairwise (fun p q => p.1 ≠ q.1) ∧ ∀ p ∈ es, (∃ x, p.1 = .int .i64 x ∧ Wf x) ∧ ∃ v, E v ∧ p.2 = .held (some v)
set_option maxRecDepth 100000 in
theorem held_of {E : Value → Prop} {w : World} {b n : Nat} {D : DM} (h : w.ownsMap Try.prog 3 (RE E) b n D) : Held E D := by
  have ht := h.tidy int_key
  obtain ⟨es, clock, hb, F, hs, rfl⟩ := h
  obtain ⟨es', e1, e2⟩ := ht
  cases e1
  refine ⟨_, rfl, e2, fun p hp => ?_⟩
  obtain ⟨x, hx, rfl⟩ := List.mem_map.1 (mem_sorted.1 hp)
  obtain ⟨y, hy⟩ := F.reads x hx
  rw [rg_of hy]
  obtain ⟨a, _, ha, hw⟩ := Maps.keyOf_i64 Try.underlying3 (rd_key hy)
  obtain ⟨z, hz, hy2⟩ := rd_val hy
  obtain ⟨hE, rfl⟩ := RE.inv hz
  exact ⟨⟨a, ha, hw⟩, _, hE, hy2⟩

/-- What the datum has at a key. -/
def atI (D : DM) (x : Int) : Option Value := match D.atKey (.int .i64 x) (.held none) with
  | .held o => o
  | _ => none
theorem same_int {x y : Int} : (Lit.int .i64 x).sameKey (.int .i64 y) = decide (x = y) := by simp [Lit.sameKey]
theorem atKey_find {es : List (Lit × DM)} {k : Lit} {z : DM} : (DataW.map es : DM).atKey k z = ((es.find? fun p => p.1.sameKey k).map (·.2)).getD z := by
  cases h : es.find? (fun p => p.1.sameKey k) <;> simp [DataW.atKey, h]
theorem Held.at {E : Value → Prop} {D : DM} (h : Held E D) (x : Int) : (Maps.has D (.int .i64 x) = true ∧ ∃ v, E v ∧ atI D x = some v ∧ ∀ z, D.atKey (.int .i64 x) z = .held (some v)) ∨
    (Maps.has D (.int .i64 x) = false ∧ atI D x = none ∧ ∀ z, D.atKey (.int .i64 x) z = z) := by
  obtain ⟨es, rfl, h1, h2⟩ := h
  unfold atI
  cases hf : es.find? (fun p => p.1.sameKey (.int .i64 x)) with
  | none =>
    refine .inr ⟨?_, ?_, fun z => ?_⟩
    · rw [Maps.has_eq]
      rw [List.find?_eq_none] at hf
      simpa using hf
    · rw [atKey_find, hf]; rfl
    · rw [atKey_find, hf]; rfl
  | some p =>
    have hp := List.mem_of_find?_eq_some hf
    have hk := List.find?_some hf
    obtain ⟨_, v, hE, hv⟩ := h2 p hp
    refine .inl ⟨?_, v, hE, ?_, fun z => ?_⟩
    · rw [Maps.has_eq]; exact List.any_eq_true.2 ⟨p, hp, hk⟩
    · rw [atKey_find, hf]; simp [hv]
    · rw [atKey_find, hf]; simp [hv]
theorem Held.has {E : Value → Prop} {D : DM} (h : Held E D) (x : Int) : Maps.has D (.int .i64 x) = (atI D x).isSome := by
  rcases h.at x with ⟨h1, v, _, h2, _⟩ | ⟨h1, h2, _⟩ <;> rw [h1, h2] <;> rfl
theorem Held.keys {E : Value → Prop} {D : DM} (h : Held E D) : (intKeys D).Nodup ∧ (∀ x, x ∈ intKeys D ↔ (atI D x).isSome = true) ∧ (intKeys D).length = Maps.size D := by
  have h' := h
  obtain ⟨es, rfl, h1, h2⟩ := h
  have hnd : (intKeys (.map es : DM)).Nodup := by
    refine List.pairwise_map.2 (h1.imp_of_mem fun {p q} hp hq hne e => hne ?_)
    obtain ⟨⟨a, ha, _⟩, _⟩ := h2 p hp
    obtain ⟨⟨b, hb, _⟩, _⟩ := h2 q hq
    rw [ha, hb] at e ⊢
    exact congrArg _ e
  refine ⟨hnd, fun x => ?_, by simp [intKeys, Maps.size]⟩
  rw [← h'.has, Maps.has_eq, List.any_eq_true]
  show x ∈ es.map (fun p => Go.intOf p.1) ↔ _
  rw [List.mem_map]
  constructor
  · rintro ⟨p, hp, rfl⟩
    obtain ⟨⟨a, ha, _⟩, _⟩ := h2 p hp
    exact ⟨p, hp, by rw [ha, same_int]; simp [Go.intOf]⟩
  · rintro ⟨p, hp, hs⟩
    obtain ⟨⟨a, ha, _⟩, _⟩ := h2 p hp
    rw [ha, same_int] at hs
    exact ⟨p, hp, by rw [ha]; simpa [Go.intOf] using hs⟩

/-- Block b is a map from ints to elements that reads as m. -/
def IM (E : Value → Prop) (w : World) (b : Nat) (m : Int → Option Value) : Prop := ∃ n D, w.ownsMap Try.prog 3 (RE E) b n D ∧ ∀ x, atI D x = m x
theorem IM.lt {E : Value → Prop} {w : World} {b : Nat} {m : Int → Option Value} (h : IM E w b m) : b < w.heap.size := by obtain ⟨n, D, h, _⟩ := h; exact h.lt
theorem IM.block {E : Value → Prop} {w w' : World} {b : Nat} {m : Int → Option Value} (h : IM E w b m) (hb : w'.heap[b]? = w.heap[b]?) : IM E w' b m := by
  obtain ⟨n, D, ⟨es, clock, h1, h2⟩, r⟩ := h
  exact ⟨n, D, ⟨es, clock, hb.trans h1, h2⟩, r⟩
theorem IM.nocell {E : Value → Prop} {w : World} {b : Nat} {m : Int → Option Value} (h : IM E w b m) (ad : Addr) (hb : ad.block = b) : w.cell? ad = none := by
  subst hb
  obtain ⟨n, D, ⟨es, clock, h1, h2⟩, r⟩ := h
  simp [World.cell?, h1]
theorem IM.new (E : Value → Prop) (w : World) : IM E (w.alloc (.map #[] 0)) w.heap.size (fun _ => none) :=
  ⟨0, .map [], World.ownsMap_made w Try.prog 3 (RE E), fun _ => rfl⟩
theorem IM.has {E : Value → Prop} {w : World} {b : Nat} {m : Int → Option Value} (h : IM E w b m) {x : Int} {v : Value} (hx : m x = some v) : E v := by
  obtain ⟨n, D, h1, h2⟩ := h
  rcases (held_of h1).at x with ⟨_, v', hE, hv, _⟩ | ⟨_, hv, _⟩
  · rw [h2, hx] at hv; cases hv; exact hE
  · rw [h2, hx] at hv; cases hv
/-- No more room than it needs. -/
theorem tight {E : Value → Prop} {w : World} {b n : Nat} {D : DM} (h : w.ownsMap Try.prog 3 (RE E) b n D) : w.ownsMap Try.prog 3 (RE E) b (Maps.size D) D := by
  obtain ⟨es, clock, hb, F, hs, rfl⟩ := h
  exact ⟨es, clock, hb, F, by rw [Maps.size_eq, length_sorted]; simp, rfl⟩
theorem nodup_bound : ∀ (n : Nat) (l : List Int), l.Nodup → (∀ x ∈ l, 0 ≤ x ∧ x < n) → l.length ≤ n := by
  intro n
  induction n with
  | zero =>
    intro l _ hb
    cases l with
    | nil => simp
    | cons x l => have := hb x (by simp); omega
  | succ n ih =>
    intro l hnd hb
    have h1 := ih (l.erase (n : Int)) (hnd.erase _) fun x hx => by
      obtain ⟨hne, hm⟩ := (List.Nodup.mem_erase_iff hnd).1 hx
      have := hb x hm
      omega
    have h2 := List.length_erase (a := (n : Int)) (l := l)
    split at h2 <;> omega

/-- What a lookup answers. -/
def lookRes (c : Bool) (z : Value) : Option Value → Value
  | some v => if c then .tuple #[v, .bool true] else v
  | none => if c then .tuple #[z, .bool false] else z
set_option maxRecDepth 100000 in
theorem IM.look {E : Value → Prop} {w : World} {t e : TypeId} {b : Nat} {m : Int → Option Value} (c : Bool) (h : IM E w b m) (ht : Try.prog.underlying t = some (.map 3 e)) {z : Value} (hz : (zeroValue e).run Try.prog w = .ok z w)
    {x : Int} (hx : Wf x) : (Instr.lookup t (.map (some b)) (.int .i64 x) c).run Try.prog w = .ok (lookRes c z (m x)) w := by
  obtain ⟨n, D, ho, hm⟩ := h
  have hh := held_of ho
  obtain ⟨es, clock, hb, F, _, rfl⟩ := ho
  rw [← hm x]
  rcases Maps.fit_look c int_key ht hz hb F (keyOf_i hx) with ⟨hrun, hno, hat⟩ | ⟨e0, y, _, _, hrun, hRv, hat, _⟩
  · rcases hh.at x with ⟨_, v, _, _, hv⟩ | ⟨_, hv, _⟩
    · have := (hat (.held none)).symm.trans (hv _)
      cases this
    · rw [hrun, hv]; cases c <;> rfl
  · obtain ⟨_, hy⟩ := RE.inv hRv
    rcases hh.at x with ⟨_, v, _, hv, hv'⟩ | ⟨_, _, hv'⟩
    · have := (hat (.held none)).symm.trans (hv' _)
      have e2 : y.1 = _ := congrArg Prod.fst hy
      simp only at e2
      rw [hrun, hv]
      have e3 : some e0.val = some v := by
        have h3 : (DataW.held (some e0.val) : DM) = .held (some v) := by first | exact e2.symm.trans this | (rw [← this]; exact e2.symm) | simp_all
        injection h3
      cases e3
      cases c <;> rfl
    · have h1 := hat (.held none)
      rw [hv'] at h1
      have h2 : y.1 = (DataW.held (some e0.val) : DM) := congrArg Prod.fst hy
      have h3 := h1.trans h2
      injection h3 with h4
      cases h4
/-- One more element. -/
def updI (f : Int → Option Value) (x : Int) (o : Option Value) : Int → Option Value := fun y => if y = x then o else f y
theorem put_at {E : Value → Prop} {D : DM} (h : Held E D) {x : Int} (v : Value) (hx : Wf x) (y : Int) : atI (D.put (.int .i64 x) (.held (some v))) y = updI (atI D) x (some v) y := by
  have hm : IsMap D := by obtain ⟨es, e, _⟩ := h; exact ⟨es, e⟩
  unfold updI
  by_cases e : y = x
  · rw [if_pos e, e]
    unfold atI
    rw [Maps.atKey_put_same hm (int_key.key (keyOf_i hx))]
  · rw [if_neg e]
    unfold atI
    rw [Maps.atKey_put_other (by simpa using e)]
theorem IM.store {E : Value → Prop} {w : World} {t e : TypeId} {b N : Nat} {m : Int → Option Value} (h : IM E w b m) (ht : Try.prog.underlying t = some (.map 3 e)) (hN : ∀ x, (m x).isSome = true → 0 ≤ x ∧ x < N) (hmax : N < maxLen) {x : Int} {v : Value}
    (hx : Wf x) (hv : E v) : ∃ w', (Instr.mapUpdate t (.map (some b)) (.int .i64 x) v).run Try.prog w = .ok () w' ∧ IM E w' b (updI m x (some v)) ∧ w.grownBy w' (some b) := by
  obtain ⟨n, D, ho, hm⟩ := h
  have hh := held_of ho
  obtain ⟨k1, k2, k3⟩ := hh.keys
  have hsz : Maps.size D ≤ N := by
    rw [← k3]
    exact nodup_bound _ _ k1 fun y hy => hN y (by rw [← hm y]; exact (k2 y).1 hy)
  obtain ⟨w', h1, h2, h3⟩ := (tight ho).update (val := v) (d := .held (some v)) (ps := []) int_key ht (by omega) (keyOf_i hx) (RE.of hv)
  exact ⟨w', h1, ⟨_, _, h2, fun y => by rw [put_at hh v hx]; unfold updI; rw [hm y]⟩, h3⟩
theorem IM.drop {E : Value → Prop} {w : World} {t e : TypeId} {b : Nat} {m : Int → Option Value} (h : IM E w b m) (ht : Try.prog.underlying t = some (.map 3 e)) {x : Int} (hx : Wf x) (ty : TypeId) :
    ∃ w', (Builtin.delete_ #[t, 3] ty #[.map (some b), .int .i64 x]).run Try.prog w = .ok (.tuple #[]) w' ∧ IM E w' b (updI m x none) ∧ w.grownBy w' (some b) := by
  obtain ⟨n, D, ho, hm⟩ := h
  obtain ⟨w', h1, h2, h3⟩ := ho.drop int_key ht (keyOf_i hx) ty
  refine ⟨w', h1, ⟨_, _, h2, fun y => ?_⟩, World.mapTurned.grown h3⟩
  unfold updI
  by_cases e : y = x
  · rw [if_pos e, e]
    unfold atI
    rw [Maps.atKey_del_same]
  · rw [if_neg e, ← hm y]
    unfold atI
    rw [Maps.atKey_del_other (by simpa using e)]
/-- clear. -/
theorem IM.clear {E : Value → Prop} {w : World} {t e : TypeId} {b : Nat} {m : Int → Option Value} (h : IM E w b m) (ht : Try.prog.underlying t = some (.map 3 e)) (ty : TypeId) :
    ∃ w', (Builtin.clear_ #[t] ty #[.map (some b)]).run Try.prog w = .ok (.tuple #[]) w' ∧ IM E w' b (fun _ => none) ∧ w.grownBy w' (some b) ∧ w'.heap.size = w.heap.size := by
  obtain ⟨n, D, ⟨es, clock, hb, F, hs, hD⟩, hm⟩ := h
  refine ⟨setBlock w b (.map #[] clock), ?_, ⟨0, .map [], ⟨#[], clock, heap_setBlock_same hb _, ⟨by simp, stamped_empty clock, by simp⟩, Nat.le_refl _, rfl⟩, fun _ => rfl⟩,
    ⟨rfl, rfl, rfl, by simp [setBlock], fun i _ hi => heap_setBlock_other hb _ (fun e => hi (by rw [e]))⟩, by simp [setBlock]⟩
  simp [Builtin.clear_, run_underlying ht, Go.MapKept.run_getObj_map hb, Go.MapKept.run_setObj_map _ hb, Result.andThen, setBlock]
end Go.Proofs.Ytdhidcoglioalaa.Walks
