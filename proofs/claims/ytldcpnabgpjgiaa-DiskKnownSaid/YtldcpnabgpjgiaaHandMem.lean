/-
  Maps of the call's own, with whatever elements: a map's block read as a function from keys to elements.
-/
import Derived.Test.YtldcpnabgpjgiaaBase
import Derived.Maps.Own
import Derived.Maps.OwnOps
import Derived.Maps.Views
import Derived.Maps.OwnSet
import Derived.DeepKeys4
namespace Go.Proofs.Ytldcpnabgpjgiaa.Walks
open Go.RowKit
open Go.Maps (Keyed IsMap)
set_option linter.unusedVariables false

/-- Every element reads as itself. -/
def RV (v : Value) : Option (DataW (Option Value) × List MemPlace) := some (.held (some v), [])
/-- Block b is a map with keys of type k, of at most n entries, whose elements f tells. -/
def VM (w : World) (k : TypeId) (b n : Nat) (f : Value → Option Value) : Prop :=
  ∃ D : DataW (Option Value), w.ownsMap Try.prog k RV b n D ∧ IsMap D ∧ ∀ key kl, keyOf Try.prog k key = some kl → D.atKey kl (.held none) = .held (f key)

theorem VM.new (w : World) (k : TypeId) : VM (w.alloc (.map #[] 0)) k w.heap.size 0 (fun _ => none) :=
  ⟨.map [], World.ownsMap_made w Try.prog k RV, ⟨[], rfl⟩, fun _ _ _ => rfl⟩
theorem VM.lt {w : World} {k : TypeId} {b n : Nat} {f : Value → Option Value} (h : VM w k b n f) : b < w.heap.size := by obtain ⟨D, h, _⟩ := h; exact h.lt
theorem VM.mono {w : World} {k : TypeId} {b n n' : Nat} {f : Value → Option Value} (h : VM w k b n f) (hn : n ≤ n') : VM w k b n' f := by obtain ⟨D, h, r⟩ := h; exact ⟨D, h.mono hn, r⟩
theorem VM.block {w w' : World} {k : TypeId} {b n : Nat} {f : Value → Option Value} (h : VM w k b n f) (hb : w'.heap[b]? = w.heap[b]?) : VM w' k b n f := by
  obtain ⟨D, ⟨es, clock, h1, h2⟩, r⟩ := h
  exact ⟨D, ⟨es, clock, hb.trans h1, h2⟩, r⟩
theorem VM.below {w w' : World} {k : TypeId} {b n : Nat} {f : Value → Option Value} (h : VM w k b n f) (hb : Below w.heap.size w w') : VM w' k b n f := h.block (hb.block b h.lt)

/-- What a lookup answers. -/
def lookRes (c : Bool) (z : Value) : Option Value → Value
  | some v => if c then .tuple #[v, .bool true] else v
  | none => if c then .tuple #[z, .bool false] else z
set_option maxRecDepth 100000 in
theorem VM.look {w : World} {k t e : TypeId} {b n : Nat} {f : Value → Option Value} (c : Bool) (h : VM w k b n f) (K : Keyed Try.prog k) (ht : Try.prog.underlying t = some (.map k e)) {z : Value} (hz : (zeroValue e).run Try.prog w = .ok z w)
    {key : Value} {kl : Lit} (hkey : keyOf Try.prog k key = some kl) : (Instr.lookup t (.map (some b)) key c).run Try.prog w = .ok (lookRes c z (f key)) w := by
  obtain ⟨D, ⟨es, clock, hb, F, _, rfl⟩, hm, hf⟩ := h
  have h1 := hf key kl hkey
  rcases Maps.fit_look c K ht hz hb F hkey with ⟨hrun, _, hat⟩ | ⟨e0, y, _, _, hrun, hRv, hat, _⟩
  · rw [hat] at h1
    have : f key = none := by injection h1 with h; exact h.symm
    rw [hrun, this]; cases c <;> rfl
  · rw [hat] at h1
    simp only [RV, Option.some.injEq] at hRv
    rw [← hRv] at h1
    have : f key = some e0.val := by injection h1 with h; exact h.symm
    rw [hrun, this]; cases c <;> rfl

open Classical in
/-- The function with one more element. -/
noncomputable def upd (f : Value → Option Value) (key v : Value) : Value → Option Value := fun x => if x = key then some v else f x

set_option maxRecDepth 100000 in
theorem VM.store {w : World} {k t e : TypeId} {b n : Nat} {f : Value → Option Value} (h : VM w k b n f) (K : Keyed Try.prog k) (ht : Try.prog.underlying t = some (.map k e)) (hn : n < maxLen) {key val : Value} {kl : Lit}
    (hkey : keyOf Try.prog k key = some kl) : ∃ w', (Instr.mapUpdate t (.map (some b)) key val).run Try.prog w = .ok () w' ∧ VM w' k b (n + 1) (upd f key val) ∧ w.grownBy w' (some b) := by
  obtain ⟨D, ho, hm, hf⟩ := h
  obtain ⟨w', h1, h2, h3⟩ := ho.update (val := val) (d := .held (some val)) (ps := []) K ht hn hkey rfl
  refine ⟨w', h1, ⟨_, h2, hm.put _ _, fun key' kl' hk' => ?_⟩, h3⟩
  unfold upd
  by_cases e : key' = key
  · subst e
    rw [hkey] at hk'
    cases hk'
    rw [if_pos rfl]
    exact Maps.atKey_put_same hm (K.key hkey) _ _
  · rw [if_neg e]
    have hne : kl' ≠ kl := fun hh => e (K.inj hk' (by rw [hh]; exact hkey))
    rw [Maps.atKey_put_other hne]
    exact hf key' kl' hk'
end Go.Proofs.Ytldcpnabgpjgiaa.Walks
