/-
  Small lemmas on worlds, slices of ints and endings: what the walks of this seat share.
-/
import Derived.Test.YtdhidcoglioalaaRows
import Derived.WalkKit
import Derived.Lib.Hide
import Derived.Deep.RegionWith
import Derived.Deep.QuietTactic
import Derived.BigQuiet
import Derived.Deep.RegionHeld3
import Derived.Deep.MidRow
import Derived.Laws.Rows
import Derived.Laws.CopyOwn
import Derived.Laws.AppendOwnNone
import Derived.WalkSmall
import Derived.OpenShut
namespace Go.Proofs.Ytdhidcoglioalaa.Walks
open Go.RowKit
set_option linter.unusedVariables false

theorem ret_int {k : IntKind} {a b : Int} (h : a = b) : Ending.returned (.int k a) = .returned (.int k b) := by rw [h]
theorem ret_bool {a b : Bool} (h : a = b) : Ending.returned (.bool a) = .returned (.bool b) := by rw [h]
theorem val_int {k : IntKind} {a b : Int} (h : a = b) : Value.int k a = .int k b := by rw [h]
theorem val_bool {a b : Bool} (h : a = b) : Value.bool a = .bool b := by rw [h]

theorem heap_alloc_lt {w : World} {o : Obj} {i : Nat} (h : i < w.heap.size) : (w.alloc o).heap[i]? = w.heap[i]? := by
  show (w.heap.push o)[i]? = w.heap[i]?
  rw [Array.getElem?_push, if_neg (Nat.ne_of_lt h)]
theorem lt_of_heap {w : World} {i : Nat} {o : Obj} (h : w.heap[i]? = some o) : i < w.heap.size := (Array.getElem?_eq_some_iff.1 h).1

/-- What an int is in memory. -/
def iv (n : Int) : Value := .int .i64 n

/-- Ints lie in memory. -/
def Ints (w : World) (a : Option Addr) (l : List Int) : Prop :=
  l.length ≤ 9223372036854775807 ∧ (l = [] ∨ ∃ b off, a = some ⟨b, off, none⟩ ∧ ∀ i (h : i < l.length), w.cell? ⟨b, off + i, none⟩ = some (.int .i64 l[i]))

theorem Ints.nil (w : World) (a : Option Addr) : Ints w a [] := ⟨by simp, .inl rfl⟩
theorem Ints.at_lt {w : World} {a : Option Addr} {l : List Int} (h : Ints w a l) {k : Nat} (hk : k < l.length) :
    ∃ b off, a = some ⟨b, off, none⟩ ∧ b < w.heap.size ∧ ∀ i (h : i < l.length), w.cell? ⟨b, off + i, none⟩ = some (.int .i64 l[i]) := by
  rcases h.2 with rfl | ⟨b, off, ha, hc⟩
  · simp at hk
  · exact ⟨b, off, ha, block_lt_of_cell (hc k hk), hc⟩
theorem Ints.below {w w' : World} {a : Option Addr} {l : List Int} (h : Ints w a l) (hb : Below w.heap.size w w') : Ints w' a l := by
  refine ⟨h.1, ?_⟩
  rcases h.2 with rfl | ⟨b, off, rfl, hc⟩
  · exact .inl rfl
  · exact .inr ⟨b, off, rfl, fun i hi => (hb.cell (by exact block_lt_of_cell (hc i hi))).trans (hc i hi)⟩
theorem Ints.drew {w : World} {a : Option Addr} {l : List Int} (h : Ints w a l) : Ints w.drew a l := h
theorem Ints.alloc {w : World} {a : Option Addr} {l : List Int} (h : Ints w a l) (o : Obj) : Ints (w.alloc o) a l :=
  h.below ((Below.refl _ _).alloc (Nat.le_refl _) _)
theorem Ints.take {w : World} {a : Option Addr} {l : List Int} (h : Ints w a l) (n : Nat) : Ints w a (l.take n) := by
  refine ⟨by have := h.1; simp; omega, ?_⟩
  rcases h.2 with rfl | ⟨b, off, rfl, hc⟩
  · simp
  · exact .inr ⟨b, off, rfl, fun i hi => by rw [hc i (by simp at hi; omega)]; simp⟩

theorem Below.step {w w1 w2 : World} (h : Below w.heap.size w w1) (h2 : Below w1.heap.size w1 w2) : Below w.heap.size w w2 := h.trans (h2.mono h.size)
theorem Below.new (w : World) (o : Obj) : Below w.heap.size w (w.alloc o) := (Below.refl _ _).alloc (Nat.le_refl _) _
/-- A cell that was there is as it was, behind a call that made memory alone. -/
theorem keepc {w w' : World} {p : Addr} {v : Value} (hb : Below w.heap.size w w') (c : w.cell? p = some v) : w'.cell? p = some v := (hb.cell (by exact block_lt_of_cell c)).trans c
theorem keepb {w w' : World} {B : Nat} {p : Addr} {v : Value} (hb : Below B w w') (hp : p.block < B) (c : w.cell? p = some v) : w'.cell? p = some v := (hb.cell hp).trans c
theorem keepf {w w' : World} {B : Nat} {p : Addr} {v : Bool} (hb : Below B w w') (hp : p.block < B) (c : w.frozen? p = v) : w'.frozen? p = v := (hb.frozen hp).trans c
theorem quiet_of_eq {P : Program} {f : FuncId} {args : Array Value} {w : World} {n : Nat} {v : Value}
    (h : Calls P f args (w.drewN n) fun e w' => e = .returned v ∧ w.drewN n = w') : Calls P f args (w.drewN n) fun e w'' => e = .returned v ∧ ∃ m, w'' = w.drewN m :=
  h.mono fun _ _ ⟨he, hm⟩ => ⟨he, n, hm.symm⟩
end Go.Proofs.Ytdhidcoglioalaa.Walks
