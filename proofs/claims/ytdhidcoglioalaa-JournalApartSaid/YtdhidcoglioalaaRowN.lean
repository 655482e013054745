/-
  Rows of any number of cells as whole values: boxed, loaded and stored at one go, also in the midst of a block.
-/
import Derived.Test.YtdhidcoglioalaaSecM
namespace Go.Proofs.Ytdhidcoglioalaa.Walks
open Go.RowKit Plain
set_option linter.unusedVariables false

/-- So many cells, read. -/
noncomputable def cellL (n : Nat) (w : World) (a : Addr) : List Value := (List.range n).map fun j => (w.cell? ⟨a.block, a.off + j, none⟩).getD undef
/-- These cells lie there. -/
def RowAt (w : World) (a : Addr) (vs : List Value) : Prop := a.spot = none ∧ w.rangeAt a.block a.off vs
def IsRow (n : Nat) (w : World) (a : Addr) : Prop := ∃ vs : List Value, vs.length = n ∧ RowAt w a vs
/-- There is room for so many. -/
def RoomN (n : Nat) (w : World) (a : Addr) : Prop := a.spot = none ∧ w.there a.block a.off n
/-- A value of so many cells. -/
def OneN (n : Nat) (v : Value) : Prop := ∃ vs : List Value, vs.length = n ∧ (∀ u ∈ vs, u.oneCell' = true) ∧ v = .agg vs.toArray
def cellsV (v : Value) : List Value := v.cells.toList
theorem cellsV_mk (vs : List Value) : cellsV (.agg vs.toArray) = vs := not_rfl rfl
theorem cellsV_arr (vs : Array Value) : cellsV (.agg vs) = vs.toList := not_rfl rfl
theorem RowAt.cells {w : World} {a : Addr} {vs : List Value} (h : RowAt w a vs) {n : Nat} (hn : vs.length = n) : cellL n w a = vs := by
  apply List.ext_getElem?
  intro j
  unfold cellL
  by_cases hj : j < n
  · simp only [List.getElem?_map, List.getElem?_range hj, Option.map_some]
    rw [List.getElem?_eq_getElem (by omega), h.2 j _ (List.getElem?_eq_getElem (by omega))]
    rfl
  · rw [List.getElem?_eq_none (by simp; omega), List.getElem?_eq_none (by omega)]
theorem RowAt.is {w : World} {a : Addr} {vs : List Value} (h : RowAt w a vs) {n : Nat} (hn : vs.length = n) : IsRow n w a := ⟨vs, hn, h⟩
theorem IsRow.at {n : Nat} {w : World} {a : Addr} (h : IsRow n w a) : RowAt w a (cellL n w a) := by
  obtain ⟨vs, hn, h⟩ := h
  rw [h.cells hn]
  exact h
theorem cellL_length (n : Nat) (w : World) (a : Addr) : (cellL n w a).length = n := by simp [cellL]
theorem all_one {vs : List Value} (h : ∀ u ∈ vs, u.oneCell' = true) : vs.toArray.all (·.oneCell') = true := all_oneCell_toArray h
section
variable {T n : Nat} {D : TypeDesc} {w : World} {a : Addr}
theorem loadN (hu : Try.prog.underlying T = some D) (hd : D.isRow = true) (hz : (Try.prog.info? T).map (·.size) = some n) (h : IsRow n w a) : (Instr.loadAt T (.pointer (some a))).run Try.prog w = .ok (.agg (cellL n w a).toArray) w := by
  obtain ⟨vs, hn, h⟩ := h
  rw [h.cells hn]
  obtain ⟨b, o, sp⟩ := a
  obtain ⟨h0, h1⟩ := h
  simp only at h0
  subst h0
  exact run_loadAt_mid (P := Try.prog) w b o T vs D h1 hu hd (by rw [hn]; exact hz)
theorem storeN (hz : (Try.prog.info? T).map (·.size) = some n) (h : RoomN n w a) {v : Value} (hv : OneN n v) : (Instr.storeAt T (.pointer (some a)) v).run Try.prog w = .ok () (w.setCells a.block a.off (cellsV v)) := by
  obtain ⟨vs, hn, h1, rfl⟩ := hv
  obtain ⟨b, o, sp⟩ := a
  obtain ⟨h0, h2⟩ := h
  simp only at h0
  subst h0
  have := run_storeAt_mid (P := Try.prog) w b o T vs.toArray (by simpa [hn] using h2) (by simpa [hn] using hz) (all_one h1)
  rw [cellsV_mk]
  simpa using this
end
section
variable {T n : Nat} {D : TypeDesc} {ρ : Operand → Value} {d : Option Tmp} {x y : Operand} {t : TypeId} {p : String} {af : Array Edge} {gd : Option (Nat × Bool)} {w : World}
theorem exec_loadN (hu : Try.prog.underlying T = some D) (hd : D.isRow = true) (hz : (Try.prog.info? T).map (·.size) = some n) (h1 : isPt (ρ x) = true) (h2 : IsRow n w (adOf (ρ x))) :
    (execOp ρ ⟨d, .load T x, t, p, af, gd⟩).run Try.prog w = .ok (.value (.agg (cellL n w (adOf (ρ x))).toArray)) w := by
  have e := isPt_eq h1
  simp only [execOp]
  rw [e] at h2 ⊢
  simp only [adOf_mk] at h2 ⊢
  simp [loadN hu hd hz h2, Result.andThen]
theorem exec_storeN (hz : (Try.prog.info? T).map (·.size) = some n) (h1 : isPt (ρ x) = true) (h2 : RoomN n w (adOf (ρ x))) (h3 : OneN n (ρ y)) :
    (execOp ρ ⟨d, .store T x y, t, p, af, gd⟩).run Try.prog w = .ok .skip (w.setCells (adOf (ρ x)).block (adOf (ρ x)).off (cellsV (ρ y))) := by
  have e := isPt_eq h1
  simp only [execOp]
  rw [e] at h2 ⊢
  simp only [adOf_mk] at h2 ⊢
  simp [storeN hz h2 h3, Result.andThen]
theorem exec_allocN {cs : Array Value} (hz : ∀ w, (zeroValue T).run Try.prog w = .ok (.agg cs) w) : (execOp ρ ⟨d, .alloc T, t, p, af, gd⟩).run Try.prog w = .ok (.value (.pointer (some ⟨w.heap.size, 0, none⟩))) (w.alloc (.cells cs T)) := by
  simp only [execOp, Instr.alloc]
  simp only [Sem.run_bind, hz, Result.andThen_ok]
  rfl
end
/-! A fresh box -/
theorem alloc_setN (w : World) (T : Nat) {vs us : List Value} {n : Nat} (hn : n = w.heap.size) (hl : vs.length = us.length) : (w.alloc (.cells vs.toArray T)).setCells n 0 us = w.alloc (.cells us.toArray T) := by
  subst hn
  have := alloc_setCellsL w T us [] vs [] hl
  simpa using this
theorem row_new (w : World) (T : Nat) (vs : List Value) {n : Nat} (hn : n = w.heap.size) : RowAt (w.alloc (.cells vs.toArray T)) ⟨n, 0, none⟩ vs := by
  subst hn
  exact ⟨rfl, fun j v hv => by rw [show (⟨w.heap.size, 0, none⟩ : Addr).off + j = j by show 0 + j = j; omega, cell_new]; simpa using hv⟩
theorem roomN_new (w : World) (T : Nat) (vs : List Value) {n k : Nat} (hn : n = w.heap.size) (hk : vs.length = k) : RoomN k (w.alloc (.cells vs.toArray T)) ⟨n, 0, none⟩ := by
  subst hn
  refine ⟨rfl, fun j hj => ?_⟩
  rw [show (⟨w.heap.size, 0, none⟩ : Addr).off + j = j by show 0 + j = j; omega, cell_new, frozen_new]
  refine ⟨?_, rfl⟩
  rw [List.getElem?_toArray, List.getElem?_eq_getElem (by omega)]
  rfl
theorem RowAt.of {w w' : World} {a : Addr} {vs : List Value} (h : RowAt w a vs) (hc : ∀ o v, w.cell? ⟨a.block, o, none⟩ = some v → w'.cell? ⟨a.block, o, none⟩ = some v) : RowAt w' a vs := ⟨h.1, fun j v hv => hc _ _ (h.2 j v hv)⟩
theorem RowAt.below {w w' : World} {B : Nat} {a : Addr} {vs : List Value} (h : RowAt w a vs) (hb : Below B w w') (ha : a.block < B) : RowAt w' a vs := h.of fun o v hc => (hb.cell (p := ⟨a.block, o, none⟩) ha).trans hc
theorem IsRow.below {w w' : World} {B n : Nat} {a : Addr} (h : IsRow n w a) (hb : Below B w w') (ha : a.block < B) : IsRow n w' a := by
  obtain ⟨vs, hn, h⟩ := h
  exact ⟨vs, hn, h.below hb ha⟩
theorem cellL_past {n : Nat} {w : World} {o : Obj} {b k : Nat} (h : b < w.heap.size) : cellL n (w.alloc o) ⟨b, k, none⟩ = cellL n w ⟨b, k, none⟩ := by
  unfold cellL
  simp only [cell_past h]
theorem isRow_past {n : Nat} {w : World} {o : Obj} {b k : Nat} (h : b < w.heap.size) : IsRow n (w.alloc o) ⟨b, k, none⟩ ↔ IsRow n w ⟨b, k, none⟩ := by
  unfold IsRow RowAt World.rangeAt
  simp only [cell_past h]
theorem roomN_past {n : Nat} {w : World} {o : Obj} {b k : Nat} (h : b < w.heap.size) : RoomN n (w.alloc o) ⟨b, k, none⟩ ↔ RoomN n w ⟨b, k, none⟩ := by
  unfold RoomN World.there
  simp only [cell_past h, frozen_past h]
theorem isRow_drew {n : Nat} (w : World) (a : Addr) : IsRow n w.drew a ↔ IsRow n w a := Iff.rfl
theorem cellL_drew {n : Nat} (w : World) (a : Addr) : cellL n w.drew a = cellL n w a := not_rfl rfl
theorem roomN_drew {n : Nat} (w : World) (a : Addr) : RoomN n w.drew a ↔ RoomN n w a := Iff.rfl
theorem isRow_new (w : World) (T : Nat) (vs : List Value) {n k : Nat} (hn : n = w.heap.size) (hk : vs.length = k) : IsRow k (w.alloc (.cells vs.toArray T)) ⟨n, 0, none⟩ := (row_new w T vs hn).is hk
theorem cellL_new (w : World) (T : Nat) (vs : List Value) {n k : Nat} (hn : n = w.heap.size) (hk : vs.length = k) : cellL k (w.alloc (.cells vs.toArray T)) ⟨n, 0, none⟩ = vs := (row_new w T vs hn).cells hk
end Go.Proofs.Ytdhidcoglioalaa.Walks
