/-
  Sectors as whole values: they are boxed, loaded and stored at one go, also in the midst of a block.
  Rows of any number of cells as whole values: boxed, loaded and stored at one go, also in the midst of a block.
-/
import Derived.Test.YtdhidcoglioalaaGreatM01
import Derived.Deep.MidRow
import Derived.Deep.Quiet
namespace Go.Proofs.YtdhidcoglioalaaGreat.Walks
open Go.RowKit Plain
set_option linter.unusedVariables false

/-- Only the blocks of R have turned; what was made is new. -/
structure Only (R : List Nat) (w w' : World) : Prop where
  os : w'.os = w.os
  tape : w'.tape = w.tape
  output : w'.output = w.output
  size : w.heap.size ≤ w'.heap.size
  block : ∀ b, b < w.heap.size → b ∉ R → w'.heap[b]? = w.heap[b]?
theorem Only.refl (R : List Nat) (w : World) : Only R w w := ⟨rfl, rfl, rfl, Nat.le_refl _, fun _ _ _ => rfl⟩
theorem Only.trans {R : List Nat} {a b c : World} (h : Only R a b) (k : Only R b c) : Only R a c :=
  ⟨k.os.trans h.os, k.tape.trans h.tape, k.output.trans h.output, Nat.le_trans h.size k.size, fun i hi hn => (k.block i (Nat.lt_of_lt_of_le hi h.size) hn).trans (h.block i hi hn)⟩
theorem Only.of_below {R : List Nat} {a b : World} (h : Below a.heap.size a b) : Only R a b := ⟨h.os, h.tape, h.output, h.size, fun i hi _ => h.block i hi⟩
theorem Only.of_grown {R : List Nat} {a b : World} {r : Nat} (h : a.grownBy b (some r)) (hr : r ∈ R) : Only R a b :=
  ⟨h.os, h.tape, h.output, h.size, fun i hi hn => h.block i hi (fun e => hn (by cases e; exact hr))⟩
theorem Only.mono {R R' : List Nat} {a b : World} (h : Only R a b) (hs : ∀ r ∈ R, r ∈ R') : Only R' a b := ⟨h.os, h.tape, h.output, h.size, fun i hi hn => h.block i hi (fun hr => hn (hs i hr))⟩
theorem Only.below {R : List Nat} {B : Nat} {a b c : World} (h : Below B a b) (k : Only R b c) (hR : ∀ r ∈ R, B ≤ r) (hB : B ≤ a.heap.size) : Below B a c :=
  ⟨k.os.trans h.os, k.tape.trans h.tape, k.output.trans h.output, Nat.le_trans h.size k.size, fun i hi => (k.block i (Nat.lt_of_lt_of_le hi (Nat.le_trans hB h.size)) (fun hr => Nat.not_le_of_lt hi (hR i hr))).trans (h.block i hi)⟩
theorem Only.drewN {R : List Nat} {a b : World} (h : Only R a b) (n : Nat) : Only R a (b.drewN n) := h.trans (Only.of_below (below_drewN (Below.refl _ _) n))
theorem Only.drew {R : List Nat} {a b : World} (h : Only R a b) : Only R a b.drew := h.drewN 1
theorem Only.new {R : List Nat} {a b : World} (h : Only R a b) (o : Obj) : Only R a (b.alloc o) := h.trans (Only.of_below (Below.new _ _))
theorem Only.setCell {R : List Nat} {a b : World} (h : Only R a b) {p : Addr} (hp : p.block ∈ R) (v : Value) : Only R a (b.setCell p v) :=
  h.trans ⟨rfl, rfl, rfl, by simp, fun i hi hn => Below.heap_setCell _ _ _ _ (fun e => hn (e ▸ hp))⟩
theorem Only.setCells {R : List Nat} {b : Nat} (hb : b ∈ R) : ∀ (vs : List Value) (o : Nat) {a w : World}, Only R a w → Only R a (w.setCells b o vs)
  | [], _, _, _, h => h
  | v :: vs, o, _, _, h => Only.setCells hb vs (o + 1) (h.setCell (p := ⟨b, o, none⟩) hb v)
theorem Only.cell {R : List Nat} {w w' : World} (h : Only R w w') {a : Addr} {v : Value} (hn : a.block ∉ R) (hc : w.cell? a = some v) : w'.cell? a = some v :=
  (World.cell?_of_block (h.block a.block (block_lt_of_cell hc) hn)).trans hc

/-! ### Sectors -/
theorem secL_get (s : Sec) {j : Nat} (hj : j < 64) : (secL s)[j]? = some (byteV (s j)) := by simp [secL, hj]
theorem secL_one (s : Sec) : ∀ v ∈ secL s, v.oneCell' = true := by
  intro v hv
  obtain ⟨j, _, rfl⟩ := List.mem_map.1 hv
  rfl
theorem secC_size (s : Sec) : (secC s).size = 64 := by simp [secC, secL]
theorem secC_toList (s : Sec) : (secC s).toList = secL s := by simp [secC]
theorem secC_one (s : Sec) : (secC s).all (·.oneCell') = true := all_oneCell_toArray (secL_one s)
abbrev secV (s : Sec) : Value := .agg (secC s)
/-- The byte that a cell's value holds. -/
def byteOfV : Value → Byte
  | .int _ n => BitVec.ofInt 8 n
  | _ => 0
theorem byteOf_byteV (b : Byte) : byteOfV (byteV b) = b := by
  show BitVec.ofInt 8 (b.toNat : Int) = b
  rw [BitVec.ofInt_natCast, BitVec.ofNat_toNat, BitVec.setWidth_eq]
theorem secL_congr {s s' : Sec} (h : ∀ j, j < 64 → s j = s' j) : secL s = secL s' := by
  unfold secL
  exact List.map_congr_left fun j hj => by rw [h j (List.mem_range.1 hj)]
theorem secL_inj {s s' : Sec} (h : secL s = secL s') : ∀ j, j < 64 → s j = s' j := by
  intro j hj
  have h1 := congrArg (·[j]?) h
  simp only [secL_get _ hj] at h1
  have h2 := congrArg byteOfV (Option.some.inj h1)
  rw [byteOf_byteV, byteOf_byteV] at h2
  exact h2
theorem secC_congr {s s' : Sec} (h : ∀ j, j < 64 → s j = s' j) : secC s = secC s' := by unfold secC; rw [secL_congr h]
/-- A sector's value, read back. -/
def sOf (v : Value) : Sec := fun j => byteOfV (v.cells.getD j undef)
theorem sOf_mk (s : Sec) : secL (sOf (.agg (secC s))) = secL s := secL_congr fun j hj => by
  unfold sOf
  simp only [Value.cells, secC, Array.getD_eq_getD_getElem?, List.getElem?_toArray, secL_get _ hj, Option.getD_some, byteOf_byteV]
theorem sOf_mkC (s : Sec) : secC (sOf (.agg (secC s))) = secC s := congrArg List.toArray (sOf_mk s)
def isSec (v : Value) : Prop := v = .agg (secC (sOf v))
theorem isSec_mk (s : Sec) : isSec (.agg (secC s)) := by unfold isSec; rw [sOf_mkC]
/-- What a pointer points to. -/
def adOf : Value → Addr
  | .pointer (some a) => a
  | _ => ⟨0, 0, none⟩
def isPt : Value → Bool
  | .pointer (some _) => true
  | _ => false
/-- A proof that simp does not take for a definition's. -/
theorem not_rfl {α : Type} {a b : α} (h : a = b) : a = b := by cases h; rfl
theorem adOf_mk (a : Addr) : adOf (.pointer (some a)) = a := rfl
theorem isPt_mk (a : Addr) : isPt (.pointer (some a)) = true := not_rfl rfl
theorem isPt_eq {v : Value} (h : isPt v = true) : v = .pointer (some (adOf v)) := by
  unfold isPt at h
  split at h
  · rfl
  · cases h
/-- A sector lies there. -/
def Sec88 (w : World) (a : Addr) (s : Sec) : Prop := a.spot = none ∧ w.rangeAt a.block a.off (secL s)
def Is88 (w : World) (a : Addr) : Prop := ∃ s, Sec88 w a s
noncomputable def sAt (w : World) (a : Addr) : Sec := fun j => byteOfV ((w.cell? ⟨a.block, a.off + j, none⟩).getD undef)
theorem Sec88.at {w : World} {a : Addr} {s : Sec} (h : Sec88 w a s) : secL (sAt w a) = secL s := secL_congr fun j hj => by
  unfold sAt
  rw [h.2 j _ (secL_get s hj)]
  exact byteOf_byteV _
theorem Sec88.atC {w : World} {a : Addr} {s : Sec} (h : Sec88 w a s) : secC (sAt w a) = secC s := by unfold secC; rw [h.at]
theorem Sec88.is {w : World} {a : Addr} {s : Sec} (h : Sec88 w a s) : Is88 w a := ⟨s, h⟩
theorem z88 : (Tryz.prog.info? 91).map (·.size) = some 64 := by kernel_rfl
theorem load88 {w : World} {a : Addr} (h : Is88 w a) : (Instr.loadAt 91 (.pointer (some a))).run Tryz.prog w = .ok (.agg (secC (sAt w a))) w := by
  obtain ⟨s, h⟩ := h
  rw [h.atC]
  obtain ⟨b, o, sp⟩ := a
  obtain ⟨h0, h1⟩ := h
  simp only at h0
  subst h0
  exact run_loadAt_mid (P := Tryz.prog) w b o 91 (secL s) _ h1 Tryz.underlying91 rfl (by rw [secL_length]; exact z88)
/-- There is room for a sector. -/
def Room88 (w : World) (a : Addr) : Prop := a.spot = none ∧ w.there a.block a.off 64
theorem store88 {w : World} {a : Addr} (h : Room88 w a) (s : Sec) : (Instr.storeAt 91 (.pointer (some a)) (.agg (secC s))).run Tryz.prog w = .ok () (w.setCells a.block a.off (secL s)) := by
  obtain ⟨b, o, sp⟩ := a
  obtain ⟨h0, h1⟩ := h
  simp only at h0
  subst h0
  have := run_storeAt_mid (P := Tryz.prog) w b o 91 (secC s) (by rw [secC_size]; exact h1) (by rw [secC_size]; exact z88) (secC_one s)
  rw [secC_toList] at this
  exact this
theorem zero88 (w : World) : (zeroValue 91).run Tryz.prog w = .ok (.agg (secC zeroS)) w := by
  kernel_rfl
section
variable {ρ : Operand → Value} {d : Option Tmp} {x y : Operand} {t : TypeId} {p : String} {af : Array Edge} {gd : Option (Nat × Bool)} {w : World}
theorem exec_load88 (h1 : isPt (ρ x) = true) (h2 : Is88 w (adOf (ρ x))) :
    (execOp ρ ⟨d, .load 91 x, t, p, af, gd⟩).run Tryz.prog w = .ok (.value (.agg (secC (sAt w (adOf (ρ x)))))) w := by
  have e := isPt_eq h1
  simp only [execOp]
  rw [e] at h2 ⊢
  simp only [adOf_mk] at h2 ⊢
  simp [load88 h2, Result.andThen]
theorem exec_store88 (h1 : isPt (ρ x) = true) (h2 : Room88 w (adOf (ρ x))) (h3 : isSec (ρ y)) :
    (execOp ρ ⟨d, .store 91 x y, t, p, af, gd⟩).run Tryz.prog w = .ok .skip (w.setCells (adOf (ρ x)).block (adOf (ρ x)).off (secL (sOf (ρ y)))) := by
  have e := isPt_eq h1
  unfold isSec at h3
  simp only [execOp]
  generalize sOf (ρ y) = s at *
  rw [h3]
  rw [e] at h2 ⊢
  simp only [adOf_mk] at h2 ⊢
  simp [store88 h2, Result.andThen]
theorem exec_alloc88 : (execOp ρ ⟨d, .alloc 91, t, p, af, gd⟩).run Tryz.prog w = .ok (.value (.pointer (some ⟨w.heap.size, 0, none⟩))) (w.alloc (.cells (secC zeroS) 91)) := by
  simp only [execOp, Instr.alloc]
  simp only [Sem.run_bind, zero88, Result.andThen_ok]
  rfl
end
/-! A fresh box -/
theorem alloc_setCellsL (w : World) (t : TypeId) : ∀ (vs pre old rest : List Value), old.length = vs.length →
    (w.alloc (.cells (pre ++ old ++ rest).toArray t)).setCells w.heap.size pre.length vs = w.alloc (.cells (pre ++ vs ++ rest).toArray t)
  | [], pre, old, rest, h => by
    obtain rfl : old = [] := List.eq_nil_of_length_eq_zero (by simpa using h)
    rfl
  | v :: vs, pre, old, rest, h => by
    obtain ⟨u, old, rfl⟩ : ∃ u o, old = u :: o := by
      cases old with
      | nil => simp at h
      | cons u o => exact ⟨u, o, rfl⟩
    rw [World.setCells, World.setCell_alloc_at _ _ _ _ _ rfl]
    have e : ((pre ++ u :: old ++ rest).toArray.setIfInBounds pre.length v) = ((pre ++ [v]) ++ old ++ rest).toArray := by
      simp
    have := alloc_setCellsL w t vs (pre ++ [v]) old rest (by simpa using h)
    simp only [List.length_append, List.length_cons, List.length_nil, Nat.zero_add] at this
    first
      | (rw [e]; rw [this]; simp)
      | (rw [show (pre ++ [v] ++ vs ++ rest) = pre ++ v :: vs ++ rest by simp] at this; rw [← this]; congr 1; simp)
theorem alloc_setCells (w : World) (s s' : Sec) {n : Nat} (hn : n = w.heap.size) : (w.alloc (.cells (secC s) 91)).setCells n 0 (secL s') = w.alloc (.cells (secC s') 91) := by
  subst hn
  have := alloc_setCellsL w 91 (secL s') [] (secL s) [] (by rw [secL_length, secL_length])
  simpa [secC] using this
theorem cell_new (w : World) (cs : Array Value) (t : TypeId) (j : Nat) : (w.alloc (.cells cs t)).cell? ⟨w.heap.size, j, none⟩ = cs[j]? := by
  have h : (w.alloc (.cells cs t)).heap[w.heap.size]? = some (.cells cs t) := heap_alloc_new _ _
  unfold World.cell?
  simp only [h]
  rfl
theorem frozen_new (w : World) (cs : Array Value) (t : TypeId) (j : Nat) : (w.alloc (.cells cs t)).frozen? ⟨w.heap.size, j, none⟩ = false := by
  have h : (w.alloc (.cells cs t)).heap[w.heap.size]? = some (.cells cs t) := heap_alloc_new _ _
  unfold World.frozen?
  simp only [h]
  simp
theorem sec_new (w : World) (s : Sec) : Sec88 (w.alloc (.cells (secC s) 91)) ⟨w.heap.size, 0, none⟩ s := ⟨rfl, fun j v hv => by
  rw [show (0 : Nat) + j = j by omega, cell_new]
  simpa [secC] using hv⟩
theorem is_new (w : World) (s : Sec) {n : Nat} (hn : n = w.heap.size) : Is88 (w.alloc (.cells (secC s) 91)) ⟨n, 0, none⟩ := hn ▸ (sec_new w s).is
theorem at_new (w : World) (s : Sec) {n : Nat} (hn : n = w.heap.size) : secC (sAt (w.alloc (.cells (secC s) 91)) ⟨n, 0, none⟩) = secC s := hn ▸ (sec_new w s).atC
theorem room_new (w : World) (s : Sec) {n : Nat} (hn : n = w.heap.size) : Room88 (w.alloc (.cells (secC s) 91)) ⟨n, 0, none⟩ := by
  subst hn
  exact ⟨rfl, fun j hj => by
  rw [show (⟨w.heap.size, 0, none⟩ : Addr).off + j = j by show 0 + j = j; omega, cell_new, frozen_new]
  refine ⟨?_, rfl⟩
  rw [Array.getElem?_eq_getElem (by rw [secC_size]; omega)]
  rfl⟩
theorem cell_past {w : World} {o : Obj} {b : Nat} (h : b < w.heap.size) (j : Nat) : (w.alloc o).cell? ⟨b, j, none⟩ = w.cell? ⟨b, j, none⟩ := World.cell?_of_block (heap_alloc_lt h)
theorem frozen_past {w : World} {o : Obj} {b : Nat} (h : b < w.heap.size) (j : Nat) : (w.alloc o).frozen? ⟨b, j, none⟩ = w.frozen? ⟨b, j, none⟩ := by unfold World.frozen?; simp only [heap_alloc_lt h]
theorem is_past {w : World} {o : Obj} {b k : Nat} (h : b < w.heap.size) : Is88 (w.alloc o) ⟨b, k, none⟩ ↔ Is88 w ⟨b, k, none⟩ := by
  unfold Is88 Sec88 World.rangeAt
  simp only [cell_past h]
theorem at_past {w : World} {o : Obj} {b k : Nat} (h : b < w.heap.size) : sAt (w.alloc o) ⟨b, k, none⟩ = sAt w ⟨b, k, none⟩ := by
  funext j
  unfold sAt
  simp only [cell_past h]
theorem room_past {w : World} {o : Obj} {b k : Nat} (h : b < w.heap.size) : Room88 (w.alloc o) ⟨b, k, none⟩ ↔ Room88 w ⟨b, k, none⟩ := by
  unfold Room88 World.there
  simp only [cell_past h, frozen_past h]
theorem is_drew (w : World) (a : Addr) : Is88 w.drew a ↔ Is88 w a := Iff.rfl
theorem at_drew (w : World) (a : Addr) : sAt w.drew a = sAt w a := rfl
theorem room_drew (w : World) (a : Addr) : Room88 w.drew a ↔ Room88 w a := Iff.rfl
theorem setCells_past {o : Obj} {n : Nat} : ∀ (vs : List Value) (i : Nat) {w : World}, n < w.heap.size → (w.alloc o).setCells n i vs = (w.setCells n i vs).alloc o
  | [], _, _, _ => rfl
  | v :: vs, i, w, h => by
    rw [World.setCells, World.setCell_alloc_past o n i v h, setCells_past vs (i + 1) (by simpa using h)]
    rfl
theorem setCells_size (b : Nat) : ∀ (vs : List Value) (i : Nat) (w : World), (w.setCells b i vs).heap.size = w.heap.size
  | [], _, _ => rfl
  | v :: vs, i, w => by rw [World.setCells, setCells_size b vs (i + 1)]; simp
theorem setCells_drew (b : Nat) : ∀ (vs : List Value) (i : Nat) (w : World), w.drew.setCells b i vs = (w.setCells b i vs).drew
  | [], _, _ => rfl
  | v :: vs, i, w => by rw [World.setCells, World.setCells]; exact setCells_drew b vs (i + 1) (w.setCell ⟨b, i, none⟩ v)
end Go.Proofs.YtdhidcoglioalaaGreat.Walks
namespace Go.Proofs.YtdhidcoglioalaaGreat.Walks
open Go.RowKit Plain
set_option linter.unusedVariables false

/-- So many cells, read. -/
noncomputable def cellL (n : Nat) (w : World) (a : Addr) : List Value := (List.range n).map fun j => (w.cell? ⟨a.block, a.off + j, none⟩).getD undef
/-- These cells lie there. -/
def RowAt (w : World) (a : Addr) (vs : List Value) : Prop := a.spot = none ∧ w.rangeAt a.block a.off vs
def IsRow (n : Nat) (w : World) (a : Addr) : Prop := ∃ vs : List Value, vs.length = n ∧ RowAt w a vs
/-- There is room for so many. -/
def RoomN (n : Nat) (w : World) (a : Addr) : Prop := a.spot = none ∧ w.there a.block a.off n
/-- A value of so many cells. -/
def OneN (n : Nat) (v : Value) : Prop := ∃ vs : List Value, vs.length = n ∧ (∀ u ∈ vs, u.oneCell' = true) ∧ v = .agg vs.toArray
def cellsV (v : Value) : List Value := v.cells.toList
theorem cellsV_mk (vs : List Value) : cellsV (.agg vs.toArray) = vs := not_rfl rfl
theorem cellsV_arr (vs : Array Value) : cellsV (.agg vs) = vs.toList := not_rfl rfl
theorem RowAt.cells {w : World} {a : Addr} {vs : List Value} (h : RowAt w a vs) {n : Nat} (hn : vs.length = n) : cellL n w a = vs := by
  apply List.ext_getElem?
  intro j
  unfold cellL
  by_cases hj : j < n
  · simp only [List.getElem?_map, List.getElem?_range hj, Option.map_some]
    rw [List.getElem?_eq_getElem (by omega), h.2 j _ (List.getElem?_eq_getElem (by omega))]
    rfl
  · rw [List.getElem?_eq_none (by simp; omega), List.getElem?_eq_none (by omega)]
theorem RowAt.is {w : World} {a : Addr} {vs : List Value} (h : RowAt w a vs) {n : Nat} (hn : vs.length = n) : IsRow n w a := ⟨vs, hn, h⟩
theorem IsRow.at {n : Nat} {w : World} {a : Addr} (h : IsRow n w a) : RowAt w a (cellL n w a) := by
  obtain ⟨vs, hn, h⟩ := h
  rw [h.cells hn]
  exact h
theorem cellL_length (n : Nat) (w : World) (a : Addr) : (cellL n w a).length = n := by simp [cellL]
theorem all_one {vs : List Value} (h : ∀ u ∈ vs, u.oneCell' = true) : vs.toArray.all (·.oneCell') = true := all_oneCell_toArray h
section
variable {T n : Nat} {D : TypeDesc} {w : World} {a : Addr}
theorem loadN (hu : Tryz.prog.underlying T = some D) (hd : D.isRow = true) (hz : (Tryz.prog.info? T).map (·.size) = some n) (h : IsRow n w a) : (Instr.loadAt T (.pointer (some a))).run Tryz.prog w = .ok (.agg (cellL n w a).toArray) w := by
  obtain ⟨vs, hn, h⟩ := h
  rw [h.cells hn]
  obtain ⟨b, o, sp⟩ := a
  obtain ⟨h0, h1⟩ := h
  simp only at h0
  subst h0
  exact run_loadAt_mid (P := Tryz.prog) w b o T vs D h1 hu hd (by rw [hn]; exact hz)
theorem storeN (hz : (Tryz.prog.info? T).map (·.size) = some n) (h : RoomN n w a) {v : Value} (hv : OneN n v) : (Instr.storeAt T (.pointer (some a)) v).run Tryz.prog w = .ok () (w.setCells a.block a.off (cellsV v)) := by
  obtain ⟨vs, hn, h1, rfl⟩ := hv
  obtain ⟨b, o, sp⟩ := a
  obtain ⟨h0, h2⟩ := h
  simp only at h0
  subst h0
  have := run_storeAt_mid (P := Tryz.prog) w b o T vs.toArray (by simpa [hn] using h2) (by simpa [hn] using hz) (all_one h1)
  rw [cellsV_mk]
  simpa using this
end
section
variable {T n : Nat} {D : TypeDesc} {ρ : Operand → Value} {d : Option Tmp} {x y : Operand} {t : TypeId} {p : String} {af : Array Edge} {gd : Option (Nat × Bool)} {w : World}
theorem exec_loadN (hu : Tryz.prog.underlying T = some D) (hd : D.isRow = true) (hz : (Tryz.prog.info? T).map (·.size) = some n) (h1 : isPt (ρ x) = true) (h2 : IsRow n w (adOf (ρ x))) :
    (execOp ρ ⟨d, .load T x, t, p, af, gd⟩).run Tryz.prog w = .ok (.value (.agg (cellL n w (adOf (ρ x))).toArray)) w := by
  have e := isPt_eq h1
  simp only [execOp]
  rw [e] at h2 ⊢
  simp only [adOf_mk] at h2 ⊢
  simp [loadN hu hd hz h2, Result.andThen]
theorem exec_storeN (hz : (Tryz.prog.info? T).map (·.size) = some n) (h1 : isPt (ρ x) = true) (h2 : RoomN n w (adOf (ρ x))) (h3 : OneN n (ρ y)) :
    (execOp ρ ⟨d, .store T x y, t, p, af, gd⟩).run Tryz.prog w = .ok .skip (w.setCells (adOf (ρ x)).block (adOf (ρ x)).off (cellsV (ρ y))) := by
  have e := isPt_eq h1
  simp only [execOp]
  rw [e] at h2 ⊢
  simp only [adOf_mk] at h2 ⊢
  simp [storeN hz h2 h3, Result.andThen]
theorem exec_allocN {cs : Array Value} (hz : ∀ w, (zeroValue T).run Tryz.prog w = .ok (.agg cs) w) : (execOp ρ ⟨d, .alloc T, t, p, af, gd⟩).run Tryz.prog w = .ok (.value (.pointer (some ⟨w.heap.size, 0, none⟩))) (w.alloc (.cells cs T)) := by
  simp only [execOp, Instr.alloc]
  simp only [Sem.run_bind, hz, Result.andThen_ok]
  rfl
end
/-! A fresh box -/
theorem alloc_setN (w : World) (T : Nat) {vs us : List Value} {n : Nat} (hn : n = w.heap.size) (hl : vs.length = us.length) : (w.alloc (.cells vs.toArray T)).setCells n 0 us = w.alloc (.cells us.toArray T) := by
  subst hn
  have := alloc_setCellsL w T us [] vs [] hl
  simpa using this
theorem row_new (w : World) (T : Nat) (vs : List Value) {n : Nat} (hn : n = w.heap.size) : RowAt (w.alloc (.cells vs.toArray T)) ⟨n, 0, none⟩ vs := by
  subst hn
  exact ⟨rfl, fun j v hv => by rw [show (⟨w.heap.size, 0, none⟩ : Addr).off + j = j by show 0 + j = j; omega, cell_new]; simpa using hv⟩
theorem roomN_new (w : World) (T : Nat) (vs : List Value) {n k : Nat} (hn : n = w.heap.size) (hk : vs.length = k) : RoomN k (w.alloc (.cells vs.toArray T)) ⟨n, 0, none⟩ := by
  subst hn
  refine ⟨rfl, fun j hj => ?_⟩
  rw [show (⟨w.heap.size, 0, none⟩ : Addr).off + j = j by show 0 + j = j; omega, cell_new, frozen_new]
  refine ⟨?_, rfl⟩
  rw [List.getElem?_toArray, List.getElem?_eq_getElem (by omega)]
  rfl
theorem RowAt.of {w w' : World} {a : Addr} {vs : List Value} (h : RowAt w a vs) (hc : ∀ o v, w.cell? ⟨a.block, o, none⟩ = some v → w'.cell? ⟨a.block, o, none⟩ = some v) : RowAt w' a vs := ⟨h.1, fun j v hv => hc _ _ (h.2 j v hv)⟩
theorem RowAt.below {w w' : World} {B : Nat} {a : Addr} {vs : List Value} (h : RowAt w a vs) (hb : Below B w w') (ha : a.block < B) : RowAt w' a vs := h.of fun o v hc => (hb.cell (p := ⟨a.block, o, none⟩) ha).trans hc
theorem IsRow.below {w w' : World} {B n : Nat} {a : Addr} (h : IsRow n w a) (hb : Below B w w') (ha : a.block < B) : IsRow n w' a := by
  obtain ⟨vs, hn, h⟩ := h
  exact ⟨vs, hn, h.below hb ha⟩
theorem cellL_past {n : Nat} {w : World} {o : Obj} {b k : Nat} (h : b < w.heap.size) : cellL n (w.alloc o) ⟨b, k, none⟩ = cellL n w ⟨b, k, none⟩ := by
  unfold cellL
  simp only [cell_past h]
theorem isRow_past {n : Nat} {w : World} {o : Obj} {b k : Nat} (h : b < w.heap.size) : IsRow n (w.alloc o) ⟨b, k, none⟩ ↔ IsRow n w ⟨b, k, none⟩ := by
  unfold IsRow RowAt World.rangeAt
  simp only [cell_past h]
theorem roomN_past {n : Nat} {w : World} {o : Obj} {b k : Nat} (h : b < w.heap.size) : RoomN n (w.alloc o) ⟨b, k, none⟩ ↔ RoomN n w ⟨b, k, none⟩ := by
  unfold RoomN World.there
  simp only [cell_past h, frozen_past h]
theorem isRow_drew {n : Nat} (w : World) (a : Addr) : IsRow n w.drew a ↔ IsRow n w a := Iff.rfl
theorem cellL_drew {n : Nat} (w : World) (a : Addr) : cellL n w.drew a = cellL n w a := not_rfl rfl
theorem roomN_drew {n : Nat} (w : World) (a : Addr) : RoomN n w.drew a ↔ RoomN n w a := Iff.rfl
theorem isRow_new (w : World) (T : Nat) (vs : List Value) {n k : Nat} (hn : n = w.heap.size) (hk : vs.length = k) : IsRow k (w.alloc (.cells vs.toArray T)) ⟨n, 0, none⟩ := (row_new w T vs hn).is hk
theorem cellL_new (w : World) (T : Nat) (vs : List Value) {n k : Nat} (hn : n = w.heap.size) (hk : vs.length = k) : cellL k (w.alloc (.cells vs.toArray T)) ⟨n, 0, none⟩ = vs := (row_new w T vs hn).cells hk
end Go.Proofs.YtdhidcoglioalaaGreat.Walks
