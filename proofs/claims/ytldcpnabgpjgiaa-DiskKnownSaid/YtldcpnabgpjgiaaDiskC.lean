/-
  Long structs as whole values, in whatever place: wishes (10 cells), notes (58), what comes of something (75).
-/
import Derived.Test.YtldcpnabgpjgiaaDiskB
import Derived.Test.YtldcpnabgpjgiaaMarks
import Derived.Deep.MidRow
namespace Go.Proofs.Ytldcpnabgpjgiaa.Walks
open Go.RowKit Plain
set_option linter.unusedVariables false

/-! ### Loads and stores at one go -/
/-- What a pointer points to. -/
def adV : Value → Addr
  | .pointer (some a) => a
  | _ => ⟨0, 0, none⟩
def isPV : Value → Bool
  | .pointer (some _) => true
  | _ => false
theorem adV_mk (a : Addr) : adV (.pointer (some a)) = a := rfl
theorem isPV_mk (a : Addr) : isPV (.pointer (some a)) = true := not_rfl rfl
theorem isPV_eq {v : Value} (h : isPV v = true) : v = .pointer (some (adV v)) := by
  unfold isPV at h
  split at h
  · rfl
  · cases h
/-- The cells that lie there. -/
def cellsAt (w : World) (a : Addr) (n : Nat) : List Value := (List.range n).map fun j => (w.cell? ⟨a.block, a.off + j, none⟩).getD undef
structure Held (w : World) (a : Addr) (n : Nat) : Prop where
  spot : a.spot = none
  all : ∀ j, j < n → ∃ v, w.cell? ⟨a.block, a.off + j, none⟩ = some v
structure Room (w : World) (a : Addr) (n : Nat) : Prop where
  spot : a.spot = none
  all : w.there a.block a.off n
theorem cellsAt_len (w : World) (a : Addr) (n : Nat) : (cellsAt w a n).length = n := by simp [cellsAt]
theorem Held.range {w : World} {a : Addr} {n : Nat} (h : Held w a n) : w.rangeAt a.block a.off (cellsAt w a n) := fun j v hv => by
  obtain ⟨hlt, _⟩ := List.getElem?_eq_some_iff.1 hv
  rw [cellsAt_len] at hlt
  obtain ⟨u, hu⟩ := h.2 j hlt
  simp only [cellsAt, List.getElem?_map, List.getElem?_range hlt, Option.map_some, Option.some.injEq] at hv
  rw [hu] at hv ⊢
  exact congrArg some hv
theorem load_agg {T : TypeId} {n : Nat} {desc : TypeDesc} (hu : Try.prog.underlying T = some desc) (hd : desc.isRow = true) (hi : (Try.prog.info? T).map (·.size) = some n) {w : World} {a : Addr} (h : Held w a n) :
    (Instr.loadAt T (.pointer (some a))).run Try.prog w = .ok (.agg (cellsAt w a n).toArray) w := by
  obtain ⟨b, o, sp⟩ := a
  have h0 := h.1
  simp only at h0
  subst h0
  have := run_loadAt_mid (P := Try.prog) w b o T (cellsAt w ⟨b, o, none⟩ n) _ h.range hu hd (by rw [cellsAt_len]; exact hi)
  simpa using this
/-- A whole value of so many cells. -/
def isAgg (n : Nat) (v : Value) : Prop := v = .agg v.cells ∧ v.cells.size = n ∧ v.cells.all (·.oneCell') = true
theorem store_agg {T : TypeId} {n : Nat} (hi : (Try.prog.info? T).map (·.size) = some n) {w : World} {a : Addr} {v : Value} (h : Room w a n) (hv : isAgg n v) :
    (Instr.storeAt T (.pointer (some a)) v).run Try.prog w = .ok () (w.setCells a.block a.off v.cells.toList) := by
  obtain ⟨b, o, sp⟩ := a
  have h0 := h.1
  simp only at h0
  subst h0
  obtain ⟨h1, h2, h3⟩ := hv
  have := run_storeAt_mid (P := Try.prog) w b o T v.cells (by rw [h2]; exact h.2) (by rw [h2]; exact hi) h3
  rw [h1]
  exact this
theorem cells_agg (l : List Value) : (Value.agg l.toArray).cells.toList = l := rfl
section
variable {ρ : Operand → Value} {d : Option Tmp} {x y : Operand} {t : TypeId} {p : String} {af : Array Edge} {gd : Option (Nat × Bool)} {w : World}
theorem exec_loadA {T : TypeId} {n : Nat} {desc : TypeDesc} (hu : Try.prog.underlying T = some desc) (hd : desc.isRow = true) (hi : (Try.prog.info? T).map (·.size) = some n) (h1 : isPV (ρ x) = true) (h2 : Held w (adV (ρ x)) n) :
    (execOp ρ ⟨d, .load T x, t, p, af, gd⟩).run Try.prog w = .ok (.value (.agg (cellsAt w (adV (ρ x)) n).toArray)) w := by
  have e := isPV_eq h1
  simp only [execOp]
  generalize adV (ρ x) = a at *
  rw [e]
  simp [load_agg hu hd hi h2, Result.andThen]
theorem exec_storeA {T : TypeId} {n : Nat} (hi : (Try.prog.info? T).map (·.size) = some n) (h1 : isPV (ρ x) = true) (h2 : Room w (adV (ρ x)) n) (h3 : isAgg n (ρ y)) :
    (execOp ρ ⟨d, .store T x y, t, p, af, gd⟩).run Try.prog w = .ok .skip (w.setCells (adV (ρ x)).block (adV (ρ x)).off (ρ y).cells.toList) := by
  have e := isPV_eq h1
  simp only [execOp]
  generalize adV (ρ x) = a at *
  rw [e]
  simp [store_agg hi h2 h3, Result.andThen]
theorem exec_load81 (h1 : isPV (ρ x) = true) (h2 : Held w (adV (ρ x)) 58) : (execOp ρ ⟨d, .load 81 x, t, p, af, gd⟩).run Try.prog w = .ok (.value (.agg (cellsAt w (adV (ρ x)) 58).toArray)) w := exec_loadA Try.underlying81 rfl z81 h1 h2
theorem exec_load90 (h1 : isPV (ρ x) = true) (h2 : Held w (adV (ρ x)) 75) : (execOp ρ ⟨d, .load 90 x, t, p, af, gd⟩).run Try.prog w = .ok (.value (.agg (cellsAt w (adV (ρ x)) 75).toArray)) w := exec_loadA Try.underlying90 rfl z90 h1 h2
theorem exec_load88 (h1 : isPV (ρ x) = true) (h2 : Held w (adV (ρ x)) 10) : (execOp ρ ⟨d, .load 88 x, t, p, af, gd⟩).run Try.prog w = .ok (.value (.agg (cellsAt w (adV (ρ x)) 10).toArray)) w := exec_loadA Try.underlying88 rfl z88 h1 h2
theorem exec_store81 (h1 : isPV (ρ x) = true) (h2 : Room w (adV (ρ x)) 58) (h3 : isAgg 58 (ρ y)) : (execOp ρ ⟨d, .store 81 x y, t, p, af, gd⟩).run Try.prog w = .ok .skip (w.setCells (adV (ρ x)).block (adV (ρ x)).off (ρ y).cells.toList) := exec_storeA z81 h1 h2 h3
theorem exec_store90 (h1 : isPV (ρ x) = true) (h2 : Room w (adV (ρ x)) 75) (h3 : isAgg 75 (ρ y)) : (execOp ρ ⟨d, .store 90 x y, t, p, af, gd⟩).run Try.prog w = .ok .skip (w.setCells (adV (ρ x)).block (adV (ρ x)).off (ρ y).cells.toList) := exec_storeA z90 h1 h2 h3
theorem exec_store88 (h1 : isPV (ρ x) = true) (h2 : Room w (adV (ρ x)) 10) (h3 : isAgg 10 (ρ y)) : (execOp ρ ⟨d, .store 88 x y, t, p, af, gd⟩).run Try.prog w = .ok .skip (w.setCells (adV (ρ x)).block (adV (ρ x)).off (ρ y).cells.toList) := exec_storeA z88 h1 h2 h3
end

theorem held_drew (w : World) (a : Addr) (n : Nat) : Held w.drew a n ↔ Held w a n := ⟨fun h => ⟨h.1, h.2⟩, fun h => ⟨h.1, h.2⟩⟩
theorem room_drew (w : World) (a : Addr) (n : Nat) : Room w.drew a n ↔ Room w a n := ⟨fun h => ⟨h.1, h.2⟩, fun h => ⟨h.1, h.2⟩⟩
theorem cellsAt_drew (w : World) (a : Addr) (n : Nat) : cellsAt w.drew a n = cellsAt w a n := rfl
/-! ### Blocks that are known whole -/
/-- A block's cells. -/
def Blk (w : World) (g : Nat) (l : List Value) (t : TypeId) : Prop := w.heap[g]? = some (.cells l.toArray t (0, 0))
theorem Blk.cell {w : World} {g : Nat} {l : List Value} {t : TypeId} (h : Blk w g l t) {i : Nat} {v : Value} (hv : l[i]? = some v) : w.cell? ⟨g, i, none⟩ = some v := by
  rw [cell_of_row _ _ _ _ _ _ h]; simpa using hv
theorem Blk.free {w : World} {g : Nat} {l : List Value} {t : TypeId} (h : Blk w g l t) (i : Nat) : w.frozen? ⟨g, i, none⟩ = false := by
  simp [World.frozen?, show w.heap[g]? = some (.cells l.toArray t (0, 0)) from h]
theorem Blk.lt {w : World} {g : Nat} {l : List Value} {t : TypeId} (h : Blk w g l t) : g < w.heap.size := lt_of_heap h
theorem Blk.below {w w' : World} {g : Nat} {l : List Value} {t : TypeId} (h : Blk w g l t) (hb : Below w.heap.size w w') : Blk w' g l t := (hb.block g h.lt).trans h
theorem Blk.new (w : World) (l : List Value) (t : TypeId) : Blk (w.alloc (.cells l.toArray t)) w.heap.size l t := heap_alloc_new _ _
theorem Blk.held {w : World} {g : Nat} {l : List Value} {t : TypeId} (h : Blk w g l t) {o n : Nat} (hn : o + n ≤ l.length) : Held w ⟨g, o, none⟩ n :=
  ⟨rfl, fun j hj => ⟨_, h.cell (List.getElem?_eq_getElem (show o + j < l.length by omega))⟩⟩
theorem Blk.room {w : World} {g : Nat} {l : List Value} {t : TypeId} (h : Blk w g l t) {o n : Nat} (hn : o + n ≤ l.length) : Room w ⟨g, o, none⟩ n :=
  ⟨rfl, fun j hj => ⟨by rw [h.cell (List.getElem?_eq_getElem (show o + j < l.length by omega))]; rfl, h.free _⟩⟩
theorem Blk.cells {w : World} {g : Nat} {l : List Value} {t : TypeId} (h : Blk w g l t) {o n : Nat} (hn : o + n ≤ l.length) : cellsAt w ⟨g, o, none⟩ n = (l.drop o).take n := by
  apply List.ext_getElem?
  intro i
  by_cases hi : i < n
  · simp only [cellsAt, List.getElem?_map, List.getElem?_range hi, Option.map_some, List.getElem?_take, hi, if_true, List.getElem?_drop]
    rw [h.cell (List.getElem?_eq_getElem (show o + i < l.length by omega)), List.getElem?_eq_getElem (show o + i < l.length by omega)]
    rfl
  · rw [List.getElem?_eq_none (by rw [cellsAt_len]; omega), List.getElem?_eq_none (by simp; omega)]
theorem Blk.set {w : World} {g : Nat} {l : List Value} {t : TypeId} (h : Blk w g l t) (i : Nat) (v : Value) : Blk (w.setCell ⟨g, i, none⟩ v) g (l.set i v) t := by
  have := Joins.block_setCell (i := i) h v
  rw [List.setIfInBounds_toArray] at this
  exact this
theorem Blk.other {w : World} {g : Nat} {l : List Value} {t : TypeId} (h : Blk w g l t) {g' : Nat} (hne : g ≠ g') (i : Nat) (v : Value) : Blk (w.setCell ⟨g', i, none⟩ v) g l t := (heap_setCell_ne hne).trans h
/-- Some cells put in from o on. -/
def spl (l : List Value) (o : Nat) (vs : List Value) : List Value := l.take o ++ (vs ++ l.drop (o + vs.length))
theorem Blk.sets {g : Nat} {t : TypeId} : ∀ (vs : List Value) (o : Nat) {w : World} {l : List Value}, Blk w g l t → o + vs.length ≤ l.length → Blk (w.setCells g o vs) g (spl l o vs) t
  | [], o, w, l, h, _ => by
    have e : spl l o [] = l := by simp [spl]
    rw [e]; exact h
  | v :: vs, o, w, l, h, hn => by
    simp only [List.length_cons] at hn
    have := Blk.sets vs (o + 1) (h.set o v) (by simp; omega)
    have e : spl (l.set o v) (o + 1) vs = spl l o (v :: vs) := by
      unfold spl
      have h1 : (l.set o v).take (o + 1) = l.take o ++ [v] := by
        rw [List.take_succ_eq_append_getElem (by simp; omega)]
        simp [List.take_set_of_le]
      rw [h1, List.drop_set_of_lt (by omega)]
      simp only [List.length_cons, List.append_assoc, List.cons_append, List.nil_append]
      rw [show o + 1 + vs.length = o + (vs.length + 1) by omega]
    rw [e] at this
    exact this
theorem sets_other (g g' : Nat) (hne : g ≠ g') : ∀ (vs : List Value) (o : Nat) (w : World), (w.setCells g' o vs).heap[g]? = w.heap[g]?
  | [], _, _ => rfl
  | v :: vs, o, w => (sets_other g g' hne vs (o + 1) _).trans (heap_setCell_ne hne)
theorem Blk.others {w : World} {g : Nat} {l : List Value} {t : TypeId} (h : Blk w g l t) {g' : Nat} (hne : g ≠ g') (o : Nat) (vs : List Value) : Blk (w.setCells g' o vs) g l t := (sets_other g g' hne vs o w).trans h
theorem spl_all {l vs : List Value} (h : vs.length = l.length) : spl l 0 vs = vs := by
  unfold spl; rw [Nat.zero_add, h, List.drop_length]; simp
theorem TL.sets {t : TypeId} {k : IntKind} {w : World} {a : Option Addr} {l : List Int} (h : TL t k w a l) {g : Nat} {cs : List Value} {t' : TypeId} (hg : Blk w g cs t') (ht : t' ≠ t) (o : Nat) (vs : List Value) : TL t k (w.setCells g o vs) a l :=
  h.same fun b cur fz' hc => by
    have hne : b ≠ g := by
      rintro rfl
      have hg' : w.heap[b]? = some (.cells cs.toArray t' (0, 0)) := hg
      rw [hg'] at hc
      cases hc
      exact ht rfl
    rw [sets_other _ _ hne]; exact hc
theorem BL.set {w : World} {a : Option Addr} {l : List Int} (h : BL w a l) {g : Nat} {cs : List Value} {t' : TypeId} (hg : Blk w g cs t') (ht : t' ≠ 5) (i : Nat) (v : Value) : BL (w.setCell ⟨g, i, none⟩ v) a l := ⟨h.1.set hg ht i v, h.2⟩
theorem BL.sets {w : World} {a : Option Addr} {l : List Int} (h : BL w a l) {g : Nat} {cs : List Value} {t' : TypeId} (hg : Blk w g cs t') (ht : t' ≠ 5) (o : Nat) (vs : List Value) : BL (w.setCells g o vs) a l := ⟨h.1.sets hg ht o vs, h.2⟩
theorem below_sets {B : Nat} {a : World} {g : Nat} (hg : B ≤ g) : ∀ (vs : List Value) (o : Nat) {w : World}, Below B a w → Below B a (w.setCells g o vs)
  | [], _, _, h => h
  | v :: vs, o, _, h => below_sets hg vs (o + 1) (h.setCell (by simpa using hg) _)
theorem load_blk {T : TypeId} {n : Nat} {desc : TypeDesc} (hu : Try.prog.underlying T = some desc) (hd : desc.isRow = true) (hi : (Try.prog.info? T).map (·.size) = some n) {w : World} {g : Nat} {l : List Value} {t : TypeId} (h : Blk w g l t) (hc : l.length = n) :
    (loadVar T ⟨g, 0, none⟩).run Try.prog w = .ok (.agg l.toArray) w := loadBlock hu hd hi h (by simpa using hc)

/-! ### The cells of a wish, a note -/
def wishL (W : Wi) (a : Option Addr) (c : Nat) : List Value := [.int .i64 W.client, .int .i64 W.stamp, .int .i64 W.group, .int .i64 W.epoch, .int .i64 W.kind, .int .i64 W.block, .slice a W.data.length c, .int .i64 W.old, .int .i64 W.new, .slice none 0 0]
def rootL : List Value := [.int .u8 0, .int .u8 0, .int .u8 0, .int .u8 0, .int .u8 0, .int .u8 0, .int .u8 0, .int .u8 0, .int .u8 0, .int .u8 0, .int .u8 0, .int .u8 0, .int .u8 0, .int .u8 0, .int .u8 0, .int .u8 0, .int .u8 0, .int .u8 0, .int .u8 0, .int .u8 0, .int .u8 0, .int .u8 0, .int .u8 0, .int .u8 0, .int .u8 0, .int .u8 0, .int .u8 0, .int .u8 0, .int .u8 0, .int .u8 0, .int .u8 0, .int .u8 0]
def tailL : List Value := [.int .i64 0, .int .i64 0, .int .i64 0, .slice none 0 0, .slice none 0 0, .slice none 0 0, .slice none 0 0, .slice none 0 0, .int .i64 0, .int .i64 0, .slice none 0 0, .slice none 0 0, .slice none 0 0]
def ansL (A : An) (da : Option Addr) (dc : Nat) (na : Option Addr) (nc : Nat) : List Value := [.int .i64 A.err, .slice da A.data.length dc, .int .i64 A.ep, .slice na A.nodes.length nc]
/-- A note: kind, from, group, epoch, its batch, its answer, stamp, node. -/
def noteL (kind fr group epoch : Int) (b : Value) (ans : List Value) (stamp node : Int) : List Value :=
  [.int .i64 kind, .int .i64 fr, .int .i64 group, .int .i64 epoch, .int .i64 0, .int .i64 0] ++ (rootL ++ (b :: (ans ++ (.int .i64 stamp :: .int .i64 node :: tailL))))
theorem wishL_len (W : Wi) (a : Option Addr) (c : Nat) : (wishL W a c).length = 10 := rfl
theorem ansL_len (A : An) (da : Option Addr) (dc : Nat) (na : Option Addr) (nc : Nat) : (ansL A da dc na nc).length = 4 := rfl
theorem noteL_len {kind fr group epoch : Int} {b : Value} {ans : List Value} {stamp node : Int} (h : ans.length = 4) : (noteL kind fr group epoch b ans stamp node).length = 58 := by simp [noteL, rootL, tailL, h]
theorem wishL_one (W : Wi) (a : Option Addr) (c : Nat) : ∀ v ∈ wishL W a c, v.oneCell' = true := by simp [wishL, Value.oneCell']
theorem agg_of {l : List Value} {n : Nat} (h1 : l.length = n) (h2 : ∀ v ∈ l, v.oneCell' = true) : isAgg n (.agg l.toArray) :=
  ⟨rfl, by simpa [Value.cells] using h1, by simpa [Value.cells] using h2⟩
theorem wish_agg (W : Wi) (a : Option Addr) (c : Nat) : isAgg 10 (.agg (wishL W a c).toArray) := agg_of rfl (wishL_one W a c)
end Go.Proofs.Ytldcpnabgpjgiaa.Walks
