/-
  The law's reply, quiet and says.
-/
import Derived.Test.YtldcpnabgpjgiaaDiskD
namespace Go.Proofs.Ytldcpnabgpjgiaa.Walks
open Go.RowKit Plain
set_option linter.unusedVariables false
attribute [local go_sem] isPV_mk adV_mk cells_agg held_drew room_drew cellsAt_drew
attribute [local go_sem ↓] exec_load88 exec_store88 exec_load81 exec_store81 exec_load90 exec_store90 Go.wp_at_zero Go.wp_at_succ

def zeroA : List Value := [.int .i64 0, .slice none 0 0, .int .i64 0, .slice none 0 0]
def note0 : List Value := noteL 0 0 0 0 (.slice none 0 0) zeroA 0 0
theorem zero81 (w : World) : (zeroValue 81).run Try.prog w = .ok (.agg note0.toArray) w := by kernel_rfl
theorem build81r (fr group epoch : Int) (c0 c1 c2 c3 : Value) (w : World) :
    (Instr.build 81 #[(0, .int .i64 2), (1, .int .i64 fr), (2, .int .i64 group), (3, .int .i64 epoch), (8, .agg #[c0, c1, c2, c3])]).run Try.prog w = .ok (.agg (noteL 2 fr group epoch (.slice none 0 0) [c0, c1, c2, c3] 0 0).toArray) w := by kernel_rfl
theorem build81s (kind fr group epoch : Int) (b : Option Addr) (n c : Nat) (w : World) :
    (Instr.build 81 #[(0, .int .i64 kind), (1, .int .i64 fr), (2, .int .i64 group), (3, .int .i64 epoch), (7, .slice b n c)]).run Try.prog w = .ok (.agg (noteL kind fr group epoch (.slice b n c) zeroA 0 0).toArray) w := by kernel_rfl
/-- Four cells; a slice. -/
def isA4 (v : Value) : Prop := ∃ c0 c1 c2 c3, v = .agg #[c0, c1, c2, c3]
def isSl (v : Value) : Prop := ∃ a n c, v = .slice a n c
theorem isA4_mk (c0 c1 c2 c3 : Value) : isA4 (.agg #[c0, c1, c2, c3]) := ⟨_, _, _, _, rfl⟩
theorem isSl_mk (a : Option Addr) (n c : Nat) : isSl (.slice a n c) := ⟨_, _, _, rfl⟩
section
variable {a : Act} {d : Option Tmp} {x y z u v : Operand} {t : TypeId} {p : String} {af : Array Edge} {gd : Option (Nat × Bool)} {w : World}
theorem exec_alloc81 {ρ : Operand → Value} : (execOp ρ ⟨d, .alloc 81, t, p, af, gd⟩).run Try.prog w = .ok (.value (.pointer (some ⟨w.heap.size, 0, none⟩))) (w.alloc (.cells note0.toArray 81)) := by
  simp only [execOp, Instr.alloc]
  simp only [Sem.run_bind, zero81, Result.andThen_ok]
  rfl
theorem exec_build81k {ρ : Operand → Value} {k : Operand} (h0 : ρ k = .int .i64 2) (h1 : isI (ρ x)) (h2 : isI (ρ y)) (h3 : isI (ρ z)) (h4 : isA4 (ρ u)) :
    (execOp ρ ⟨d, .build 81 #[(0, k), (1, x), (2, y), (3, z), (8, u)], t, p, af, gd⟩).run Try.prog w = .ok (.value (.agg (noteL 2 (RowKit.intOf (ρ x)) (RowKit.intOf (ρ y)) (RowKit.intOf (ρ z)) (.slice none 0 0) (ρ u).cells.toList 0 0).toArray)) w := by
  simp only [execOp]
  have e1 : ρ x = .int .i64 (RowKit.intOf (ρ x)) := h1
  have e2 : ρ y = .int .i64 (RowKit.intOf (ρ y)) := h2
  have e3 : ρ z = .int .i64 (RowKit.intOf (ρ z)) := h3
  obtain ⟨c0, c1, c2, c3, e4⟩ := h4
  have : (Array.map (fun z : Nat × Operand => (z.1, ρ z.2)) #[(0, k), (1, x), (2, y), (3, z), (8, u)]) = #[(0, ρ k), (1, ρ x), (2, ρ y), (3, ρ z), (8, ρ u)] := by simp
  simp only [this]
  rw [h0, e1, e2, e3, e4]
  simp only [intOf_mk, build81r, Sem.run_bind, Result.andThen_ok, Sem.run_pure]
  rfl
theorem exec_build81r (h1 : isI (a.eval x)) (h2 : isI (a.eval y)) (h3 : isI (a.eval z)) (h4 : isA4 (a.eval u)) :
    (execOp a.eval ⟨d, .build 81 #[(0, .const (.int .i64 2)), (1, x), (2, y), (3, z), (8, u)], t, p, af, gd⟩).run Try.prog w = .ok (.value (.agg (noteL 2 (RowKit.intOf (a.eval x)) (RowKit.intOf (a.eval y)) (RowKit.intOf (a.eval z)) (.slice none 0 0) (a.eval u).cells.toList 0 0).toArray)) w := exec_build81k rfl h1 h2 h3 h4
theorem exec_build81s {ρ : Operand → Value} (h0 : isI (ρ v)) (h1 : isI (ρ x)) (h2 : isI (ρ y)) (h3 : isI (ρ z)) (h4 : isSl (ρ u)) :
    (execOp ρ ⟨d, .build 81 #[(0, v), (1, x), (2, y), (3, z), (7, u)], t, p, af, gd⟩).run Try.prog w = .ok (.value (.agg (noteL (RowKit.intOf (ρ v)) (RowKit.intOf (ρ x)) (RowKit.intOf (ρ y)) (RowKit.intOf (ρ z)) (ρ u) zeroA 0 0).toArray)) w := by
  simp only [execOp]
  have e0 : ρ v = .int .i64 (RowKit.intOf (ρ v)) := h0
  have e1 : ρ x = .int .i64 (RowKit.intOf (ρ x)) := h1
  have e2 : ρ y = .int .i64 (RowKit.intOf (ρ y)) := h2
  have e3 : ρ z = .int .i64 (RowKit.intOf (ρ z)) := h3
  obtain ⟨c0, c1, c2, e4⟩ := h4
  have : (Array.map (fun z : Nat × Operand => (z.1, ρ z.2)) #[(0, v), (1, x), (2, y), (3, z), (7, u)]) = #[(0, ρ v), (1, ρ x), (2, ρ y), (3, ρ z), (7, ρ u)] := by simp
  simp only [this]
  rw [e0, e1, e2, e3, e4]
  simp only [build81s, Sem.run_bind, Result.andThen_ok, Sem.run_pure]
  rfl
end
theorem bs69 (c0 c1 c2 c3 c4 c5 c6 c7 c8 c9 : Value) (w : World) : (Instr.buildSlice 69 1 #[(0, .agg #[c0, c1, c2, c3, c4, c5, c6, c7, c8, c9])]).run Try.prog w = .ok (.slice (some ⟨w.heap.size, 0, none⟩) 1 1) (w.alloc (.cells #[c0, c1, c2, c3, c4, c5, c6, c7, c8, c9] 88)) := by
  kernel_rfl
theorem ten {l : List Value} (h : l.length = 10) : ∃ c0 c1 c2 c3 c4 c5 c6 c7 c8 c9, l = [c0, c1, c2, c3, c4, c5, c6, c7, c8, c9] := by
  match l, h with
  | [c0, c1, c2, c3, c4, c5, c6, c7, c8, c9], _ => exact ⟨_, _, _, _, _, _, _, _, _, _, rfl⟩
section
variable {ρ : Operand → Value} {d : Option Tmp} {x : Operand} {t : TypeId} {p : String} {af : Array Edge} {gd : Option (Nat × Bool)} {w : World}
theorem exec_bs69 (h : isAgg 10 (ρ x)) : (execOp ρ ⟨d, .buildSlice 69 1 #[(0, x)], t, p, af, gd⟩).run Try.prog w = .ok (.value (.slice (some ⟨w.heap.size, 0, none⟩) 1 1)) (w.alloc (.cells (ρ x).cells 88)) := by
  obtain ⟨h1, h2, _⟩ := h
  obtain ⟨c0, c1, c2, c3, c4, c5, c6, c7, c8, c9, e⟩ := ten (l := (ρ x).cells.toList) (by simpa using h2)
  have e' : (ρ x).cells = #[c0, c1, c2, c3, c4, c5, c6, c7, c8, c9] := by rw [← Array.toArray_toList (xs := (ρ x).cells), e]
  rw [e'] at h1 ⊢
  simp only [execOp]
  have : (Array.map (fun z : Nat × Operand => (z.1, ρ z.2)) #[(0, x)]) = #[(0, ρ x)] := by simp
  simp only [this]
  rw [h1]
  simp only [bs69, Sem.run_bind, Result.andThen_ok, Sem.run_pure]
end
theorem cells_agg' (l : List Value) : (Value.agg l.toArray).cells = l.toArray := rfl
attribute [local go_sem] isA4_mk isSl_mk isI_mk intOf_mk cells_agg'
attribute [local go_sem ↓] exec_alloc81 exec_build81r exec_build81s exec_bs69
theorem note_one {kind fr group epoch : Int} {a : Option Addr} {n c : Nat} {ans : List Value} {stamp node : Int} (h : ∀ v ∈ ans, v.oneCell' = true) : ∀ v ∈ noteL kind fr group epoch (.slice a n c) ans stamp node, v.oneCell' = true := by
  intro v hv
  simp only [noteL, rootL, tailL, List.mem_append, List.mem_cons, List.not_mem_nil, or_false] at hv
  rcases hv with hv | hv | hv | hv | hv | hv | hv
  · rcases hv with rfl | rfl | rfl | rfl | rfl | rfl <;> rfl
  · rcases hv with rfl | rfl | rfl | rfl | rfl | rfl | rfl | rfl | rfl | rfl | rfl | rfl | rfl | rfl | rfl | rfl | rfl | rfl | rfl | rfl | rfl | rfl | rfl | rfl | rfl | rfl | rfl | rfl | rfl | rfl | rfl | rfl <;> rfl
  · subst hv; rfl
  · exact h v hv
  · subst hv; rfl
  · subst hv; rfl
  · rcases hv with rfl | rfl | rfl | rfl | rfl | rfl | rfl | rfl | rfl | rfl | rfl | rfl | rfl <;> rfl
theorem ansL_one (A : An) (da : Option Addr) (dc : Nat) (na : Option Addr) (nc : Nat) : ∀ v ∈ ansL A da dc na nc, v.oneCell' = true := by simp [ansL, Value.oneCell']
theorem zeroA_one : ∀ v ∈ zeroA, v.oneCell' = true := by simp [zeroA, Value.oneCell']
theorem note_agg {kind fr group epoch : Int} {a : Option Addr} {n c : Nat} {ans : List Value} {stamp node : Int} (h1 : ans.length = 4) (h : ∀ v ∈ ans, v.oneCell' = true) : isAgg 58 (.agg (noteL kind fr group epoch (.slice a n c) ans stamp node).toArray) := agg_of (noteL_len h1) (note_one h)

theorem three_blk (w : World) (t t' t2 : TypeId) (l l' l2 : List Value) : ∃ w2, w2 = ((w.alloc (.cells l.toArray t)).alloc (.cells l'.toArray t')).alloc (.cells l2.toArray t2) ∧ Below w.heap.size w w2 ∧ w2.heap.size = w.heap.size + 3 ∧
    Blk w2 w.heap.size l t ∧ Blk w2 (w.heap.size + 1) l' t' ∧ Blk w2 (w.heap.size + 2) l2 t2 := by
  obtain ⟨w1, h1, h2, h3, h4, h5⟩ := two_blk w t t' l l'
  rw [← h1]
  refine ⟨_, rfl, Below.step h2 (Below.new _ _), by simp [h3], h4.below (Below.new _ _), h5.below (Below.new _ _), ?_⟩
  have := Blk.new w1 l2 t2
  rw [h3] at this
  exact this
set_option maxRecDepth 100000 in
set_option maxHeartbeats 4000000 in
theorem reply_any (fr kind from' : Int) (W : Wi) (g : Nat) (wa : Option Addr) (wc : Nat) (A : An) (da : Option Addr) (dc : Nat) (na : Option Addr) (nc : Nat) (w : World) (hB : Blk w g (wishL W wa wc) 88) :
    Calls Try.prog 50 #[.int .i64 fr, .agg (noteL kind from' W.group W.epoch (.slice (some ⟨g, 0, none⟩) 1 1) zeroA 0 0).toArray, .agg (ansL A da dc na nc).toArray] w
      fun e w' => e = .returned (.agg (noteL 2 fr W.group W.epoch (.slice none 0 0) (ansL A da dc na nc) W.stamp W.client).toArray) ∧ Below w.heap.size w w' := by
  have HB := Lib.hid hB
  clear hB
  show Calls Try.prog 50 #[.int .i64 fr, .agg (noteL kind from' W.group W.epoch (.slice (some ⟨g, 0, none⟩) 1 1) zeroA 0 0).toArray, .agg #[.int .i64 A.err, .slice da A.data.length dc, .int .i64 A.ep, .slice na A.nodes.length nc]] w _
  go_enter Try.func50, Try.ntmps50
  go_upto_region 1 with (fail)
  obtain ⟨w2, hw2, hb2, hz2, hN, hA, hR⟩ := three_blk w 81 72 81 (noteL kind from' W.group W.epoch (.slice (some ⟨g, 0, none⟩) 1 1) zeroA 0 0) [.int .i64 A.err, .slice da A.data.length dc, .int .i64 A.ep, .slice na A.nodes.length nc] note0
  rw [← hw2]
  clear hw2
  have hBw := HB.out.below hb2
  have n2 := hN.cell (i := 2) rfl
  have n3 := hN.cell (i := 3) rfl
  have a0 := hA.cell (i := 0) rfl
  have a1 := hA.cell (i := 1) rfl
  have a2 := hA.cell (i := 2) rfl
  have a3 := hA.cell (i := 3) rfl
  have hT := Blk.new w2 note0 81
  have e3 := hT.room (o := 0) (n := 58) (Nat.le_refl _)
  have e4 : isAgg 58 (.agg (noteL 2 fr W.group W.epoch (.slice none 0 0) [.int .i64 A.err, .slice da A.data.length dc, .int .i64 A.ep, .slice na A.nodes.length nc] 0 0).toArray) := note_agg rfl (ansL_one A da dc na nc)
  have HN := Lib.hid hN
  have HR := Lib.hid hR
  have HBW := Lib.hid hBw
  have HB2 := Lib.hid hb2
  have HT := Lib.hid hT
  have HZ2 := Lib.hid hz2
  clear hN hA hR hBw hb2 hT hz2
  go_upto_region 2 with (fail)
  obtain ⟨w3, hw3⟩ : ∃ x, x = (w2.alloc (.cells note0.toArray 81)).setCells w2.heap.size 0 (noteL 2 fr W.group W.epoch (.slice none 0 0) [.int .i64 A.err, .slice da A.data.length dc, .int .i64 A.ep, .slice na A.nodes.length nc] 0 0) := ⟨_, rfl⟩
  have hz : w.heap.size + 3 = w2.heap.size := HZ2.out.symm
  have hT3 : Blk w3 w2.heap.size (noteL 2 fr W.group W.epoch (.slice none 0 0) (ansL A da dc na nc) 0 0) 81 := by
    rw [hw3]; have := HT.out.sets (noteL 2 fr W.group W.epoch (.slice none 0 0) [.int .i64 A.err, .slice da A.data.length dc, .int .i64 A.ep, .slice na A.nodes.length nc] 0 0) 0 (Nat.le_refl _)
    rw [spl_all (by rfl)] at this; exact this
  have hN3 : Blk w3 w.heap.size (noteL kind from' W.group W.epoch (.slice (some ⟨g, 0, none⟩) 1 1) zeroA 0 0) 81 := by
    rw [hw3]; exact (HN.out.below (Below.new _ _)).others (by omega) _ _
  have hW3 : Blk w3 g (wishL W wa wc) 88 := by
    rw [hw3]; exact (HBW.out.below (Below.new _ _)).others (by have := HBW.out.lt; omega) _ _
  have hR3 : Blk w3 (w.heap.size + 2) note0 81 := by
    rw [hw3]; exact (HR.out.below (Below.new _ _)).others (by omega) _ _
  have hb3 : Below w.heap.size w w3 := by
    rw [hw3]; exact below_sets (by omega) _ 0 (Below.step HB2.out (Below.new _ _))
  rw [← hw3]
  clear hw3 n2 n3 a0 a1 a2 a3 e3 e4
  have n38 := hN3.cell (i := 38) rfl
  have m0 := hW3.cell (i := 0) rfl
  have t44 := hT3.cell (i := 44) rfl
  have f44 := hT3.free 44
  have HT3 := Lib.hid hT3
  have HN3 := Lib.hid hN3
  have HW3 := Lib.hid hW3
  have HR3 := Lib.hid hR3
  have HB3 := Lib.hid hb3
  have HZ3 := Lib.hid hz
  have HGT : Hid (g ≠ w2.heap.size ∧ g ≠ w.heap.size + 2) := Lib.hid ⟨by have := HBW.out.lt; omega, by have := HB.out.lt; omega⟩
  clear hT3 hN3 hW3 hR3 hb3 hz HT HN HBW HR HB2 HZ2
  go_upto_region 4 with (fail)
  obtain ⟨w4, hw4⟩ : ∃ x, x = w3.setCell ⟨w2.heap.size, 44, none⟩ (.int .i64 W.client) := ⟨_, rfl⟩
  have hz := HZ3.out
  have hT4 : Blk w4 w2.heap.size (noteL 2 fr W.group W.epoch (.slice none 0 0) (ansL A da dc na nc) 0 W.client) 81 := by
    rw [hw4]; exact HT3.out.set 44 _
  have hN4 : Blk w4 w.heap.size (noteL kind from' W.group W.epoch (.slice (some ⟨g, 0, none⟩) 1 1) zeroA 0 0) 81 := by
    rw [hw4]; exact HN3.out.other (by omega) _ _
  have hW4 : Blk w4 g (wishL W wa wc) 88 := by
    rw [hw4]; exact HW3.out.other HGT.out.1 _ _
  have hR4 : Blk w4 (w.heap.size + 2) note0 81 := by
    rw [hw4]; exact HR3.out.other (by omega) _ _
  have hb4 : Below w.heap.size w w4 := by
    rw [hw4]; exact HB3.out.setCell (by simp; omega) _
  rw [← hw4]
  clear hw4 n38 m0 t44 f44
  have n38 := hN4.cell (i := 38) rfl
  have m1 := hW4.cell (i := 1) rfl
  have t43 := hT4.cell (i := 43) rfl
  have f43 := hT4.free 43
  have hT5 : Blk (w4.setCell ⟨w2.heap.size, 43, none⟩ (.int .i64 W.stamp)) w2.heap.size (noteL 2 fr W.group W.epoch (.slice none 0 0) (ansL A da dc na nc) W.stamp W.client) 81 := hT4.set 43 _
  have hR5 := hR4.other (g' := w2.heap.size) (by omega) 43 (.int .i64 W.stamp)
  have e1 : cellsAt (w4.setCell ⟨w2.heap.size, 43, none⟩ (.int .i64 W.stamp)) ⟨w2.heap.size, 0, none⟩ 58 = noteL 2 fr W.group W.epoch (.slice none 0 0) (ansL A da dc na nc) W.stamp W.client := hT5.cells (Nat.le_refl _)
  have e2 := hT5.held (o := 0) (n := 58) (Nat.le_refl _)
  have e3 := hR5.room (o := 0) (n := 58) (Nat.le_refl _)
  rw [Nat.add_succ, Nat.add_succ, Nat.add_zero] at e3
  have e4 : isAgg 58 (.agg (noteL 2 fr W.group W.epoch (.slice none 0 0) (ansL A da dc na nc) W.stamp W.client).toArray) := note_agg rfl (ansL_one A da dc na nc)
  have hR6 := hR5.sets (noteL 2 fr W.group W.epoch (.slice none 0 0) (ansL A da dc na nc) W.stamp W.client) 0 (Nat.le_refl _)
  rw [spl_all (by rfl)] at hR6
  have HR6 := Lib.hid hR6
  have HB6 := Lib.hid (below_sets (g := w.heap.size + 2) (by omega) (noteL 2 fr W.group W.epoch (.slice none 0 0) (ansL A da dc na nc) W.stamp W.client) 0 (hb4.setCell (p := ⟨w2.heap.size, 43, none⟩) (by simp; omega) (.int .i64 W.stamp)))
  clear hT4 hN4 hW4 hR4 hb4 hT5 hR5 hR6 hz
  go_wp2_with fail
  have r1 := load_blk Try.underlying81 rfl z81 HR6.out rfl
  refine bodyPost_ret (v := .agg (noteL 2 fr W.group W.epoch (.slice none 0 0) (ansL A da dc na nc) W.stamp W.client).toArray) (by simp [results, Try.results50, asAddr, r1]) rfl ?_
  exact ⟨rfl, HB6.out⟩

/-! ### What comes of something -/
def outL (tv : Value) (nl : List Value) (began done : Bool) (call ans : List Value) : List Value := tv :: (nl ++ (.bool began :: .bool done :: (call ++ ans)))
theorem outL_len {tv : Value} {nl : List Value} {began done : Bool} {call ans : List Value} (h1 : nl.length = 58) (h2 : call.length = 10) (h3 : ans.length = 4) : (outL tv nl began done call ans).length = 75 := by simp [outL, h1, h2, h3]
theorem outL_note {tv : Value} {nl : List Value} {began done : Bool} {call ans : List Value} (h1 : nl.length = 58) {i : Nat} (hi : i < 58) : (outL tv nl began done call ans)[i + 1]? = nl[i]? := by
  simp only [outL, List.getElem?_cons_succ]
  rw [List.getElem?_append_left (by omega)]
theorem outL_rest {tv : Value} {nl : List Value} {began done : Bool} {call ans : List Value} (h1 : nl.length = 58) (i : Nat) : (outL tv nl began done call ans)[i + 59]? = (Value.bool began :: .bool done :: (call ++ ans))[i]? := by
  simp only [outL, show i + 59 = (i + 58) + 1 from rfl, List.getElem?_cons_succ]
  rw [List.getElem?_append_right (by omega), h1, Nat.add_sub_cancel]
/-- A note of a client's, or none. -/
def NoteV (w : World) (nl : List Value) : Option (Int × Int × Wi) → Prop
  | none => nl = note0
  | some (kind, fr, W) => ∃ g wa wc, nl = noteL kind fr W.group W.epoch (.slice (some ⟨g, 0, none⟩) 1 1) zeroA 0 0 ∧ Blk w g (wishL W wa wc) 88 ∧ BL w wa W.data ∧ (wa = none → wc = 0)
theorem NoteV.len {w : World} {nl : List Value} : ∀ {n : Option (Int × Int × Wi)}, NoteV w nl n → nl.length = 58
  | none, h => by have h : nl = note0 := h; rw [h]; rfl
  | some (kind, fr, W), h => by obtain ⟨g, wa, wc, rfl, _⟩ := h; rfl
theorem NoteV.one {w : World} {nl : List Value} : ∀ {n : Option (Int × Int × Wi)}, NoteV w nl n → ∀ v ∈ nl, v.oneCell' = true
  | none, h => by have h : nl = note0 := h; rw [h]; exact note_one zeroA_one
  | some (kind, fr, W), h => by obtain ⟨g, wa, wc, rfl, _⟩ := h; exact note_one zeroA_one
/-- The cells of what comes of something. -/
def OutV (w : World) (l : List Value) (o : Ou) : Prop :=
  ∃ ta tc nl ca cc da dc na nc, l = outL (.slice ta o.to.length tc) nl o.began o.done (wishL o.call ca cc) (ansL o.ans da dc na nc) ∧ (IL w ta o.to ∧ (ta = none → tc = 0)) ∧ NoteV w nl o.note ∧ (BL w ca o.call.data ∧ (ca = none → cc = 0)) ∧ (BL w da o.ans.data ∧ (da = none → dc = 0)) ∧ IL w na o.ans.nodes ∧ (na = none → nc = 0)
theorem OutV.len {w : World} {l : List Value} {o : Ou} (h : OutV w l o) : l.length = 75 := by
  obtain ⟨ta, tc, nl, ca, cc, da, dc, na, nc, rfl, _, h1, _⟩ := h
  exact outL_len h1.len rfl rfl
theorem OutV.one {w : World} {l : List Value} {o : Ou} (h : OutV w l o) : ∀ v ∈ l, v.oneCell' = true := by
  obtain ⟨ta, tc, nl, ca, cc, da, dc, na, nc, rfl, _, h1, _⟩ := h
  intro v hv
  simp only [outL, List.mem_cons, List.mem_append] at hv
  rcases hv with rfl | hv | rfl | rfl | hv | hv
  · rfl
  · exact h1.one v hv
  · rfl
  · rfl
  · exact wishL_one _ _ _ v hv
  · exact ansL_one _ _ _ _ _ v hv
theorem OutV.agg {w : World} {l : List Value} {o : Ou} (h : OutV w l o) : isAgg 75 (.agg l.toArray) := agg_of h.len h.one
/-- Worlds in which lists and wishes are as they were. -/
def Keeps (w w' : World) : Prop := ∀ (b : Nat) (cs : Array Value) (t : TypeId) (fz : Nat × Nat), w.heap[b]? = some (.cells cs t fz) → t = 3 ∨ t = 5 ∨ t = 88 → w'.heap[b]? = some (.cells cs t fz)
theorem Keeps.of_below {w w' : World} (h : Below w.heap.size w w') : Keeps w w' := fun b cs t fz hc _ => (h.block b (lt_of_heap hc)).trans hc
theorem Keeps.trans {a b c : World} (h : Keeps a b) (k : Keeps b c) : Keeps a c := fun g cs t fz hc ht => k g cs t fz (h g cs t fz hc ht) ht
theorem Keeps.il {w w' : World} (h : Keeps w w') {a : Option Addr} {l : List Int} (hI : IL w a l) : IL w' a l := TL.same hI fun b cur fz hc => h b cur _ fz hc (.inl rfl)
theorem Keeps.bl {w w' : World} (h : Keeps w w') {a : Option Addr} {l : List Int} (hI : BL w a l) : BL w' a l := ⟨TL.same hI.1 fun b cur fz hc => h b cur _ fz hc (.inr (.inl rfl)), hI.2⟩
theorem Keeps.blk {w w' : World} (h : Keeps w w') {g : Nat} {l : List Value} (hI : Blk w g l 88) : Blk w' g l 88 := h g _ _ _ hI (.inr (.inr rfl))
theorem NoteV.keeps {w w' : World} (h : Keeps w w') {nl : List Value} : ∀ {n : Option (Int × Int × Wi)}, NoteV w nl n → NoteV w' nl n
  | none, hn => hn
  | some (kind, fr, W), hn => by obtain ⟨g, wa, wc, e, h1, h2, h3⟩ := hn; exact ⟨g, wa, wc, e, h.blk h1, h.bl h2, h3⟩
theorem OutV.keeps {w w' : World} {l : List Value} {o : Ou} (hk : Keeps w w') (h : OutV w l o) : OutV w' l o := by
  obtain ⟨ta, tc, nl, ca, cc, da, dc, na, nc, e, ⟨h1, h2⟩, h3, ⟨h4, h5⟩, ⟨h6, h7⟩, h8, h9⟩ := h
  exact ⟨ta, tc, nl, ca, cc, da, dc, na, nc, e, ⟨hk.il h1, h2⟩, h3.keeps hk, ⟨hk.bl h4, h5⟩, ⟨hk.bl h6, h7⟩, hk.il h8, h9⟩
theorem OutV.below {w w' : World} {l : List Value} {o : Ou} (h : OutV w l o) (hb : Below w.heap.size w w') : OutV w' l o := h.keeps (Keeps.of_below hb)
set_option maxRecDepth 100000 in
set_option maxHeartbeats 4000000 in
theorem quiet_is (l : List Value) (o : Ou) (w : World) (h : OutV w l o) (h1 : o.to = []) (h2 : o.began = false) (h3 : o.done = false) : Calls Try.prog 53 #[.agg l.toArray, .int .i64 0] w fun e w' => e = .returned (.bool true) ∧ Below w.heap.size w w' := by
  obtain ⟨ta, tc, nl, ca, cc, da, dc, na, nc, e, _, hn, _⟩ := h
  rw [h1, h2, h3] at e
  have hl := hn.len
  have g0 : l[0]? = some (.slice ta 0 tc) := by rw [e]; rfl
  have g59 : l[59]? = some (.bool false) := by rw [e]; exact outL_rest hl 0
  have g60 : l[60]? = some (.bool false) := by rw [e]; exact outL_rest hl 1
  have hb := Below.new w (.cells l.toArray 90)
  have hB := Blk.new w l 90
  have c0 := hB.cell g0
  have c59 := hB.cell g59
  have c60 := hB.cell g60
  clear e hn hl g0 g59 g60 hB h1 h2 h3
  go_enter Try.func53, Try.ntmps53
  go_upto_region 1 with (fail)
  generalize (w.alloc (.cells l.toArray 90)) = w1 at *
  have HB := Lib.hid hb
  clear hb
  go_wp2
  go_ret
  exact ⟨rfl, HB.out⟩
set_option maxRecDepth 100000 in
set_option maxHeartbeats 4000000 in
theorem says_is (l : List Value) (o : Ou) (kind : Int) (W : Wi) (T : List Int) (ta : Option Addr) (n tc : Nat) (wa : Option Addr) (wc : Nat) (w : World) (h : OutV w l o) (hto : o.to = T) (hno : o.note = some (kind, W.client, W)) (hdo : o.done = false) (hn : T.length = n) (hI : IL w ta T) (hD : BL w wa W.data) :
    Calls Try.prog 55 #[.agg l.toArray, .int .i64 0, .slice ta n tc, .int .i64 kind, .agg (wishL W wa wc).toArray] w fun e w' => e = .returned (.bool true) ∧ Below w.heap.size w w' := by
  subst hn
  obtain ⟨oa, oc, nl, ca, cc, da, dc, na, nc, e, ⟨hI0, _⟩, hN, _⟩ := h
  rw [hto, hdo] at e
  rw [hto] at hI0
  rw [hno] at hN
  have hl := hN.len
  obtain ⟨g, xa, xc, rfl, hg, hX, _⟩ := hN
  have g0 : l[0]? = some (.slice oa T.length oc) := by rw [e]; rfl
  have g1 : l[1]? = some (.int .i64 kind) := by rw [e]; rfl
  have g2 : l[2]? = some (.int .i64 W.client) := by rw [e]; rfl
  have g3 : l[3]? = some (.int .i64 W.group) := by rw [e]; rfl
  have g4 : l[4]? = some (.int .i64 W.epoch) := by rw [e]; rfl
  have g39 : l[39]? = some (.slice (some ⟨g, 0, none⟩) 1 1) := by rw [e]; rfl
  have g60 : l[60]? = some (.bool false) := by rw [e]; rfl
  obtain ⟨w2, hw2, hb2, hz2, hA, hR⟩ := two_blk w 90 88 l (wishL W wa wc)
  have HA := Lib.hid hA
  have HR := Lib.hid hR
  have HG1 := Lib.hid g1
  have HG2 := Lib.hid g2
  have HG3 := Lib.hid g3
  have HG4 := Lib.hid g4
  have HG39 := Lib.hid g39
  have HG60 := Lib.hid g60
  have c0 := hA.cell g0
  have HI := Lib.hid (hI.below hb2)
  have HI0 := Lib.hid (hI0.below hb2)
  have HD := Lib.hid (hD.below hb2)
  have HX := Lib.hid (hX.below hb2)
  have HG := Lib.hid (hg.below hb2)
  have HB2 := Lib.hid hb2
  clear e hto hno hdo hl g0 g1 g2 g3 g4 g39 g60 hA hR hI hI0 hD hX hg hb2 hz2
  have HW2 := Lib.hid hw2
  clear hw2
  go_enter Try.func55, Try.ntmps55
  go_upto_region 1 with (fail)
  rw [← HW2.out]
  clear HW2
  go_wp2_with fail
  refine Calls.mono (eqInts_any oa ta oc tc T T _ HI0.out.ints HI.out.ints) ?_
  rintro e w3 ⟨rfl, hb⟩
  rw [decide_eq_true (rfl : T = T)]
  have hA := HA.out.below hb
  have hR := HR.out.below hb
  have k1 := hA.cell HG1.out
  have k2 := hA.cell HG2.out
  have k3 := hA.cell HG3.out
  have k4 := hA.cell HG4.out
  have k39 := hA.cell HG39.out
  have k60 := hA.cell HG60.out
  have r0 := hR.cell (i := 0) rfl
  have r2 := hR.cell (i := 2) rfl
  have r3 := hR.cell (i := 3) rfl
  have e1 : cellsAt w3 ⟨w.heap.size + 1, 0, none⟩ 10 = wishL W wa wc := hR.cells (Nat.le_refl _)
  have e2 := hR.held (o := 0) (n := 10) (Nat.le_refl _)
  have HB3 := Lib.hid (Below.step HB2.out hb)
  have HD := Lib.hid (HD.out.below hb)
  have HX := Lib.hid (HX.out.below hb)
  have HG := Lib.hid (HG.out.below hb)
  have HA := Lib.hid hA
  have e4 := wish_agg W wa wc
  clear hA hR hb c0
  go_wp2_with fail
  refine Calls.mono (alike_is W g w3.heap.size xa xc wa wc _ (HG.out.below (Below.new _ _)) (Blk.new _ _ _) (HX.out.below (Below.new _ _)) (HD.out.below (Below.new _ _))) ?_
  rintro e w4 ⟨rfl, hb⟩
  have k60 := keepc (Below.step (Below.new _ _) hb) k60
  have HB4 := Lib.hid (Below.step HB3.out (Below.step (Below.new _ _) hb))
  clear hb
  go_wp2
  go_ret
  exact ⟨rfl, HB4.out⟩
end Go.Proofs.Ytldcpnabgpjgiaa.Walks
