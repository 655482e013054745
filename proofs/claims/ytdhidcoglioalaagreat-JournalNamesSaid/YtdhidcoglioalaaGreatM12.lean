/-
  A sector's bytes.
  The sectors that wait; the chapter's examples.
-/
import Derived.Test.YtdhidcoglioalaaGreatM06
import Derived.Test.YtdhidcoglioalaaGreatM11
import Derived.Laws.IdiomCopy
namespace Go.Proofs.YtdhidcoglioalaaGreat.Walks
open Go.RowKit Plain
set_option linter.unusedVariables false

/-- A block's cells; a sector's. -/
def blkL (b : Blk) : List Value := (bytesB b).map byteV
def sctL (s : Sct) : List Value := .int .i64 s.kind :: .int .i64 s.turn :: .int .i64 s.number :: blkL s.data
theorem blkL_length (b : Blk) : (blkL b).length = 48 := by simp [blkL, bytesB_length]
theorem sctL_length (s : Sct) : (sctL s).length = 51 := by simp [sctL, blkL_length]
theorem byteV_one (l : List Byte) : ∀ u ∈ l.map byteV, u.oneCell' = true := by
  intro u hu
  obtain ⟨x, _, rfl⟩ := List.mem_map.1 hu
  rfl
theorem blkL_one (b : Blk) : ∀ u ∈ blkL b, u.oneCell' = true := byteV_one _
theorem sctL_one (s : Sct) : ∀ u ∈ sctL s, u.oneCell' = true := by
  intro u hu
  simp only [sctL, List.mem_cons] at hu
  rcases hu with rfl | rfl | rfl | hu
  · rfl
  · rfl
  · rfl
  · exact blkL_one _ u hu
abbrev blkV (b : Blk) : Value := .agg (blkL b).toArray
abbrev sctV (s : Sct) : Value := .agg (sctL s).toArray
/-- So many of these bytes, then noughts. -/
def stageL (F : List Byte) (k : Nat) : List Byte := F.take k ++ List.replicate (64 - k) 0
theorem stageL_length {F : List Byte} (hF : F.length = 64) {k : Nat} (hk : k ≤ 64) : (stageL F k).length = 64 := by simp [stageL, hF]; omega
theorem stageL_end {F : List Byte} (hF : F.length = 64) : stageL F 64 = F := by simp [stageL, List.take_of_length_le (Nat.le_of_eq hF)]
theorem stage_cut {F : List Byte} (hF : F.length = 64) {a m : Nat} (h : a + m ≤ 64) : (stageL F a).take a ++ ((F.drop a).take m ++ (stageL F a).drop (a + m)) = stageL F (a + m) := by
  have h1 : (stageL F a).take a = F.take a := by
    unfold stageL
    rw [List.take_append_of_le_length (by simp; omega), List.take_take, Nat.min_self]
  have h2 : (stageL F a).drop (a + m) = List.replicate (64 - (a + m)) 0 := by
    unfold stageL
    rw [List.drop_append, List.drop_of_length_le (by simp; omega), List.nil_append, List.length_take, Nat.min_eq_left (by omega), List.drop_replicate]
    congr 1
    omega
  rw [h1, h2, ← List.append_assoc]
  unfold stageL
  rw [List.take_add]
theorem set_cells (g : Nat) (t : TypeId) : ∀ (us : List Value) (o : Nat) (w : World) (vs : List Value), w.heap[g]? = some (.cells vs.toArray t (0, 0)) → o + us.length ≤ vs.length →
    (w.setCells g o us).heap[g]? = some (.cells (vs.take o ++ (us ++ vs.drop (o + us.length))).toArray t (0, 0)) := by
  intro us
  induction us with
  | nil => intro o w vs h _; simpa [World.setCells] using h
  | cons u us ih =>
    intro o w vs h ho
    simp only [List.length_cons] at ho
    rw [World.setCells]
    have h1 := heap_setCell_same w g o vs.toArray t u h
    rw [List.setIfInBounds_toArray] at h1
    rw [ih (o + 1) _ (vs.set o u) h1 (by rw [List.length_set]; omega)]
    have e1 : (vs.set o u).take (o + 1) = vs.take o ++ [u] := by
      rw [List.take_succ_eq_append_getElem (by rw [List.length_set]; omega), List.getElem_set_self, List.take_set, List.set_eq_of_length_le (by simp; omega)]
    have e2 : (vs.set o u).drop (o + 1 + us.length) = vs.drop (o + (u :: us).length) := by
      rw [List.drop_set_of_lt (by omega), List.length_cons]
      congr 1
      omega
    rw [e1, e2, List.append_assoc]
    rfl
/-- A buffer of which so many bytes are written. -/
def Buf (w : World) (g : Nat) (F : List Byte) (k : Nat) : Prop := w.heap[g]? = some (.cells ((stageL F k).map byteV).toArray 5 (0, 0))
theorem Buf.set {w : World} {g a m : Nat} {F : List Byte} (h : Buf w g F a) (hF : F.length = 64) (hm : a + m ≤ 64) {c : List Byte} (hc : (F.drop a).take m = c) : Buf (w.setCells g a (c.map byteV)) g F (a + m) := by
  have hl : c.length = m := by rw [← hc]; simp [hF]; omega
  have h1 := set_cells g 5 (c.map byteV) a w _ h (by rw [List.length_map, List.length_map, stageL_length hF (by omega), hl]; exact hm)
  unfold Buf
  rw [h1, ← stage_cut hF hm, hc, List.length_map, hl, List.map_append, List.map_append, List.map_take, List.map_drop]
theorem Buf.room {w : World} {g a m : Nat} {F : List Byte} (h : Buf w g F a) (hF : F.length = 64) {o : Nat} (hm : o + m ≤ 64) (ha : a ≤ 64) : RoomN m w ⟨g, o, none⟩ := by
  refine ⟨rfl, fun j hj => ?_⟩
  rw [cell_of_row _ _ _ _ _ _ h, frozen_of_row _ _ _ _ _ h]
  have hl := stageL_length hF ha
  refine ⟨?_, rfl⟩
  rw [List.getElem?_toArray, List.getElem?_eq_getElem (by rw [List.length_map]; show o + j < _; omega)]
  rfl
theorem Buf.bys {w : World} {g a : Nat} {F : List Byte} (h : Buf w g F a) (hF : F.length = 64) {n : Nat} (hn : n ≤ a) (ha : a ≤ 64) : Bys w (some ⟨g, 0, none⟩) (F.take n) := by
  have hl : (F.take n).length = n := by simp [hF]; omega
  refine ⟨by omega, .inr ⟨g, 0, rfl, fun i hi => ?_⟩⟩
  rw [cell_of_row _ _ _ _ _ _ h]
  rw [hl] at hi
  rw [Nat.zero_add, List.getElem?_toArray, List.getElem?_map]
  unfold stageL
  rw [List.getElem?_append_left (by simp; omega), List.getElem?_take_of_lt (by omega), List.getElem?_eq_getElem (by omega), List.getElem_take]
  rfl
theorem Buf.drew {w : World} {g a : Nat} {F : List Byte} (h : Buf w g F a) : Buf w.drew g F a := h
theorem Buf.only {w w' : World} {R : List Nat} {g a : Nat} {F : List Byte} (h : Buf w g F a) (ho : Only R w w') (hg : g ∉ R) : Buf w' g F a := (ho.block g (Array.getElem?_eq_some_iff.1 h).1 hg).trans h
theorem Buf.lt {w : World} {g a : Nat} {F : List Byte} (h : Buf w g F a) : g < w.heap.size := (Array.getElem?_eq_some_iff.1 h).1
theorem put_stage {w : World} {g a m cap : Nat} {F : List Byte} {v : Int} (h : Buf w g F a) (hF : F.length = 64) (hm : a + m ≤ 64) (hv : -9223372036854775808 ≤ v ∧ v ≤ 9223372036854775807) (hc : (F.drop a).take m = numB m v) :
    Calls Tryz.prog 58 #[.slice (some ⟨g, a, none⟩) m cap, .int .i64 v] w fun e w' => (∃ u, e = .returned u) ∧ Buf w' g F (a + m) ∧ Only [g] w w' := by
  refine Calls.mono (put_any w g a m cap v hv (h.room hF hm (by omega)) (by omega)) ?_
  rintro e w' ⟨he, rfl⟩
  exact ⟨he, h.set hF hm hc, Only.setCells (by simp) _ _ (Only.refl _ _)⟩
theorem RowAt.only {w w' : World} {R : List Nat} {a : Addr} {vs : List Value} (h : RowAt w a vs) (ho : Only R w w') (hn : a.block ∉ R) : RowAt w' a vs := h.of fun o v hc => ho.cell hn hc
theorem RowAt.cell {w : World} {g o : Nat} {vs : List Value} (h : RowAt w ⟨g, o, none⟩ vs) {j : Nat} {v : Value} (hv : vs[j]? = some v) : w.cell? ⟨g, o + j, none⟩ = some v := h.2 j v hv
/-- sum.Of, of bytes in memory. -/
theorem sumOf_any (w : World) (a : Option Addr) (l : List Byte) (cap : Nat) (hB : Bys w a l) : Calls Tryz.prog 50 #[.slice a l.length cap] w fun e w' => e = .returned (.int .u64 ((Math.sumOf l).toNat : Int)) ∧ Below w.heap.size w w' := by
  refine SumW.of_any a cap l w ⟨by have := hB.1; omega, ?_⟩
  rcases hB.2 with h | ⟨b, off, h1, h2⟩
  · exact .inl h
  · exact .inr ⟨b, off, h1, h2⟩
/-- A sector's fields, as ints. -/
structure Sct.Ints (s : Sct) : Prop where
  kind : -9223372036854775808 ≤ s.kind ∧ s.kind ≤ 9223372036854775807
  turn : -9223372036854775808 ≤ s.turn ∧ s.turn ≤ 9223372036854775807
  number : -9223372036854775808 ≤ s.number ∧ s.number ≤ 9223372036854775807
theorem conv_int (x : Math.W) : IntKind.i64.wrap (x.toNat : Int) = x.toInt := by
  have h := BitVec.toInt_eq_toNat_cond x
  have hx := x.isLt
  have e' : (2 ^ 64 : Nat) = 18446744073709551616 := by decide
  rw [e'] at *
  rw [IntKind.wrap_i64]
  split at h <;> omega
theorem toInt_range (x : Math.W) : -9223372036854775808 ≤ x.toInt ∧ x.toInt ≤ 9223372036854775807 := by
  have h := BitVec.toInt_eq_toNat_cond x
  have hx := x.isLt
  have e' : (2 ^ 64 : Nat) = 18446744073709551616 := by decide
  rw [e'] at *
  split at h <;> omega
theorem stage0 {w : World} {g : Nat} (F : List Byte) (h : w.heap[g]? = some (.cells (secC zeroS) 5 (0, 0))) : Buf w g F 0 := by
  have e : ((stageL F 0).map byteV).toArray = secC zeroS := by
    rw [zeroC]
    unfold stageL
    rw [List.take_zero, List.nil_append, Nat.sub_zero, List.map_replicate, List.toArray_replicate]
    rfl
  unfold Buf
  rw [e]
  exact h
theorem pack_take (s : Sct) : (packL s).take 1 = [BitVec.ofInt 8 s.kind] ∧ ((packL s).drop 1).take 5 = numB 5 s.turn ∧ ((packL s).drop 6).take 2 = numB 2 s.number ∧ ((packL s).drop 8).take 48 = bytesB s.data ∧
    ((packL s).drop 56).take 8 = numB 8 (Math.sumOf (headL s)).toInt ∧ (packL s).take 56 = headL s := by
  have h0 := packL_length s
  obtain ⟨h1, h2, h3, h4, h5⟩ := pack_cuts s
  unfold packS at h1 h2 h3 h4 h5
  rw [cut_secOf (by omega)] at h1 h2 h3 h4 h5
  refine ⟨by unfold packL headL; rfl, h1, h2, h3, h4, ?_⟩
  simpa using h5
/-- The sector's box and the buffer of its bytes. -/
structure Bf (w wr : World) (s : Sct) (F : List Byte) (k : Nat) : Prop where
  be : Below w.heap.size w wr
  row : RowAt wr ⟨w.heap.size, 0, none⟩ (sctL s)
  buf : Buf wr (w.heap.size + 1) F k
theorem Bf.drew {w wr : World} {s : Sct} {F : List Byte} {k : Nat} (h : Bf w wr s F k) : Bf w wr.drew s F k := ⟨h.be.drew, h.row, h.buf⟩
theorem Bf.only {w wr w' : World} {s : Sct} {F : List Byte} {k k' : Nat} (h : Bf w wr s F k) (hb : Buf w' (w.heap.size + 1) F k') (ho : Only [w.heap.size + 1] wr w') : Bf w w' s F k' :=
  ⟨ho.below h.be (by simp) (Nat.le_refl _), h.row.only ho (by simp), hb⟩
theorem Bf.below {w wr w' : World} {s : Sct} {F : List Byte} {k : Nat} (h : Bf w wr s F k) (hb : Below wr.heap.size wr w') : Bf w w' s F k :=
  have hl := h.buf.lt
  ⟨h.be.trans (hb.mono h.be.size), h.row.below hb (by show w.heap.size < _; omega), (hb.block _ hl).trans h.buf⟩
theorem Bf.c {w wr : World} {s : Sct} {F : List Byte} {k : Nat} (h : Bf w wr s F k) : wr.cell? ⟨w.heap.size, 1, none⟩ = some (.int .i64 s.turn) ∧ wr.cell? ⟨w.heap.size, 2, none⟩ = some (.int .i64 s.number) ∧ w.heap.size + 1 < wr.heap.size :=
  ⟨h.row.cell (j := 1) rfl, h.row.cell (j := 2) rfl, h.buf.lt⟩
theorem Bf.first {w : World} {s : Sct} {F : List Byte} (hF : F.length = 64) (h0 : F.take 1 = [BitVec.ofInt 8 s.kind]) : Bf w ((w.alloc (.cells (sctL s).toArray 52)).alloc (.cells ((secC zeroS).setIfInBounds 0 (.int .u8 (s.kind % 256))) 5)) s F 1 := by
  have hb : Bf w ((w.alloc (.cells (sctL s).toArray 52)).alloc (.cells (secC zeroS) 5)) s F 0 :=
    ⟨Below.step (Below.new _ _) (Below.new _ _), (row_new w 52 _ rfl).of fun o v hc => (cell_past (block_lt_of_cell hc) o).trans hc, stage0 F (by have := heap_alloc_new (w.alloc (.cells (sctL s).toArray 52)) (.cells (secC zeroS) 5); simpa using this)⟩
  have he : ((w.alloc (.cells (sctL s).toArray 52)).alloc (.cells (secC zeroS) 5)).setCell ⟨w.heap.size + 1, 0, none⟩ (.int .u8 (s.kind % 256)) = (w.alloc (.cells (sctL s).toArray 52)).alloc (.cells ((secC zeroS).setIfInBounds 0 (.int .u8 (s.kind % 256))) 5) :=
    World.setCell_alloc_at _ _ _ _ _ (by simp)
  rw [← he]
  refine hb.only ?_ ((Only.refl _ _).setCell (by simp) _)
  have := hb.buf.set (a := 0) (m := 1) hF (by omega) (c := [BitVec.ofInt 8 s.kind]) (by rw [List.drop_zero]; exact h0)
  rw [show Value.int .u8 (s.kind % 256) = byteV (BitVec.ofInt 8 s.kind) by rw [← byte_of, IntKind.wrap_u8']]
  exact this
theorem info5s : (Tryz.prog.info? 5).map (·.size) = some 1 := by kernel_rfl
theorem Bf.copy {w wr : World} {s : Sct} {F : List Byte} (h : Bf w wr s F 8) (hF : F.length = 64) (h3 : (F.drop 8).take 48 = bytesB s.data) :
    (Builtin.copy_ #[23, 23] 3 #[.slice (some ⟨w.heap.size + 1, 8, none⟩) 48 56, .slice (some ⟨w.heap.size, 3, none⟩) 48 48]).run Tryz.prog wr = .ok (.int .i64 48) (wr.setCells (w.heap.size + 1) 8 (blkL s.data)) := by
  have hr := h.buf.room hF (o := 8) (m := 48) (by omega) (by omega)
  have := run_copy_cells (P := Tryz.prog) wr 23 23 3 5 (w.heap.size + 1) 8 48 56 ⟨w.heap.size, 3, none⟩ 48 48 (blkL s.data) Tryz.underlying23 info5s (by rw [blkL_length]; rfl)
    (fun j v hv => by rw [Addr.add_mid]; exact h.row.2 (3 + j) v (by rw [Nat.add_comm]; exact hv) |> fun e => by rw [show (0 : Nat) + (3 + j) = 3 + j by omega] at e; exact e)
    (fun j hj => (hr.2 j (by rw [blkL_length] at hj; exact hj)).1) (fun j hj => (hr.2 j (by rw [blkL_length] at hj; exact hj)).2) (blkL_one _)
  rw [blkL_length] at this
  exact this
theorem Bf.copied {w wr : World} {s : Sct} {F : List Byte} (h : Bf w wr s F 8) (hF : F.length = 64) (h3 : (F.drop 8).take 48 = bytesB s.data) : Bf w (wr.setCells (w.heap.size + 1) 8 (blkL s.data)) s F 56 :=
  h.only (h.buf.set hF (by omega) h3) (Only.setCells (by simp) _ _ (Only.refl _ _))
set_option maxRecDepth 10000 in
theorem bytes_any (w : World) (s : Sct) (hs : Sct.Ints s) : Calls Tryz.prog 32 #[sctV s] w fun e w' => ∃ g, e = .returned (.slice (some ⟨g, 0, none⟩) 64 64) ∧ w.heap.size ≤ g ∧ w'.heap[g]? = some (.cells ((packL s).map byteV).toArray 5 (0, 0)) ∧ Below w.heap.size w w' := by
  have hmk := make64 (w.alloc (.cells (sctL s).toArray 52))
  obtain ⟨p0, p1, p2, p3, p4, p5⟩ := pack_take s
  have hF := packL_length s
  obtain ⟨hk, ht, hn⟩ := hs
  obtain ⟨F, hFe⟩ : ∃ F, F = packL s := ⟨_, rfl⟩
  rw [← hFe] at p0 p1 p2 p3 p4 p5 hF ⊢
  have hrow : RowAt ((w.alloc (.cells (sctL s).toArray 52)).alloc (.cells (secC zeroS) 5)) ⟨w.heap.size, 0, none⟩ (sctL s) := (row_new w 52 _ rfl).of fun o v hc => (cell_past (block_lt_of_cell hc) o).trans hc
  have hbuf : Buf ((w.alloc (.cells (sctL s).toArray 52)).alloc (.cells (secC zeroS) 5)) (w.heap.size + 1) F 0 := stage0 F (by have := heap_alloc_new (w.alloc (.cells (sctL s).toArray 52)) (.cells (secC zeroS) 5); simpa using this)
  have hbel : Below w.heap.size w ((w.alloc (.cells (sctL s).toArray 52)).alloc (.cells (secC zeroS) 5)) := Below.step (Below.new _ _) (Below.new _ _)
  have c0 : ((w.alloc (.cells (sctL s).toArray 52)).alloc (.cells (secC zeroS) 5)).cell? ⟨w.heap.size, 0, none⟩ = some (.int .i64 s.kind) := hrow.cell (j := 0) rfl
  obtain ⟨hu, f0⟩ := (hbuf.room hF (o := 0) (m := 1) (by omega) (by omega)).2 0 (by omega)
  obtain ⟨u, hu⟩ := Option.isSome_iff_exists.1 hu
  simp only [Nat.zero_add] at hu f0
  have HR := Lib.hid hrow
  have HB := Lib.hid hbuf
  have HBe := Lib.hid hbel
  have HP0 := Lib.hid p0
  have HP1 := Lib.hid p1
  have HP2 := Lib.hid p2
  have HP3 := Lib.hid p3
  have HP4 := Lib.hid p4
  have HP5 := Lib.hid p5
  have HF := Lib.hid hF
  have HFe := Lib.hid hFe
  have HK := Lib.hid hk
  clear hrow hbuf hbel p0 p1 p2 p3 p4 p5 hF hFe hk
  go_enter Tryz.func32, Tryz.ntmps32
  go_wp2
  have H1 := Lib.hid (Bf.first (w := w) (s := s) HF.out HP0.out)
  obtain ⟨w1, hw1⟩ : ∃ x, x = (w.alloc (.cells (sctL s).toArray 52)).alloc (.cells ((secC zeroS).setIfInBounds 0 (.int .u8 (s.kind % 256))) 5) := ⟨_, rfl⟩
  rw [← hw1] at H1 ⊢
  clear hw1 HR HB HBe c0 hu f0 hmk u
  obtain ⟨c1, c2, hl⟩ := H1.out.c
  have HT := Lib.hid ht
  have HN := Lib.hid hn
  clear ht hn
  go_region_with (first | (go_at_call 58; go_loud ((with_reducible refine Calls.mono (put_stage (a := 1) (m := 5) H1.out.drew.buf HF.out (by omega) HT.out HP1.out) ?_); rintro e w2 ⟨⟨u, rfl⟩, hb, ho⟩; have H2 := Lib.hid (H1.out.drew.only hb ho); clear hb ho)))
  clear c1 c2 hl
  obtain ⟨c1, c2, hl⟩ := H2.out.c
  go_wp2_with fail
  go_region_with (first | (go_at_call 58; go_loud ((with_reducible refine Calls.mono (put_stage (a := 6) (m := 2) H2.out.drew.buf HF.out (by omega) HN.out HP2.out) ?_); rintro e w3 ⟨⟨u, rfl⟩, hb, ho⟩; have H3 := Lib.hid (H2.out.drew.only hb ho); clear hb ho)))
  clear c1 c2 hl
  obtain ⟨c1, c2, hl⟩ := H3.out.c
  have hcp := Bf.copy H3.out.drew HF.out HP3.out
  go_wp2_with fail
  go_region
  have H4 := Lib.hid (Bf.copied H3.out.drew HF.out HP3.out)
  obtain ⟨w4, hw4⟩ : ∃ x, x = w3.drew.setCells (w.heap.size + 1) 8 (blkL s.data) := ⟨_, rfl⟩
  rw [← hw4] at H4 ⊢
  clear c1 c2 hl hcp hw4
  obtain ⟨c1, c2, hl⟩ := H4.out.c
  have hsm := sumOf_any w4.drew (some ⟨w.heap.size + 1, 0, none⟩) (F.take 56) 64 (H4.out.drew.buf.bys HF.out (Nat.le_refl _) (by omega))
  have hl56 : (F.take 56).length = 56 := by rw [List.length_take, HF.out]; rfl
  rw [hl56, HP5.out] at hsm
  have HS := Lib.hid hsm
  clear hsm hl56
  obtain ⟨x, hx⟩ : ∃ x, x = Math.sumOf (headL s) := ⟨_, rfl⟩
  rw [← hx] at HS HP4
  have HX := Lib.hid hx
  clear hx
  have HG := Lib.hid (show -9223372036854775808 ≤ IntKind.i64.wrap (x.toNat : Int) ∧ IntKind.i64.wrap (x.toNat : Int) ≤ 9223372036854775807 by rw [conv_int]; exact toInt_range x)
  have HP6 := Lib.hid (show (F.drop 56).take 8 = numB 8 (IntKind.i64.wrap (x.toNat : Int)) by rw [conv_int]; exact HP4.out)
  go_wp2_with fail
  go_region_with (first | (go_at_call 50; go_loud ((with_reducible refine Calls.mono HS.out ?_); rintro e w5 ⟨rfl, hb⟩; have H5 := Lib.hid (H4.out.drew.below hb); clear hb)) | (go_at_call 58; go_loud ((with_reducible refine Calls.mono (put_stage (a := 56) (m := 8) H5.out.buf HF.out (by omega) HG.out HP6.out) ?_); rintro e w6 ⟨⟨u, rfl⟩, hb, ho⟩; have H6 := Lib.hid (H5.out.only hb ho); clear hb ho)))
  go_wp2
  go_ret
  have h6 := H6.out
  refine ⟨_, rfl, Nat.le_succ _, ?_, h6.be⟩
  have := h6.buf
  unfold Buf at this
  rw [stageL_end HF.out] at this
  exact this
end Go.Proofs.YtdhidcoglioalaaGreat.Walks
namespace Go.Proofs.YtdhidcoglioalaaGreat.Walks
open Go.RowKit Plain
set_option linter.unusedVariables false

def wsD (P : Pl) : List Nat := if P.dead then [] else P.ws
def IntsN (w : World) (a : Option Addr) (l : List Nat) : Prop := Ints w a (l.map fun (i : Nat) => (i : Int))
set_option maxRecDepth 10000 in
theorem waits_any (w : World) (q : PLoc) (P : Pl) (h : PlateAt w q P) : Calls Tryz.prog 90 #[pv q] w fun e w' => ∃ a cap, e = .returned (.slice a (wsD P).length cap) ∧ IntsN w' a (wsD P) ∧ (∀ ad, a = some ad → w.heap.size ≤ ad.block) ∧ Below w.heap.size w w' := by
  have hH := may_any w q P h
  have c1 := h.c1
  cases hd : P.dead
  · rw [may_live hd] at hH
    have HC := Lib.hid hH
    have e1 : wsD P = P.ws := by simp [wsD, hd]
    rw [e1]
    have hk := sorted44 w q P h
    obtain ⟨n, hn⟩ : ∃ n, n = P.ws.length := ⟨_, rfl⟩
    rw [← hn] at hk ⊢
    have HN := Lib.hid hn
    have HK := Lib.hid hk
    clear hH hd e1 hk hn h
    go_enter Tryz.func90, Tryz.ntmps90
    go_wp2_with fail
    refine Calls.mono HC.out ?_
    rintro e w' ⟨rfl, rfl⟩
    go_wp2_with fail
    refine Calls.mono (keys45 _ _) ?_
    rintro e w1 ⟨rfl, rfl⟩
    go_wp2_with fail
    refine Calls.mono HK.out ?_
    rintro e w2 ⟨a2, cap2, rfl, hI, hfr, hb⟩
    have HI := Lib.hid hI
    have HF := Lib.hid hfr
    have HBe := Lib.hid hb
    clear hI hfr hb
    go_wp2
    go_ret
    exact ⟨a2, cap2, rfl, HI.out, HF.out, HBe.out⟩
  · rw [may_dead hd] at hH
    have HC := Lib.hid hH
    have e1 : wsD P = [] := by simp [wsD, hd]
    rw [e1]
    clear hH hd e1 h
    go_enter Tryz.func90, Tryz.ntmps90
    go_wp2_with fail
    refine Calls.mono HC.out ?_
    rintro e w' ⟨rfl, rfl⟩
    go_wp2
    go_ret
    exact ⟨none, 0, rfl, Ints.nil _ _, (fun _ e => by cases e), Below.refl _ _⟩

/-- A plate of the call's own, w being the world at its start. -/
structure St (w w' : World) (q : PLoc) (P : Pl) : Prop where
  pl : PlateAt w' q P
  be : Below w.heap.size w w'
  ge : ∀ b ∈ q.R, w.heap.size ≤ b
section
variable {w w1 w2 : World} {q : PLoc} {P P' : Pl}
theorem St.only (h : St w w1 q P) (hp : PlateAt w2 q P') (ho : Only q.R w1 w2) : St w w2 q P' := ⟨hp, Only.below h.be ho h.ge (Nat.le_refl _), h.ge⟩
theorem St.below (h : St w w1 q P) (hb : Below w1.heap.size w1 w2) : St w w2 q P := ⟨h.pl.below hb, Below.step h.be hb, h.ge⟩
theorem s_new (n : Nat) (h1 : 1 ≤ n) (h2 : n ≤ 4096) (w w1 : World) (hb : Below w.heap.size w w1) : Calls Tryz.prog 37 #[.int .i64 n] w1 fun e w2 => ∃ q, e = .returned (.tuple #[pv q, .int .i64 0]) ∧ St w w2 q (Pl.made n) ∧ Below w1.heap.size w1 w2 ∧ ∀ b ∈ q.R, w1.heap.size ≤ b := by
  refine Calls.mono (new_ok w1 n h1 h2) ?_
  rintro e w2 ⟨q, rfl, hp, hb2, hR, _⟩
  exact ⟨q, rfl, ⟨hp, Below.step hb hb2, fun b hm => Nat.le_trans hb.size (hR b hm)⟩, hb2, hR⟩
theorem s_put {i : Int} {b : Byte} {z : Int} (h : St w w1 q P) (hz : P.writeE i (bytesOf (oneS b)) = z) (hP : P.write i (bytesOf (oneS b)) = P') :
    Calls Tryz.prog 29 #[pv q, .int .i64 i, .slice (some ⟨w1.heap.size, 0, none⟩) 64 64] (w1.alloc (.cells (secC (oneS b)) 5)) fun e w2 => e = .returned (.int .i64 z) ∧ St w w2 q P' ∧ Only q.R w1 w2 := by
  have h1 := h.below (Below.new w1 (.cells (secC (oneS b)) 5))
  have := write_any _ q P h1.pl i (some ⟨w1.heap.size, 0, none⟩) (bytesOf (oneS b)) 64 (bys_sec (heap_alloc_new _ _)) (fun _ ad e hm => by cases e; exact Nat.lt_irrefl _ (h.pl.lt _ hm))
  rw [bytesOf_length, hz, hP] at this
  refine Calls.mono this ?_
  rintro e w2 ⟨rfl, hp, ho⟩
  exact ⟨rfl, h1.only hp ho, (Only.of_below (Below.new _ _)).trans ho⟩
theorem s_flush {z : Int} (h : St w w1 q P) (hz : P.flushE = z) (hP : P.flush = P') : Calls Tryz.prog 21 #[pv q] w1 fun e w2 => e = .returned (.int .i64 z) ∧ St w w2 q P' ∧ Only q.R w1 w2 := by
  rw [← hz, ← hP]
  refine Calls.mono (flush_any w1 q P h.pl) ?_
  rintro e w2 ⟨rfl, hp, ho⟩
  exact ⟨rfl, h.only hp ho, ho⟩
theorem s_crash {z : Int} {a : Option Addr} {l : List Bool} {cap n : Nat} (hn : l.length = n) (h : St w w1 q P) (hB : Bools w1 a l) (hdis : l ≠ [] → ∀ ad, a = some ad → ad.block ∉ q.R) (hz : P.may = z) (hP : P.crash l = P') :
    Calls Tryz.prog 73 #[pv q, .slice a n cap] w1 fun e w2 => e = .returned (.int .i64 z) ∧ St w w2 q P' ∧ Only q.R w1 w2 := by
  rw [← hz, ← hP, ← hn]
  refine Calls.mono (crash_any w1 q P h.pl a l cap hB hdis) ?_
  rintro e w2 ⟨rfl, hp, ho⟩
  exact ⟨rfl, h.only hp ho, ho⟩
theorem s_boot (h : St w w1 q P) (hP : P.boot = P') : Calls Tryz.prog 44 #[pv q] w1 fun e w2 => e = .returned (.int .i64 0) ∧ St w w2 q P' ∧ Only q.R w1 w2 := by
  rw [← hP]
  refine Calls.mono (boot_any w1 q P h.pl) ?_
  rintro e w2 ⟨rfl, hp, ho⟩
  exact ⟨rfl, h.only hp ho, ho⟩
theorem s_fail {z n : Int} {a : Option Addr} {l : List Bool} {cap m : Nat} (hm : l.length = m) (hn : -9223372036854775808 ≤ n ∧ n ≤ 9223372036854775807) (h : St w w1 q P) (hB : Bools w1 a l) (hcap : a = none → cap = 0) (hz : P.may = z) (hP : P.fail n l = P') :
    Calls Tryz.prog 43 #[pv q, .int .i64 n, .slice a m cap] w1 fun e w2 => e = .returned (.int .i64 z) ∧ St w w2 q P' ∧ Only q.R w1 w2 := by
  rw [← hz, ← hP, ← hm]
  refine Calls.mono (fail_any w1 q P h.pl n hn a l cap hB hcap) ?_
  rintro e w2 ⟨rfl, hp, ho⟩
  exact ⟨rfl, h.only hp ho, ho⟩
theorem s_dead {d : Bool} (h : St w w1 q P) (hd : P.dead = d) : Calls Tryz.prog 27 #[pv q] w1 fun e w2 => e = .returned (.bool d) ∧ w1 = w2 := by
  rw [← hd]
  exact dead_any w1 q P h.pl
theorem s_waits {l : List Nat} {n : Nat} (h : St w w1 q P) (hl : wsD P = l) (hn : l.length = n) : Calls Tryz.prog 90 #[pv q] w1 fun e w2 => ∃ a cap, e = .returned (.slice a n cap) ∧ IntsN w2 a l ∧ St w w2 q P ∧ Below w1.heap.size w1 w2 := by
  rw [← hn, ← hl]
  refine Calls.mono (waits_any w1 q P h.pl) ?_
  rintro e w2 ⟨a, cap, rfl, hI, _, hb⟩
  exact ⟨a, cap, rfl, hI, h.below hb, hb⟩
end
theorem eqI_is {l l' : List Int} {n n' : Nat} {r : Bool} {a a' : Option Addr} {cap cap' : Nat} {w : World} (hn : l.length = n) (hn' : l'.length = n') (hr : decide (l = l') = r) (hB : Ints w a l) (hB' : Ints w a' l') :
    Calls Tryz.prog 89 #[.slice a n cap, .slice a' n' cap'] w fun e w' => e = .returned (.bool r) ∧ Below w.heap.size w w' := by
  rw [← hn, ← hn', ← hr]
  exact eqInts_any a a' cap cap' l l' w hB hB'
theorem bools_new (w : World) (l : List Bool) (h : l.length ≤ 140737488355328) (t : TypeId) : Bools (w.alloc (.cells (l.map Value.bool).toArray t)) (some ⟨w.heap.size, 0, none⟩) l :=
  ⟨h, .inr ⟨w.heap.size, 0, rfl, fun i hi => by rw [cell_new]; simp [List.getElem?_eq_getElem hi]⟩⟩
theorem ints_new (w : World) (l : List Int) (h : l.length ≤ 9223372036854775807) (t : TypeId) : Ints (w.alloc (.cells (l.map (Value.int .i64)).toArray t)) (some ⟨w.heap.size, 0, none⟩) l :=
  ⟨h, .inr ⟨w.heap.size, 0, rfl, fun i hi => by rw [cell_new]; simp [List.getElem?_eq_getElem hi]⟩⟩
end Go.Proofs.YtdhidcoglioalaaGreat.Walks
