/-
  Calls of a client that is busy, or is none; what is known of a chunk.
-/
import Derived.Test.YtldcpnabgpjgiaaDiskKA
namespace Go.Proofs.Ytldcpnabgpjgiaa.Walks
open Go.RowKit Plain
set_option linter.unusedVariables false
attribute [local go_sem] isPV_mk adV_mk cells_agg cells_agg' held_drew room_drew cellsAt_drew isA4_mk isSl_mk isI_mk intOf_mk
attribute [local go_sem ↓] exec_load88 exec_store88 exec_load81 exec_store81 exec_load90 exec_store90 Go.wp_at_zero Go.wp_at_succ exec_alloc81 exec_build81r exec_build81s exec_bs69 exec_alloc90 exec_build90n
attribute [local irreducible] out0

set_option maxRecDepth 100000 in
set_option maxHeartbeats 1000000 in
theorem write_busy (p r1 r2 N : Nat) (c : Cl) (b : Int) (l : List Int) (la : Option Addr) (lc : Nat) (w : World) (h : CliAt w p r1 r2 N c) (hb : 0 ≤ b ∧ b < 8 * c.chunks) (hc : c.chunks ≤ 2) (hl : l.length = 16) (hL : BL w la l) (hLn : la = none → lc = 0) (hw : c.way ≠ 0) :
    Calls Try.prog 62 #[.pointer (some ⟨p, 0, none⟩), .int .i64 b, .slice la 16 lc] w (GiveP [p] p r1 r2 N c Ou.zero 151 w) := by
  have HC := Lib.hid h
  have HW := Lib.hid hw
  have HL := Lib.hid hL
  have HLN := Lib.hid hLn
  have H16 := Lib.hid hl
  obtain ⟨hb0, hb1⟩ := hb
  have g1 : ¬ b < 0 := by omega
  have hm : IntKind.i64.wrap (8 * c.chunks) = 8 * c.chunks := IntWalk.i64_in _ (by omega)
  have g2 : ¬ 8 * c.chunks ≤ b := by omega
  clear h hw hL hLn hl
  go_enter Try.func62, Try.ntmps62
  go_upto_region 1 with (fail)
  have hX := Blk.new w out0 90
  obtain ⟨w1, hw1⟩ : ∃ x, x = w.alloc (.cells out0.toArray 90) := ⟨_, rfl⟩
  have HC1 : Hid (CliAt w1 p r1 r2 N c) := Lib.hid (by rw [hw1]; exact HC.out.below (Below.new _ _))
  have HX : Hid (Blk w1 w.heap.size out0 90) := Lib.hid (by rw [hw1]; exact hX)
  have HO : Hid (Below w.heap.size w w1) := Lib.hid (by rw [hw1]; exact Below.new _ _)
  have HPX := Lib.hid HC.out.lt.1
  rw [← hw1]
  clear hX hw1
  have c4 := HC1.out.c4
  go_wp2_with fail
  refine Calls.mono (cnone_is p r1 w1 c4) ?_
  rintro e w2 ⟨rfl, rfl⟩
  have c3 := HC1.out.c3
  go_wp2_with fail
  have hcl := cloneB_any la lc l w1 (HL.out.below HO.out) HLN.out
  rw [H16.out] at hcl
  refine Calls.mono hcl ?_
  rintro e w2 ⟨a2, n2, rfl, hD, hn2, hb2⟩
  rw [H16.out]
  have HC2 := Lib.hid (HC1.out.below hb2)
  have HX2 := Lib.hid (HX.out.below hb2)
  have HO2 := Lib.hid (Below.step HO.out hb2)
  have HD := Lib.hid hD
  have HN2 := Lib.hid hn2
  clear hcl hD hn2 hb2
  go_wp2_with fail
  rw [writeW_agg b l a2 n2 H16.out]
  refine Calls.mono (begin_busy p r1 r2 N c (writeW b l) a2 n2 w2 HC2.out HW.out) ?_
  rintro e w3 ⟨ll, r2', rfl, q0, q1, q2, q3⟩
  have hx := q3.blk HX2.out (by have := HPX.out; simp; omega)
  have e3 := hx.room (o := 0) (n := 75) (by rw [out0_len]; exact Nat.le_refl _)
  have e4 := q2.agg
  obtain ⟨k1, k2, k3, k4⟩ := give_end q1 q2 hx (Nat.le_refl _) ((Only.of_below HO2.out).trans q3)
  have R0 := Lib.hid (load_blk Try.underlying90 rfl z90 k3 q2.len)
  have HE : Hid ((r2' = r2 ∨ w.heap.size ≤ r2') ∧ CliAt (w3.setCells w.heap.size 0 ll) p r1 r2' N c ∧ OutV (w3.setCells w.heap.size 0 ll) ll Ou.zero ∧ Only [p] w (w3.setCells w.heap.size 0 ll)) := Lib.hid ⟨q0.imp id (Nat.le_trans HO2.out.size), k1, k2, k4⟩
  clear q0 q1 q2 q3 hx k1 k2 k3 k4
  go_wp2_with fail
  have r0 := R0.out
  refine bodyPost_ret (v := .tuple #[.agg ll.toArray, .int .i64 151]) (by simp [results, Try.results62, asAddr, r0]) rfl ?_
  exact ⟨ll, r2', rfl, HE.out⟩


/-- No client: nil, or one that was never made. -/
def NilC (w : World) (v : Value) : Prop := v = .pointer none ∨ ∃ p, v = .pointer (some ⟨p, 0, none⟩) ∧ w.cell? ⟨p, 4, none⟩ = some (.map none)
theorem NilC.below {w w' : World} {v : Value} (h : NilC w v) (hb : Below w.heap.size w w') : NilC w' v := by
  rcases h with h | ⟨p, h1, h2⟩
  · exact .inl h
  · exact .inr ⟨p, h1, keepc hb h2⟩
theorem cnone_nil (v : Value) (w : World) (h : NilC w v) : Calls Try.prog 95 #[v] w fun e w' => e = .returned (.bool true) ∧ w = w' := by
  have qT : ∀ (w : World) (r : Option Nat), (binOp .eql 109 (.map r) (.map none)).run Try.prog w = .ok (.bool r.isNone) w := fun w r => run_eql_map_nil w _ _ _ r Try.underlying109
  rcases h with rfl | ⟨p, rfl, h⟩
  · go_enter Try.func95, Try.ntmps95
    go_wp2
    go_ret
    exact ⟨rfl, rfl⟩
  · go_enter Try.func95, Try.ntmps95
    go_wp2
    go_ret
    exact ⟨rfl, rfl⟩
theorem busy_nil (v : Value) (w : World) (h : NilC w v) : Calls Try.prog 60 #[v] w fun e w' => e = .returned (.bool false) ∧ w = w' := by
  have H := Lib.hid h
  clear h
  go_enter Try.func60, Try.ntmps60
  go_wp2_with fail
  refine Calls.mono (cnone_nil v _ H.out) ?_
  rintro e w' ⟨rfl, rfl⟩
  go_wp2
  go_ret
  exact ⟨rfl, rfl⟩
def NilP (w : World) (e : Ending) (w' : World) : Prop := e = .returned (.tuple #[.agg out0.toArray, .int .i64 1]) ∧ Below w.heap.size w w'
theorem nil_none {w w1 : World} {x : Nat} (hX : Blk w1 x out0 90) (hx : w.heap.size ≤ x) (hB : Below w.heap.size w w1) :
    Room w1 ⟨x, 0, none⟩ 75 ∧ isAgg 75 (.agg out0.toArray) ∧ Hid ((loadVar 90 ⟨x, 0, none⟩).run Try.prog (w1.setCells x 0 out0) = .ok (.agg out0.toArray) (w1.setCells x 0 out0)) ∧ Hid (Below w.heap.size w (w1.setCells x 0 out0)) := by
  have hs := hX.sets out0 0 (by rw [out0_len]; exact Nat.le_refl _)
  rw [spl_all rfl] at hs
  exact ⟨hX.room (o := 0) (n := 75) (by rw [out0_len]; exact Nat.le_refl _), (out0_v w1).agg, Lib.hid (load_blk Try.underlying90 rfl z90 hs out0_len), Lib.hid (below_sets hx out0 0 hB)⟩
set_option maxRecDepth 100000 in
set_option maxHeartbeats 1000000 in
theorem read_nil (v : Value) (b : Int) (w : World) (h : NilC w v) : Calls Try.prog 65 #[v, .int .i64 b] w (NilP w) := by
  have hX := Blk.new w out0 90
  obtain ⟨w1, hw1⟩ : ∃ x, x = w.alloc (.cells out0.toArray 90) := ⟨_, rfl⟩
  have H : Hid (NilC w1 v) := Lib.hid (by rw [hw1]; exact h.below (Below.new _ _))
  have hX1 : Blk w1 w.heap.size out0 90 := by rw [hw1]; exact hX
  have hB : Below w.heap.size w w1 := by rw [hw1]; exact Below.new _ _
  obtain ⟨e3, e4, R0, HE⟩ := nil_none hX1 (Nat.le_refl _) hB
  clear h hX hX1 hB
  go_enter Try.func65, Try.ntmps65
  go_upto_region 1 with (fail)
  rw [← hw1]
  clear hw1
  go_wp2_with fail
  refine Calls.mono (cnone_nil v w1 H.out) ?_
  rintro e w2 ⟨rfl, rfl⟩
  go_wp2_with fail
  have r0 := R0.out
  refine bodyPost_ret (v := .tuple #[.agg out0.toArray, .int .i64 1]) (by simp [results, Try.results65, asAddr, r0]) rfl ?_
  exact ⟨rfl, HE.out⟩
set_option maxRecDepth 100000 in
set_option maxHeartbeats 1000000 in
theorem write_nil (v : Value) (b : Int) (w : World) (h : NilC w v) : Calls Try.prog 62 #[v, .int .i64 b, .slice none 0 0] w (NilP w) := by
  have hX := Blk.new w out0 90
  obtain ⟨w1, hw1⟩ : ∃ x, x = w.alloc (.cells out0.toArray 90) := ⟨_, rfl⟩
  have H : Hid (NilC w1 v) := Lib.hid (by rw [hw1]; exact h.below (Below.new _ _))
  have hX1 : Blk w1 w.heap.size out0 90 := by rw [hw1]; exact hX
  have hB : Below w.heap.size w w1 := by rw [hw1]; exact Below.new _ _
  obtain ⟨e3, e4, R0, HE⟩ := nil_none hX1 (Nat.le_refl _) hB
  clear h hX hX1 hB
  go_enter Try.func62, Try.ntmps62
  go_upto_region 1 with (fail)
  rw [← hw1]
  clear hw1
  go_wp2_with fail
  refine Calls.mono (cnone_nil v w1 H.out) ?_
  rintro e w2 ⟨rfl, rfl⟩
  go_wp2_with fail
  have r0 := R0.out
  refine bodyPost_ret (v := .tuple #[.agg out0.toArray, .int .i64 1]) (by simp [results, Try.results62, asAddr, r0]) rfl ?_
  exact ⟨rfl, HE.out⟩
set_option maxRecDepth 100000 in
set_option maxHeartbeats 1000000 in
theorem replace_nil (v : Value) (a b c : Int) (w : World) (h : NilC w v) : Calls Try.prog 59 #[v, .int .i64 a, .int .i64 b, .int .i64 c] w (NilP w) := by
  have hX := Blk.new w out0 90
  obtain ⟨w1, hw1⟩ : ∃ x, x = w.alloc (.cells out0.toArray 90) := ⟨_, rfl⟩
  have H : Hid (NilC w1 v) := Lib.hid (by rw [hw1]; exact h.below (Below.new _ _))
  have hX1 : Blk w1 w.heap.size out0 90 := by rw [hw1]; exact hX
  have hB : Below w.heap.size w w1 := by rw [hw1]; exact Below.new _ _
  obtain ⟨e3, e4, R0, HE⟩ := nil_none hX1 (Nat.le_refl _) hB
  clear h hX hX1 hB
  go_enter Try.func59, Try.ntmps59
  go_upto_region 1 with (fail)
  rw [← hw1]
  clear hw1
  go_wp2_with fail
  refine Calls.mono (cnone_nil v w1 H.out) ?_
  rintro e w2 ⟨rfl, rfl⟩
  go_wp2_with fail
  have r0 := R0.out
  refine bodyPost_ret (v := .tuple #[.agg out0.toArray, .int .i64 1]) (by simp [results, Try.results59, asAddr, r0]) rfl ?_
  exact ⟨rfl, HE.out⟩
set_option maxRecDepth 100000 in
set_option maxHeartbeats 1000000 in
theorem fire_nil (v : Value) (w : World) (h : NilC w v) : Calls Try.prog 61 #[v] w (NilP w) := by
  obtain ⟨w1, hw1, hb1, hz1, hX, hG⟩ := two_blk w 90 90 out0 out0
  have H := Lib.hid (h.below hb1)
  obtain ⟨e3, e4, R0, HE⟩ := nil_none hX (Nat.le_refl _) hb1
  obtain ⟨g1, g2⟩ := out_at hG out0_len (Below.refl _ _)
  have HW1 := Lib.hid hw1
  clear h hX hb1 hG hz1 hw1
  go_enter Try.func61, Try.ntmps61
  go_upto_region 2 with (fail)
  rw [← HW1.out]
  clear HW1
  go_wp2_with fail
  refine Calls.mono (cnone_nil v w1 H.out) ?_
  rintro e w2 ⟨rfl, rfl⟩
  go_wp2_with fail
  have r0 := R0.out
  refine bodyPost_ret (v := .tuple #[.agg out0.toArray, .int .i64 1]) (by simp [results, Try.results61, asAddr, r0]) rfl ?_
  exact ⟨rfl, HE.out⟩
set_option maxRecDepth 100000 in
set_option maxHeartbeats 1000000 in
theorem take_nil (v : Value) (w : World) (h : NilC w v) : Calls Try.prog 52 #[v, .agg note0.toArray] w (NilP w) := by
  obtain ⟨w1, hw1, hb1, hz1, hB, hX, hG⟩ := three_blk w 81 90 90 note0 out0 out0
  have H := Lib.hid (h.below hb1)
  obtain ⟨e3, e4, R0, HE⟩ := nil_none hX (by omega) hb1
  obtain ⟨g1, g2⟩ := out_at hG out0_len (Below.refl _ _)
  have HW1 := Lib.hid hw1
  clear h hX hb1 hG hz1 hw1 hB
  go_enter Try.func52, Try.ntmps52
  go_upto_region 2 with (fail)
  rw [← HW1.out]
  clear HW1
  go_wp2_with fail
  refine Calls.mono (cnone_nil v w1 H.out) ?_
  rintro e w2 ⟨rfl, rfl⟩
  go_wp2_with fail
  have r0 := R0.out
  refine bodyPost_ret (v := .tuple #[.agg out0.toArray, .int .i64 1]) (by simp [results, Try.results52, asAddr, r0]) rfl ?_
  exact ⟨rfl, HE.out⟩
end Go.Proofs.Ytldcpnabgpjgiaa.Walks
