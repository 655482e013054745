/-
  Calls of a client that are refused.
-/
import Derived.Test.YtldcpnabgpjgiaaDiskZH
namespace Go.Proofs.Ytldcpnabgpjgiaa.Walks
open Go.RowKit Plain
set_option linter.unusedVariables false
attribute [local go_sem] isPV_mk adV_mk cells_agg cells_agg' held_drew room_drew cellsAt_drew isA4_mk isSl_mk isI_mk intOf_mk
attribute [local go_sem ↓] exec_load88 exec_store88 exec_load81 exec_store81 exec_load90 exec_store90 Go.wp_at_zero Go.wp_at_succ exec_alloc81 exec_build81r exec_build81s exec_bs69 exec_alloc90 exec_build90n
attribute [local irreducible] out0

def NoneP (err : Int) (w : World) (e : Ending) (w' : World) : Prop := e = .returned (.tuple #[.pointer none, .int .i64 err]) ∧ Below w.heap.size w w'
set_option maxRecDepth 100000 in
set_option maxHeartbeats 1000000 in
theorem new_name (name f chunks : Int) (a : Option Addr) (n c : Nat) (w : World) (h : name < 31 ∨ (¬ name < 31 ∧ 34 < name)) :
    Calls Try.prog 57 #[.int .i64 name, .agg #[.int .i64 f, .slice a n c], .int .i64 chunks] w (NoneP 2 w) := by
  have hb := Below.new w (.cells #[.int .i64 f, .slice a n c] 24)
  have HB := Lib.hid hb
  clear hb
  rcases h with h | ⟨h1, h2⟩
  all_goals
    go_enter Try.func57, Try.ntmps57
    go_wp2_with fail
    refine bodyPost_ret (v := .tuple #[.pointer none, .int .i64 2]) (by simp [results, Try.results57]) rfl ?_
    exact ⟨rfl, HB.out⟩
set_option maxRecDepth 100000 in
set_option maxHeartbeats 1000000 in
theorem new_crew (w : World) : Calls Try.prog 57 #[.int .i64 31, .agg #[.int .i64 0, .slice none 0 0], .int .i64 1] w (NoneP 110 w) := by
  obtain ⟨w1, hw1⟩ : ∃ x, x = w.alloc (.cells #[.int .i64 0, .slice none 0 0] 24) := ⟨_, rfl⟩
  have hB1 : Blk w1 w.heap.size [.int .i64 0, .slice none 0 0] 24 := by rw [hw1]; exact Blk.new _ _ _
  have hb1 : Below w.heap.size w w1 := by rw [hw1]; exact Below.new _ _
  have HB1 := Lib.hid hb1
  have c0 := hB1.cell (i := 0) rfl
  have c1 := hB1.cell (i := 1) rfl
  clear hB1 hb1
  go_enter Try.func57, Try.ntmps57
  go_upto_region 1 with (fail)
  rw [← hw1]
  clear hw1
  go_wp2_with fail
  have hck := check_any 0 none 0 [] w1 (Ints.nil _ _)
  refine Calls.mono hck ?_
  rintro e w2 ⟨rfl, hb2⟩
  have HB2 := Lib.hid (Below.step HB1.out hb2)
  have he : ∃ z : Int, errC 0 [] = z ∧ (z != 0) = true := ⟨errC 0 [], rfl, by decide⟩
  obtain ⟨z, hz, hz0⟩ := he
  rw [hz]
  clear hck hb2 hz
  go_wp2_with fail
  refine bodyPost_ret (v := .tuple #[.pointer none, .int .i64 110]) (by simp [results, Try.results57]) rfl ?_
  exact ⟨rfl, HB2.out⟩
set_option maxRecDepth 100000 in
set_option maxHeartbeats 1000000 in
theorem new_chunks (a : Option Addr) (n : Nat) (chunks : Int) (w : World) (hI : IL w a dirL) (h : chunks < 1 ∨ (¬ chunks < 1 ∧ 2 < chunks)) :
    Calls Try.prog 57 #[.int .i64 31, .agg #[.int .i64 1, .slice a 4 n], .int .i64 chunks] w (NoneP 2 w) := by
  obtain ⟨w1, hw1⟩ : ∃ x, x = w.alloc (.cells #[.int .i64 1, .slice a 4 n] 24) := ⟨_, rfl⟩
  have hB1 : Blk w1 w.heap.size [.int .i64 1, .slice a 4 n] 24 := by rw [hw1]; exact Blk.new _ _ _
  have hb1 : Below w.heap.size w w1 := by rw [hw1]; exact Below.new _ _
  have HB1 := Lib.hid hb1
  have HI := Lib.hid (hI.below hb1)
  have c0 := hB1.cell (i := 0) rfl
  have c1 := hB1.cell (i := 1) rfl
  clear hB1 hb1 hI
  rcases h with h | ⟨h1, h2⟩
  all_goals
    go_enter Try.func57, Try.ntmps57
    go_upto_region 1 with (fail)
    rw [← hw1]
    clear hw1
    go_wp2_with fail
    have hck := check_any 1 a n dirL w1 HI.out.ints
    rw [show errC 1 dirL = 0 by decide] at hck
    refine Calls.mono hck ?_
    rintro e w2 ⟨rfl, hb2⟩
    have HB2 := Lib.hid (Below.step HB1.out hb2)
    clear hck hb2
    go_wp2_with fail
    refine bodyPost_ret (v := .tuple #[.pointer none, .int .i64 2]) (by simp [results, Try.results57]) rfl ?_
    exact ⟨rfl, HB2.out⟩
/-- A refused call's end. -/
theorem give_none {w w1 : World} {p r1 r2 N : Nat} {c : Cl} {err : Int} (hC : CliAt w1 p r1 r2 N c) (hX : Blk w1 w.heap.size out0 90) (hO : Only [p] w w1) :
    Room w1 ⟨w.heap.size, 0, none⟩ 75 ∧ isAgg 75 (.agg out0.toArray) ∧ Hid ((loadVar 90 ⟨w.heap.size, 0, none⟩).run Try.prog (w1.setCells w.heap.size 0 out0) = .ok (.agg out0.toArray) (w1.setCells w.heap.size 0 out0)) ∧
    Hid (GiveP [p] p r1 r2 N c Ou.zero err w (.returned (.tuple #[.agg out0.toArray, .int .i64 err])) (w1.setCells w.heap.size 0 out0)) := by
  obtain ⟨k1, k2, k3, k4⟩ := give_end hC (out0_v w1) hX (Nat.le_refl _) hO
  exact ⟨hX.room (o := 0) (n := 75) (by rw [out0_len]; exact Nat.le_refl _), (out0_v w1).agg, Lib.hid (load_blk Try.underlying90 rfl z90 k3 out0_len), Lib.hid ⟨out0, r2, rfl, .inl rfl, k1, k2, k4⟩⟩
set_option maxRecDepth 100000 in
set_option maxHeartbeats 1000000 in
theorem read_bad (p r1 r2 N : Nat) (c : Cl) (b : Int) (w : World) (h : CliAt w p r1 r2 N c) (hc : 0 ≤ c.chunks ∧ c.chunks ≤ 2) (hb : b < 0 ∨ (¬ b < 0 ∧ 8 * c.chunks ≤ b)) :
    Calls Try.prog 65 #[.pointer (some ⟨p, 0, none⟩), .int .i64 b] w (GiveP [p] p r1 r2 N c Ou.zero 170 w) := by
  have hX := Blk.new w out0 90
  obtain ⟨w1, hw1⟩ : ∃ x, x = w.alloc (.cells out0.toArray 90) := ⟨_, rfl⟩
  have hC1 : CliAt w1 p r1 r2 N c := by rw [hw1]; exact h.below (Below.new _ _)
  have hX1 : Blk w1 w.heap.size out0 90 := by rw [hw1]; exact hX
  have hO : Only [p] w w1 := by rw [hw1]; exact Only.of_below (Below.new _ _)
  obtain ⟨e3, e4, R0, HE⟩ := give_none (err := 170) hC1 hX1 hO
  have c4 := hC1.c4
  have c3 := hC1.c3
  have hm : IntKind.i64.wrap (8 * c.chunks) = 8 * c.chunks := IntWalk.i64_in _ (by omega)
  clear h hX hC1 hX1 hO
  rcases hb with hb | ⟨hb0, hb1⟩
  all_goals
    go_enter Try.func65, Try.ntmps65
    go_upto_region 1 with (fail)
    rw [← hw1]
    clear hw1
    go_wp2_with fail
    refine Calls.mono (cnone_is p r1 w1 c4) ?_
    rintro e w2 ⟨rfl, rfl⟩
    go_wp2_with fail
    have r0 := R0.out
    refine bodyPost_ret (v := .tuple #[.agg out0.toArray, .int .i64 170]) (by simp [results, Try.results65, asAddr, r0]) rfl ?_
    exact HE.out
set_option maxRecDepth 100000 in
set_option maxHeartbeats 1000000 in
theorem read_busy (p r1 r2 N : Nat) (c : Cl) (b : Int) (w : World) (h : CliAt w p r1 r2 N c) (hb : 0 ≤ b ∧ b < 8 * c.chunks) (hc : c.chunks ≤ 2) (hw : c.way ≠ 0) :
    Calls Try.prog 65 #[.pointer (some ⟨p, 0, none⟩), .int .i64 b] w (GiveP [p] p r1 r2 N c Ou.zero 151 w) := by
  have hX := Blk.new w out0 90
  obtain ⟨w1, hw1⟩ : ∃ x, x = w.alloc (.cells out0.toArray 90) := ⟨_, rfl⟩
  have hC1 : CliAt w1 p r1 r2 N c := by rw [hw1]; exact h.below (Below.new _ _)
  have HX : Hid (Blk w1 w.heap.size out0 90) := Lib.hid (by rw [hw1]; exact hX)
  have HO : Hid (Only [p] w w1) := Lib.hid (by rw [hw1]; exact Only.of_below (Below.new _ _))
  have HC1 := Lib.hid hC1
  have HW := Lib.hid hw
  have HPX := Lib.hid h.lt.1
  have c4 := hC1.c4
  have c3 := hC1.c3
  have hm : IntKind.i64.wrap (8 * c.chunks) = 8 * c.chunks := IntWalk.i64_in _ (by omega)
  obtain ⟨hb0, hb1⟩ := hb
  have g1 : ¬ b < 0 := by omega
  have g2 : ¬ 8 * c.chunks ≤ b := by omega
  clear h hX hC1 hw
  go_enter Try.func65, Try.ntmps65
  go_upto_region 1 with (fail)
  rw [← hw1]
  clear hw1
  go_wp2_with fail
  refine Calls.mono (cnone_is p r1 w1 c4) ?_
  rintro e w2 ⟨rfl, rfl⟩
  go_wp2_with fail
  rw [readW_agg]
  refine Calls.mono (begin_busy p r1 r2 N c (readW b) none 0 w1 HC1.out HW.out) ?_
  rintro e w2 ⟨l, r2', rfl, q0, q1, q2, q3⟩
  have hx := q3.blk HX.out (by have := HPX.out; simp; omega)
  have e3 := hx.room (o := 0) (n := 75) (by rw [out0_len]; exact Nat.le_refl _)
  have e4 := q2.agg
  obtain ⟨k1, k2, k3, k4⟩ := give_end q1 q2 hx (Nat.le_refl _) (HO.out.trans q3)
  have R0 := Lib.hid (load_blk Try.underlying90 rfl z90 k3 q2.len)
  have HE : Hid ((r2' = r2 ∨ w.heap.size ≤ r2') ∧ CliAt (w2.setCells w.heap.size 0 l) p r1 r2' N c ∧ OutV (w2.setCells w.heap.size 0 l) l Ou.zero ∧ Only [p] w (w2.setCells w.heap.size 0 l)) := Lib.hid ⟨q0.imp id (Nat.le_trans HO.out.size), k1, k2, k4⟩
  clear q0 q1 q2 q3 hx k1 k2 k3 k4
  go_wp2_with fail
  have r0 := R0.out
  refine bodyPost_ret (v := .tuple #[.agg l.toArray, .int .i64 151]) (by simp [results, Try.results65, asAddr, r0]) rfl ?_
  exact ⟨l, r2', rfl, HE.out⟩
set_option maxRecDepth 100000 in
set_option maxHeartbeats 1000000 in
theorem write_bad (p r1 r2 N : Nat) (c : Cl) (b : Int) (la : Option Addr) (n lc : Nat) (err : Int) (w : World) (h : CliAt w p r1 r2 N c) (hc : 0 ≤ c.chunks ∧ c.chunks ≤ 2) (hn : n ≤ 100) (hb : err = 170 ∧ (b < 0 ∨ (¬ b < 0 ∧ 8 * c.chunks ≤ b)) ∨ err = 2 ∧ ¬ b < 0 ∧ ¬ 8 * c.chunks ≤ b ∧ n ≠ 16) :
    Calls Try.prog 62 #[.pointer (some ⟨p, 0, none⟩), .int .i64 b, .slice la n lc] w (GiveP [p] p r1 r2 N c Ou.zero err w) := by
  have hX := Blk.new w out0 90
  obtain ⟨w1, hw1⟩ : ∃ x, x = w.alloc (.cells out0.toArray 90) := ⟨_, rfl⟩
  have hC1 : CliAt w1 p r1 r2 N c := by rw [hw1]; exact h.below (Below.new _ _)
  have hX1 : Blk w1 w.heap.size out0 90 := by rw [hw1]; exact hX
  have hO : Only [p] w w1 := by rw [hw1]; exact Only.of_below (Below.new _ _)
  obtain ⟨e3, e4, R0, HE⟩ := give_none (err := err) hC1 hX1 hO
  have c4 := hC1.c4
  have c3 := hC1.c3
  have hm : IntKind.i64.wrap (8 * c.chunks) = 8 * c.chunks := IntWalk.i64_in _ (by omega)
  clear h hX hC1 hX1 hO
  rcases hb with ⟨rfl, hb | ⟨hb0, hb1⟩⟩ | ⟨rfl, hb0, hb1, hb2⟩
  · go_enter Try.func62, Try.ntmps62
    go_upto_region 1 with (fail)
    rw [← hw1]
    clear hw1
    go_wp2_with fail
    refine Calls.mono (cnone_is p r1 w1 c4) ?_
    rintro e w2 ⟨rfl, rfl⟩
    go_wp2_with fail
    have r0 := R0.out
    refine bodyPost_ret (v := .tuple #[.agg out0.toArray, .int .i64 170]) (by simp [results, Try.results62, asAddr, r0]) rfl ?_
    exact HE.out
  · go_enter Try.func62, Try.ntmps62
    go_upto_region 1 with (fail)
    rw [← hw1]
    clear hw1
    go_wp2_with fail
    refine Calls.mono (cnone_is p r1 w1 c4) ?_
    rintro e w2 ⟨rfl, rfl⟩
    go_wp2_with fail
    have r0 := R0.out
    refine bodyPost_ret (v := .tuple #[.agg out0.toArray, .int .i64 170]) (by simp [results, Try.results62, asAddr, r0]) rfl ?_
    exact HE.out
  · have hn16 : (((n : Nat) : Int) != 16) = true := by simpa using (show ¬ ((n : Nat) : Int) = 16 by omega)
    go_enter Try.func62, Try.ntmps62
    go_upto_region 1 with (fail)
    rw [← hw1]
    clear hw1
    go_wp2_with fail
    refine Calls.mono (cnone_is p r1 w1 c4) ?_
    rintro e w2 ⟨rfl, rfl⟩
    go_wp2_with fail
    have r0 := R0.out
    refine bodyPost_ret (v := .tuple #[.agg out0.toArray, .int .i64 2]) (by simp [results, Try.results62, asAddr, r0]) rfl ?_
    exact HE.out
end Go.Proofs.Ytldcpnabgpjgiaa.Walks
