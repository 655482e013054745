/-
  The walks of the client's read, write, replace.
  The walk of a client's making.
-/
import Derived.Test.YtldcpnabgpjgiaaDiskR
namespace Go.Proofs.Ytldcpnabgpjgiaa.Walks
open Go.RowKit Plain
set_option linter.unusedVariables false
attribute [local go_sem] isPV_mk adV_mk cells_agg cells_agg' held_drew room_drew cellsAt_drew isA4_mk isSl_mk isI_mk intOf_mk
attribute [local go_sem ↓] exec_load88 exec_store88 exec_load81 exec_store81 exec_load90 exec_store90 Go.wp_at_zero Go.wp_at_succ exec_alloc81 exec_build81r exec_build81s exec_bs69 exec_alloc90 exec_build90n
attribute [local irreducible] out0

/-- The wishes that calls begin with. -/
def readW (b : Int) : Wi := ⟨0, 0, 1 + b / 8, 0, 1, b % 8, [], 0, 0⟩
def writeW (b : Int) (l : List Int) : Wi := ⟨0, 0, 1 + b / 8, 0, 2, b % 8, l, 0, 0⟩
def replaceW (b old new : Int) : Wi := ⟨0, 0, 0, 0, 4, b, [], old, new⟩
theorem readW_agg (b : Int) : (Value.agg #[.int .i64 0, .int .i64 0, .int .i64 (1 + b / 8), .int .i64 0, .int .i64 1, .int .i64 (b % 8), .slice none 0 0, .int .i64 0, .int .i64 0, .slice none 0 0]) = .agg (wishL (readW b) none 0).toArray := rfl
set_option maxRecDepth 100000 in
set_option maxHeartbeats 1000000 in
theorem read_is (p r1 r2 N : Nat) (c : Cl) (b : Int) (w : World) (h : CliAt w p r1 r2 N c) (hb : 0 ≤ b ∧ b < 8 * c.chunks) (hc : c.chunks ≤ 2) (hw : c.way = 0) (hs : 0 ≤ c.stamp ∧ c.stamp ≤ 1000000) (hn : 0 ≤ c.calls ∧ c.calls ≤ 1000000) (hg : ∀ m, c.maps (1 + b / 8) = some m → goodC 1 m.1 = true) :
    Calls Try.prog 65 #[.pointer (some ⟨p, 0, none⟩), .int .i64 b] w (GiveP [p] p r1 r2 N (beginC c (readW b)) (beginO c (readW b)) 0 w) := by
  have HC := Lib.hid h
  have HW := Lib.hid hw
  have HS := Lib.hid hs
  have HN := Lib.hid hn
  have HG := Lib.hid hg
  obtain ⟨hb0, hb1⟩ := hb
  have g1 : ¬ b < 0 := by omega
  have hm : IntKind.i64.wrap (8 * c.chunks) = 8 * c.chunks := IntWalk.i64_in _ (by omega)
  have g2 : ¬ 8 * c.chunks ≤ b := by omega
  clear h hs hn hg hw
  go_enter Try.func65, Try.ntmps65
  go_upto_region 1 with (fail)
  have hX := Blk.new w out0 90
  obtain ⟨w1, hw1⟩ : ∃ x, x = w.alloc (.cells out0.toArray 90) := ⟨_, rfl⟩
  have HC1 : Hid (CliAt w1 p r1 r2 N c) := Lib.hid (by rw [hw1]; exact HC.out.below (Below.new _ _))
  have HX : Hid (Blk w1 w.heap.size out0 90) := Lib.hid (by rw [hw1]; exact hX)
  have HO : Hid (Only [p] w w1) := Lib.hid (by rw [hw1]; exact Only.of_below (Below.new _ _))
  have HPX := Lib.hid HC.out.lt.1
  rw [← hw1]
  clear hX hw1
  have c4 := HC1.out.c4
  go_wp2_with fail
  refine Calls.mono (cnone_is p r1 w1 c4) ?_
  rintro e w2 ⟨rfl, rfl⟩
  have c3 := HC1.out.c3
  go_wp2_with fail
  rw [readW_agg]
  refine Calls.mono (begin_is p r1 r2 N c (readW b) none 0 w1 HC1.out HW.out HS.out HN.out (Wf.of (by show _ ≤ 1 + b / 8; omega) (by show 1 + b / 8 ≤ _; omega)) HG.out (BL.nil _ _) (fun _ => rfl)) ?_
  rintro e w2 ⟨l, r2', rfl, q0, q1, q2, q3⟩
  have hx := q3.blk HX.out (by have := HPX.out; simp; omega)
  have e3 := hx.room (o := 0) (n := 75) (by rw [out0_len]; exact Nat.le_refl _)
  have e4 := q2.agg
  obtain ⟨k1, k2, k3, k4⟩ := give_end q1 q2 hx (Nat.le_refl _) (HO.out.trans q3)
  have R0 := Lib.hid (load_blk Try.underlying90 rfl z90 k3 q2.len)
  have HE : Hid ((r2' = r2 ∨ w.heap.size ≤ r2') ∧ CliAt (w2.setCells w.heap.size 0 l) p r1 r2' N (beginC c (readW b)) ∧ OutV (w2.setCells w.heap.size 0 l) l (beginO c (readW b)) ∧ Only [p] w (w2.setCells w.heap.size 0 l)) := Lib.hid ⟨q0.imp id (Nat.le_trans HO.out.size), k1, k2, k4⟩
  clear q0 q1 q2 q3 hx k1 k2 k3 k4
  go_wp2_with fail
  have r0 := R0.out
  refine bodyPost_ret (v := .tuple #[.agg l.toArray, .int .i64 0]) (by simp [results, Try.results65, asAddr, r0]) rfl ?_
  exact ⟨l, r2', rfl, HE.out⟩

theorem writeW_agg (b : Int) (l : List Int) (a : Option Addr) (n : Nat) (h : l.length = 16) : (Value.agg #[.int .i64 0, .int .i64 0, .int .i64 (1 + b / 8), .int .i64 0, .int .i64 2, .int .i64 (b % 8), .slice a 16 n, .int .i64 0, .int .i64 0, .slice none 0 0]) = .agg (wishL (writeW b l) a n).toArray := by
  rw [← h]; rfl
set_option maxRecDepth 100000 in
set_option maxHeartbeats 1000000 in
theorem write_is (p r1 r2 N : Nat) (c : Cl) (b : Int) (l : List Int) (la : Option Addr) (lc : Nat) (w : World) (h : CliAt w p r1 r2 N c) (hb : 0 ≤ b ∧ b < 8 * c.chunks) (hc : c.chunks ≤ 2) (hl : l.length = 16) (hL : BL w la l) (hLn : la = none → lc = 0) (hw : c.way = 0) (hs : 0 ≤ c.stamp ∧ c.stamp ≤ 1000000) (hn : 0 ≤ c.calls ∧ c.calls ≤ 1000000) (hg : ∀ m, c.maps (1 + b / 8) = some m → goodC 1 m.1 = true) :
    Calls Try.prog 62 #[.pointer (some ⟨p, 0, none⟩), .int .i64 b, .slice la 16 lc] w (GiveP [p] p r1 r2 N (beginC c (writeW b l)) (beginO c (writeW b l)) 0 w) := by
  have HC := Lib.hid h
  have HW := Lib.hid hw
  have HS := Lib.hid hs
  have HN := Lib.hid hn
  have HG := Lib.hid hg
  have HL := Lib.hid hL
  have HLN := Lib.hid hLn
  have H16 := Lib.hid hl
  obtain ⟨hb0, hb1⟩ := hb
  have g1 : ¬ b < 0 := by omega
  have hm : IntKind.i64.wrap (8 * c.chunks) = 8 * c.chunks := IntWalk.i64_in _ (by omega)
  have g2 : ¬ 8 * c.chunks ≤ b := by omega
  clear h hs hn hg hw hL hLn hl
  go_enter Try.func62, Try.ntmps62
  go_upto_region 1 with (fail)
  have hX := Blk.new w out0 90
  obtain ⟨w1, hw1⟩ : ∃ x, x = w.alloc (.cells out0.toArray 90) := ⟨_, rfl⟩
  have HC1 : Hid (CliAt w1 p r1 r2 N c) := Lib.hid (by rw [hw1]; exact HC.out.below (Below.new _ _))
  have HX : Hid (Blk w1 w.heap.size out0 90) := Lib.hid (by rw [hw1]; exact hX)
  have HO : Hid (Below w.heap.size w w1) := Lib.hid (by rw [hw1]; exact Below.new _ _)
  have HPX := Lib.hid HC.out.lt.1
  rw [← hw1]
  clear hX hw1
  have c4 := HC1.out.c4
  go_wp2_with fail
  refine Calls.mono (cnone_is p r1 w1 c4) ?_
  rintro e w2 ⟨rfl, rfl⟩
  have c3 := HC1.out.c3
  go_wp2_with fail
  have hcl := cloneB_any la lc l w1 (HL.out.below HO.out) HLN.out
  rw [H16.out] at hcl
  refine Calls.mono hcl ?_
  rintro e w2 ⟨a2, n2, rfl, hD, hn2, hb2⟩
  rw [H16.out]
  have HC2 := Lib.hid (HC1.out.below hb2)
  have HX2 := Lib.hid (HX.out.below hb2)
  have HO2 := Lib.hid (Below.step HO.out hb2)
  have HD := Lib.hid hD
  have HN2 := Lib.hid hn2
  clear hcl hD hn2 hb2
  go_wp2_with fail
  rw [writeW_agg b l a2 n2 H16.out]
  refine Calls.mono (begin_is p r1 r2 N c (writeW b l) a2 n2 w2 HC2.out HW.out HS.out HN.out (Wf.of (by show _ ≤ 1 + b / 8; omega) (by show 1 + b / 8 ≤ _; omega)) HG.out HD.out HN2.out) ?_
  rintro e w3 ⟨ll, r2', rfl, q0, q1, q2, q3⟩
  have hx := q3.blk HX2.out (by have := HPX.out; simp; omega)
  have e3 := hx.room (o := 0) (n := 75) (by rw [out0_len]; exact Nat.le_refl _)
  have e4 := q2.agg
  obtain ⟨k1, k2, k3, k4⟩ := give_end q1 q2 hx (Nat.le_refl _) ((Only.of_below HO2.out).trans q3)
  have R0 := Lib.hid (load_blk Try.underlying90 rfl z90 k3 q2.len)
  have HE : Hid ((r2' = r2 ∨ w.heap.size ≤ r2') ∧ CliAt (w3.setCells w.heap.size 0 ll) p r1 r2' N (beginC c (writeW b l)) ∧ OutV (w3.setCells w.heap.size 0 ll) ll (beginO c (writeW b l)) ∧ Only [p] w (w3.setCells w.heap.size 0 ll)) := Lib.hid ⟨q0.imp id (Nat.le_trans HO2.out.size), k1, k2, k4⟩
  clear q0 q1 q2 q3 hx k1 k2 k3 k4
  go_wp2_with fail
  have r0 := R0.out
  refine bodyPost_ret (v := .tuple #[.agg ll.toArray, .int .i64 0]) (by simp [results, Try.results62, asAddr, r0]) rfl ?_
  exact ⟨ll, r2', rfl, HE.out⟩

theorem node_is (n : Int) (w : World) : Calls Try.prog 99 #[.int .i64 n] w fun e w' => e = .returned (.bool (decide (1 ≤ n) && decide (n ≤ 28))) ∧ w = w' := by
  by_cases h1 : 1 ≤ n
  all_goals by_cases h2 : n ≤ 28
  all_goals
    have H1 := Lib.hid h1
    have H2 := Lib.hid h2
    go_enter Try.func99, Try.ntmps99
    go_wp2
    go_ret
    exact ⟨by simp [H1.out, H2.out], rfl⟩
def replOK (c : Cl) (b old new : Int) : Bool := decide (c.name = 34) && (decide (1 ≤ b) && decide (b ≤ c.chunks)) && (decide (1 ≤ old) && decide (old ≤ 28)) && (decide (1 ≤ new) && decide (new ≤ 28)) && !decide (old = new)
theorem replaceW_agg (b old new : Int) : (Value.agg #[.int .i64 0, .int .i64 0, .int .i64 0, .int .i64 0, .int .i64 4, .int .i64 b, .slice none 0 0, .int .i64 old, .int .i64 new, .slice none 0 0]) = .agg (wishL (replaceW b old new) none 0).toArray := rfl
set_option maxRecDepth 100000 in
set_option maxHeartbeats 1000000 in
theorem replace_is (p r1 r2 N : Nat) (c : Cl) (b old new : Int) (w : World) (h : CliAt w p r1 r2 N c) (hok : replOK c b old new = true) (hc : c.chunks ≤ 2) (hw : c.way = 0) (hs : 0 ≤ c.stamp ∧ c.stamp ≤ 1000000) (hn : 0 ≤ c.calls ∧ c.calls ≤ 1000000) (hg : ∀ m, c.maps b = some m → goodC 1 m.1 = true) :
    Calls Try.prog 59 #[.pointer (some ⟨p, 0, none⟩), .int .i64 b, .int .i64 old, .int .i64 new] w (GiveP [p] p r1 r2 N (beginC c (replaceW b old new)) (beginO c (replaceW b old new)) 0 w) := by
  simp only [replOK, Bool.and_eq_true, decide_eq_true_eq, Bool.not_eq_true', decide_eq_false_iff_not] at hok
  obtain ⟨⟨⟨⟨h1, h2, h3⟩, h4, h5⟩, h6, h7⟩, h8⟩ := hok
  have HC := Lib.hid h
  have HW := Lib.hid hw
  have HS := Lib.hid hs
  have HN := Lib.hid hn
  have HG := Lib.hid hg
  have HWB : Hid (Wf b) := Lib.hid (Wf.of (by omega) (by omega))
  have g1 : ¬ b < 1 := by omega
  have g2 : ¬ c.chunks < b := by omega
  have q1 : (decide (1 ≤ old) && decide (old ≤ 28)) = true := by simp [h4, h5]
  have q2 : (decide (1 ≤ new) && decide (new ≤ 28)) = true := by simp [h6, h7]
  have g3 : (old == new) = false := by simpa using h8
  have H1 := Lib.hid h1
  clear h hs hn hg hw h2 h3 h4 h5 h6 h7 h8 h1
  go_enter Try.func59, Try.ntmps59
  go_upto_region 1 with (fail)
  have hX := Blk.new w out0 90
  obtain ⟨w1, hw1⟩ : ∃ x, x = w.alloc (.cells out0.toArray 90) := ⟨_, rfl⟩
  have HC1 : Hid (CliAt w1 p r1 r2 N c) := Lib.hid (by rw [hw1]; exact HC.out.below (Below.new _ _))
  have HX : Hid (Blk w1 w.heap.size out0 90) := Lib.hid (by rw [hw1]; exact hX)
  have HO : Hid (Below w.heap.size w w1) := Lib.hid (by rw [hw1]; exact Below.new _ _)
  have HPX := Lib.hid HC.out.lt.1
  rw [← hw1]
  clear hX hw1
  have c4 := HC1.out.c4
  go_wp2_with fail
  refine Calls.mono (cnone_is p r1 w1 c4) ?_
  rintro e w2 ⟨rfl, rfl⟩
  have c3 := HC1.out.c3
  have c0 := HC1.out.c0
  rw [H1.out] at c0
  go_wp2_with fail
  refine Calls.mono (node_is old w1) ?_
  rintro e w2 ⟨rfl, rfl⟩
  rw [q1]
  clear q1
  go_wp2_with fail
  refine Calls.mono (node_is new w1) ?_
  rintro e w2 ⟨rfl, rfl⟩
  rw [q2]
  clear q2
  go_wp2_with fail
  rw [replaceW_agg]
  refine Calls.mono (begin_is p r1 r2 N c (replaceW b old new) none 0 w1 HC1.out HW.out HS.out HN.out HWB.out HG.out (BL.nil _ _) (fun _ => rfl)) ?_
  rintro e w3 ⟨ll, r2', rfl, q0, q1, q2, q3⟩
  have hx := q3.blk HX.out (by have := HPX.out; simp; omega)
  have e3 := hx.room (o := 0) (n := 75) (by rw [out0_len]; exact Nat.le_refl _)
  have e4 := q2.agg
  obtain ⟨k1, k2, k3, k4⟩ := give_end q1 q2 hx (Nat.le_refl _) ((Only.of_below HO.out).trans q3)
  have R0 := Lib.hid (load_blk Try.underlying90 rfl z90 k3 q2.len)
  have HE : Hid ((r2' = r2 ∨ w.heap.size ≤ r2') ∧ CliAt (w3.setCells w.heap.size 0 ll) p r1 r2' N (beginC c (replaceW b old new)) ∧ OutV (w3.setCells w.heap.size 0 ll) ll (beginO c (replaceW b old new)) ∧ Only [p] w (w3.setCells w.heap.size 0 ll)) := Lib.hid ⟨q0.imp id (Nat.le_trans HO.out.size), k1, k2, k4⟩
  clear q0 q1 q2 q3 hx k1 k2 k3 k4
  go_wp2_with fail
  have r0 := R0.out
  refine bodyPost_ret (v := .tuple #[.agg ll.toArray, .int .i64 0]) (by simp [results, Try.results59, asAddr, r0]) rfl ?_
  exact ⟨ll, r2', rfl, HE.out⟩
theorem repl_cases {c : Cl} {b old new : Int} (h : replOK c b old new = false) :
    c.name ≠ 34 ∨ (c.name = 34 ∧ b < 1) ∨ (c.name = 34 ∧ ¬ b < 1 ∧ c.chunks < b) ∨ (c.name = 34 ∧ ¬ b < 1 ∧ ¬ c.chunks < b ∧ (decide (1 ≤ old) && decide (old ≤ 28)) = false) ∨
    (c.name = 34 ∧ ¬ b < 1 ∧ ¬ c.chunks < b ∧ (decide (1 ≤ old) && decide (old ≤ 28)) = true ∧ (decide (1 ≤ new) && decide (new ≤ 28)) = false) ∨
    (c.name = 34 ∧ ¬ b < 1 ∧ ¬ c.chunks < b ∧ (decide (1 ≤ old) && decide (old ≤ 28)) = true ∧ (decide (1 ≤ new) && decide (new ≤ 28)) = true ∧ old = new) := by
  unfold replOK at h
  by_cases h1 : c.name = 34
  · by_cases h2 : b < 1
    · exact .inr (.inl ⟨h1, h2⟩)
    · by_cases h3 : c.chunks < b
      · exact .inr (.inr (.inl ⟨h1, h2, h3⟩))
      · cases h4 : (decide (1 ≤ old) && decide (old ≤ 28))
        · exact .inr (.inr (.inr (.inl ⟨h1, h2, h3, rfl⟩)))
        · cases h5 : (decide (1 ≤ new) && decide (new ≤ 28))
          · exact .inr (.inr (.inr (.inr (.inl ⟨h1, h2, h3, rfl, rfl⟩))))
          · refine .inr (.inr (.inr (.inr (.inr ⟨h1, h2, h3, rfl, rfl, ?_⟩))))
            rw [h4, h5] at h
            have g2 : 1 ≤ b := by omega
            have g3 : b ≤ c.chunks := by omega
            simpa [h1, g2, g3] using h
  · exact .inl h1
set_option maxRecDepth 100000 in
set_option maxHeartbeats 2000000 in
theorem replace_bad (p r1 r2 N : Nat) (c : Cl) (b old new : Int) (w : World) (h : CliAt w p r1 r2 N c) (hok : replOK c b old new = false) :
    Calls Try.prog 59 #[.pointer (some ⟨p, 0, none⟩), .int .i64 b, .int .i64 old, .int .i64 new] w (GiveP [p] p r1 r2 N c Ou.zero 2 w) := by
  have HC := Lib.hid h
  have HCA := Lib.hid (repl_cases hok)
  clear h hok
  go_enter Try.func59, Try.ntmps59
  go_upto_region 1 with (fail)
  have hX := Blk.new w out0 90
  obtain ⟨w1, hw1⟩ : ∃ x, x = w.alloc (.cells out0.toArray 90) := ⟨_, rfl⟩
  have HC1 : Hid (CliAt w1 p r1 r2 N c) := Lib.hid (by rw [hw1]; exact HC.out.below (Below.new _ _))
  have HX : Hid (Blk w1 w.heap.size out0 90) := Lib.hid (by rw [hw1]; exact hX)
  have HO : Hid (Below w.heap.size w w1) := Lib.hid (by rw [hw1]; exact Below.new _ _)
  rw [← hw1]
  clear hX hw1
  have c4 := HC1.out.c4
  have e3 := HX.out.room (o := 0) (n := 75) (by rw [out0_len]; exact Nat.le_refl _)
  have e4 := (out0_v w1).agg
  obtain ⟨k1, k2, k3, k4⟩ := give_end HC1.out (out0_v w1) HX.out (Nat.le_refl _) (Only.of_below (R := [p]) HO.out)
  have R0 := Lib.hid (load_blk Try.underlying90 rfl z90 k3 out0_len)
  have HE : Hid (CliAt (w1.setCells w.heap.size 0 out0) p r1 r2 N c ∧ OutV (w1.setCells w.heap.size 0 out0) out0 Ou.zero ∧ Only [p] w (w1.setCells w.heap.size 0 out0)) := Lib.hid ⟨k1, k2, k4⟩
  clear k1 k2 k3 k4
  go_wp2_with fail
  refine Calls.mono (cnone_is p r1 w1 c4) ?_
  rintro e w2 ⟨rfl, rfl⟩
  have c3 := HC1.out.c3
  have c0 := HC1.out.c0
  have hca := HCA.out
  rcases hca with hca | ⟨hca, q1⟩ | ⟨hca, q0, q1⟩ | ⟨hca, q0, q1, q2⟩ | ⟨hca, q0, q1, q2, q3⟩ | ⟨hca, q0, q1, q2, q3, q4⟩
  · have hca : (c.name == 34) = false := by simpa using hca
    go_wp2_with fail
    have r0 := R0.out
    refine bodyPost_ret (v := .tuple #[.agg out0.toArray, .int .i64 2]) (by simp [results, Try.results59, asAddr, r0]) rfl ?_
    exact ⟨_, r2, rfl, .inl rfl, HE.out⟩
  · rw [hca] at c0
    go_wp2_with fail
    have r0 := R0.out
    refine bodyPost_ret (v := .tuple #[.agg out0.toArray, .int .i64 2]) (by simp [results, Try.results59, asAddr, r0]) rfl ?_
    exact ⟨_, r2, rfl, .inl rfl, HE.out⟩
  · rw [hca] at c0
    go_wp2_with fail
    have r0 := R0.out
    refine bodyPost_ret (v := .tuple #[.agg out0.toArray, .int .i64 2]) (by simp [results, Try.results59, asAddr, r0]) rfl ?_
    exact ⟨_, r2, rfl, .inl rfl, HE.out⟩
  · rw [hca] at c0
    go_wp2_with fail
    refine Calls.mono (node_is old w1) ?_
    rintro e w2 ⟨rfl, rfl⟩
    rw [q2]
    clear q2
    go_wp2_with fail
    have r0 := R0.out
    refine bodyPost_ret (v := .tuple #[.agg out0.toArray, .int .i64 2]) (by simp [results, Try.results59, asAddr, r0]) rfl ?_
    exact ⟨_, r2, rfl, .inl rfl, HE.out⟩
  · rw [hca] at c0
    go_wp2_with fail
    refine Calls.mono (node_is old w1) ?_
    rintro e w2 ⟨rfl, rfl⟩
    rw [q2]
    clear q2
    go_wp2_with fail
    refine Calls.mono (node_is new w1) ?_
    rintro e w2 ⟨rfl, rfl⟩
    rw [q3]
    clear q3
    go_wp2_with fail
    have r0 := R0.out
    refine bodyPost_ret (v := .tuple #[.agg out0.toArray, .int .i64 2]) (by simp [results, Try.results59, asAddr, r0]) rfl ?_
    exact ⟨_, r2, rfl, .inl rfl, HE.out⟩
  · rw [hca] at c0
    subst q4
    go_wp2_with fail
    refine Calls.mono (node_is old w1) ?_
    rintro e w2 ⟨rfl, rfl⟩
    rw [q2]
    clear q2
    go_wp2_with fail
    refine Calls.mono (node_is old w1) ?_
    rintro e w2 ⟨rfl, rfl⟩
    rw [q3]
    clear q3
    go_wp2_with fail
    have r0 := R0.out
    refine bodyPost_ret (v := .tuple #[.agg out0.toArray, .int .i64 2]) (by simp [results, Try.results59, asAddr, r0]) rfl ?_
    exact ⟨_, r2, rfl, .inl rfl, HE.out⟩
end Go.Proofs.Ytldcpnabgpjgiaa.Walks
namespace Go.Proofs.Ytldcpnabgpjgiaa.Walks
open Go.RowKit Plain
set_option linter.unusedVariables false
attribute [local go_sem] isPV_mk adV_mk cells_agg cells_agg' held_drew room_drew cellsAt_drew isA4_mk isSl_mk isI_mk intOf_mk
attribute [local go_sem ↓] exec_load88 exec_store88 exec_load81 exec_store81 exec_load90 exec_store90 Go.wp_at_zero Go.wp_at_succ exec_alloc81 exec_build81r exec_build81s exec_bs69 exec_alloc90 exec_build90n

def newC (name chunks : Int) : Cl := ⟨name, chunks, fun _ => none, 0, 0, 0, Wi.zero, 0, [], 0, Wi.zero, fun _ => none⟩
def newL (name : Int) (a : Option Addr) (n : Nat) (chunks : Int) (r1 : Nat) : List Value := cliL (newC name chunks) a n r1 none 0 (.int .i64 0) (.slice none 0 0) note0 (.map none)
theorem build113 (name : Int) (a : Option Addr) (n : Nat) (chunks : Int) (r1 : Nat) (w : World) :
    (Instr.build 113 #[(0, .int .i64 name), (1, .agg #[.int .i64 1, .slice a 4 n]), (2, .int .i64 chunks), (3, .map (some r1))]).run Try.prog w = .ok (.agg (newL name a n chunks r1).toArray) w := by kernel_rfl
def isDirV (v : Value) : Prop := ∃ a n, v = .agg #[.int .i64 1, .slice a 4 n]
def isMapV (v : Value) : Prop := ∃ r, v = .map (some r)
def dirA : Value → Option Addr
  | .agg cs => match (cs[1]? : Option Value) with
    | some (.slice a _ _) => a
    | _ => none
  | _ => none
def dirN : Value → Nat
  | .agg cs => match (cs[1]? : Option Value) with
    | some (.slice _ _ n) => n
    | _ => 0
  | _ => 0
def mapR : Value → Nat
  | .map (some r) => r
  | _ => 0
theorem isDirV_mk (a : Option Addr) (n : Nat) : isDirV (.agg #[.int .i64 1, .slice a 4 n]) := ⟨a, n, rfl⟩
theorem isMapV_mk (r : Nat) : isMapV (.map (some r)) := ⟨r, rfl⟩
theorem dirA_mk (a : Option Addr) (n : Nat) : dirA (.agg #[.int .i64 1, .slice a 4 n]) = a := rfl
theorem dirN_mk (a : Option Addr) (n : Nat) : dirN (.agg #[.int .i64 1, .slice a 4 n]) = n := rfl
theorem mapR_mk (r : Nat) : mapR (.map (some r)) = r := rfl
theorem exec_build113 {ρ : Operand → Value} {d : Option Tmp} {x y z u : Operand} {t : TypeId} {p : String} {af : Array Edge} {gd : Option (Nat × Bool)} {w : World} (h1 : isI (ρ x)) (h2 : isDirV (ρ y)) (h3 : isI (ρ z)) (h4 : isMapV (ρ u)) :
    (execOp ρ ⟨d, .build 113 #[(0, x), (1, y), (2, z), (3, u)], t, p, af, gd⟩).run Try.prog w = .ok (.value (.agg (newL (RowKit.intOf (ρ x)) (dirA (ρ y)) (dirN (ρ y)) (RowKit.intOf (ρ z)) (mapR (ρ u))).toArray)) w := by
  simp only [execOp]
  have e1 : ρ x = .int .i64 (RowKit.intOf (ρ x)) := h1
  have e3 : ρ z = .int .i64 (RowKit.intOf (ρ z)) := h3
  obtain ⟨a, n, e2⟩ := h2
  obtain ⟨r, e4⟩ := h4
  have : (Array.map (fun z : Nat × Operand => (z.1, ρ z.2)) #[(0, x), (1, y), (2, z), (3, u)]) = #[(0, ρ x), (1, ρ y), (2, ρ z), (3, ρ u)] := by simp
  simp only [this]
  rw [e1, e2, e3, e4]
  simp only [build113, Sem.run_bind, Result.andThen_ok, Sem.run_pure]
  rfl
attribute [local go_sem ↓] exec_build113
attribute [local go_sem] isDirV_mk isMapV_mk dirA_mk dirN_mk mapR_mk
theorem new_cli {w : World} {p r1 : Nat} {name chunks : Int} {a : Option Addr} {n : Nat} (r2 : Nat) (hb : Blk w p (newL name a n chunks r1) 113) (hI : IL w a dirL) (hn : a = none → n = 0) (hm : MapM w r1 0 (fun _ => none)) : CliAt w p r1 r2 0 (newC name chunks) :=
  ⟨a, n, none, 0, .int .i64 0, .slice none 0 0, note0, .map none, hb, rfl, ⟨hI, hn⟩, ⟨BL.nil w none, fun _ => rfl⟩, hm, fun h => absurd rfl h⟩
set_option maxRecDepth 100000 in
set_option maxHeartbeats 1000000 in
theorem new_is (name chunks : Int) (a : Option Addr) (n : Nat) (w : World) (hI : IL w a dirL) (hn : a = none → n = 0) (h1 : 31 ≤ name ∧ name ≤ 34) (h2 : 1 ≤ chunks ∧ chunks ≤ 2) :
    Calls Try.prog 57 #[.int .i64 name, .agg #[.int .i64 1, .slice a 4 n], .int .i64 chunks] w fun e w' => ∃ p r1, e = .returned (.tuple #[.pointer (some ⟨p, 0, none⟩), .int .i64 0]) ∧ w.heap.size ≤ p ∧ w.heap.size ≤ r1 ∧ (∀ r2, CliAt w' p r1 r2 0 (newC name chunks)) ∧ Below w.heap.size w w' := by
  have HI := Lib.hid hI
  have HN := Lib.hid hn
  obtain ⟨h1, h1'⟩ := h1
  obtain ⟨h2, h2'⟩ := h2
  have hmm := @run_makeMap Try.prog
  clear hI hn
  go_enter Try.func57, Try.ntmps57
  go_upto_region 1 with (fail)
  obtain ⟨w1, hw1⟩ : ∃ x, x = w.alloc (.cells #[.int .i64 1, .slice a 4 n] 24) := ⟨_, rfl⟩
  have hB1 : Blk w1 w.heap.size [.int .i64 1, .slice a 4 n] 24 := by rw [hw1]; exact Blk.new _ _ _
  have hb1 : Below w.heap.size w w1 := by rw [hw1]; exact Below.new _ _
  rw [← hw1]
  clear hw1
  have c0 := hB1.cell (i := 0) rfl
  have c1 := hB1.cell (i := 1) rfl
  have HB := Lib.hid hB1
  have HB1 := Lib.hid hb1
  clear hB1 hb1
  go_wp2_with fail
  have hI1 := HI.out.below HB1.out
  have hck := check_any 1 a n dirL w1 hI1.ints
  rw [show errC 1 dirL = 0 by decide] at hck
  refine Calls.mono hck ?_
  rintro e w2 ⟨rfl, hb2⟩
  have HB2 := Lib.hid (Below.step HB1.out hb2)
  have hB2 := HB.out.below hb2
  have c1 := hB2.cell (i := 1) rfl
  have f1 := hB2.free 1
  have HBB := Lib.hid hB2
  have hI2 := hI1.below hb2
  have HI2 := Lib.hid hI2
  clear hck hI1 hb2 hB2 hI2
  go_wp2_with fail
  have hcl := clone_any a n dirL w2 HI2.out.ints HN.out (by decide)
  refine Calls.mono hcl ?_
  rintro e w3 ⟨a', n', rfl, hOwn, hb3, _⟩
  rw [show dirL.length = 4 from rfl]
  have I3 := Lib.hid (Own.il hOwn HI2.out.1)
  have N3 := Lib.hid (Own.nocap hOwn)
  have hB3 := HBB.out.below hb3
  have c1 := hB3.cell (i := 1) rfl
  have f1 := hB3.free 1
  have c0 : (w3.setCell ⟨w.heap.size, 1, none⟩ (.slice a' 4 n')).cell? ⟨w.heap.size, 0, none⟩ = some (.int .i64 1) := (hB3.set 1 _).cell (i := 0) rfl
  have d1 : (w3.setCell ⟨w.heap.size, 1, none⟩ (.slice a' 4 n')).cell? ⟨w.heap.size, 1, none⟩ = some (.slice a' 4 n') := (hB3.set 1 _).cell (i := 1) rfl
  have HB3 := Lib.hid ((Below.step HB2.out hb3).setCell (p := ⟨w.heap.size, 1, none⟩) (Nat.le_refl _) (.slice a' 4 n'))
  have I4 := Lib.hid (TL.set I3.out hB3 (by decide) 1 (.slice a' 4 n'))
  clear hcl hb3 hB3 hOwn
  go_wp2_with fail
  refine bodyPost_ret (v := .tuple #[.pointer (some ⟨w3.heap.size + 1, 0, none⟩), .int .i64 0]) (by simp [results, Try.results57]) rfl ?_
  obtain ⟨w4, hw4⟩ : ∃ x, x = w3.setCell ⟨w.heap.size, 1, none⟩ (.slice a' 4 n') := ⟨_, rfl⟩
  have hz : w3.heap.size = w4.heap.size := by rw [hw4]; simp
  have hB4 := HB3.out
  have hI4 := I4.out
  rw [← hw4, hz]
  rw [← hw4] at hB4 hI4
  have hM : MapM (w4.alloc (.map #[] 0)) w4.heap.size 0 (fun _ => none) := ⟨fun _ => none, VM.new w4 3, fun k _ => rfl⟩
  have hb5 := Below.new (w4.alloc (.map #[] 0)) (.cells (newL name a' n' chunks w4.heap.size).toArray 113)
  have hP : Blk ((w4.alloc (.map #[] 0)).alloc (.cells (newL name a' n' chunks w4.heap.size).toArray 113)) (w4.heap.size + 1) (newL name a' n' chunks w4.heap.size) 113 := by
    have := Blk.new (w4.alloc (.map #[] 0)) (newL name a' n' chunks w4.heap.size) 113
    simpa using this
  have hM5 := hM.same (hb5.block _ hM.lt) (Keeps.of_below hb5)
  have hI5 := (TL.below hI4 (Below.new w4 (.map #[] 0))).below hb5
  have hzz := hB4.size
  exact ⟨w4.heap.size + 1, w4.heap.size, rfl, by omega, hzz, fun r2 => new_cli r2 hP hI5 N3.out hM5, Below.step (Below.step hB4 (Below.new _ _)) hb5⟩
end Go.Proofs.Ytldcpnabgpjgiaa.Walks
