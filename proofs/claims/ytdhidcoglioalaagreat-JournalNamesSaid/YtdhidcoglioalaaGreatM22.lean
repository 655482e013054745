/-
  Works are done; a block is read.
-/
import Derived.Test.YtdhidcoglioalaaGreatM21
namespace Go.Proofs.YtdhidcoglioalaaGreat.Walks
open Go.RowKit Plain
set_option linter.unusedVariables false
attribute [local go_sem ↓] exec_load116 exec_store116 exec_alloc116 exec_load112 exec_store112 exec_alloc112 exec_build3 exec_build4 Go.wp_at_zero Go.wp_at_succ exec_load112T exec_store116T exec_load116T
attribute [local go_sem] isPt_mk adOf_mk isI_mk iOf_mk cellsV_mk sctL_length blkL_length setCells_drew oneN_sct oneN_blk oneN_fields roomN_new isRow_new cellL_new alloc_setN roomN_past isRow_past cellL_past roomN_drew isRow_drew cellL_drew setCells_size setCells_past

section
variable {w w' : World} {j : JLoc} {q : PLoc} {J J' : Jn} {P P' : Pl}
theorem JP.brk (h : JP w j q J P) : JP (w.setCell ⟨j.p, 7, none⟩ (.bool true)) j q J.brk P :=
  h.setCell (i := 7) (J' := J.brk) ⟨h.ok.log2, h.ok.logn, h.ok.at_, h.ok.used, h.ok.turn, h.ok.head, h.ok.head0, h.ok.pend, h.ok.flat⟩ (by simp [Jn.brk]) (by simp [Jn.brk]) (by simp [Jn.brk]) (by simp [Jn.brk]) (by simp [Jn.brk]) (by simp [Jn.brk]) (by simp) (by simp) rfl
theorem JP.setSame (h : JP w j q J P) (hb : J.broken = false) : JP (w.setCell ⟨j.p, 7, none⟩ (.bool false)) j q J P :=
  h.setCell (i := 7) (J' := J) h.ok (by simp) (by simp) (by simp) (by simp) (by simp) (by simp [hb]) (by simp) (by simp) rfl
def worksJ (J : Jn) (ws : List Wk) (P : Pl) : Jn := if runE ws P ≠ 0 then J.brk else J
set_option maxRecDepth 10000 in
theorem works_any (h : JP w j q J P) (hbr : J.broken = false) (a : Option Addr) (ws : List Wk) (n cap : Nat) (hn : ws.length = n) (hw : WksAt w j q a ws) :
    Calls Tryz.prog 22 #[jv j, .slice a n cap] w fun e w' => e = .returned (.int .i64 (runE ws P)) ∧ JP w' j q (worksJ J ws P) (runP ws P) ∧ Only (j.R q) w w' := by
  have HD := Lib.hid (do_n h a ws n cap hn hw)
  have HB := Lib.hid hbr
  unfold worksJ
  clear h hn hw hbr
  by_cases he : runE ws P = 0
  · rw [if_neg (by simp [he])]
    rw [he] at HD ⊢
    clear he
    go_enter Tryz.func22, Tryz.ntmps22
    go_wp2_with fail
    refine Calls.mono HD.out ?_
    rintro e w1 ⟨rfl, hj, ho⟩
    have c7 := hj.jn.c7
    rw [HB.out] at c7
    have f7 := hj.jn.fz 7
    have HJ := Lib.hid hj
    have HO := Lib.hid ho
    clear hj ho
    go_wp2
    go_ret
    exact ⟨rfl, HJ.out.setSame HB.out, ((HO.out.mono fun r hr => JLoc.inQ hr).setCell JLoc.inP _)⟩
  · rw [if_pos he]
    obtain ⟨z, hz⟩ : ∃ z, z = runE ws P := ⟨_, rfl⟩
    have hzq : (z != 0) = true := ne_zero_bne (hz ▸ he)
    rw [← hz] at HD ⊢
    clear he hz
    go_enter Tryz.func22, Tryz.ntmps22
    go_wp2_with fail
    refine Calls.mono HD.out ?_
    rintro e w1 ⟨rfl, hj, ho⟩
    have c7 := hj.jn.c7
    rw [HB.out] at c7
    have f7 := hj.jn.fz 7
    have HJ := Lib.hid hj
    have HO := Lib.hid ho
    clear hj ho
    go_wp2
    go_ret
    exact ⟨rfl, HJ.out.brk, ((HO.out.mono fun r hr => JLoc.inQ hr).setCell JLoc.inP _)⟩
theorem write72 (h : JP w j q J P) (i : Nat) (s : Sct) (hs : Sct.Ints s) : Calls Tryz.prog 19 #[jv j, .int .i64 i, sctV s] w fun e w' => ∃ v, e = .returned v ∧ v.oneCell' = true ∧ WkV w' j q (.wr i (packS s)) v ∧ Below w.heap.size w w' := by
  have hmf : ∀ (fn : Fn) (first cap : Array Value) (w : World), (Instr.makeFunc fn first cap).run Tryz.prog w = .ok (.func fn first cap) w := fun _ _ _ _ => rfl
  have hlt := h.lt
  have H := Lib.hid h
  have HS := Lib.hid hs
  have HL := Lib.hid hlt
  clear h hs hlt
  go_enter Tryz.func19, Tryz.ntmps19
  go_wp2
  go_ret
  have hn : ∀ g, w.heap.size ≤ g → g ∉ q.R := fun g hg hm => Nat.not_lt_of_le hg (HL.out _ (JLoc.inQ hm))
  refine ⟨_, rfl, rfl, .wr HS.out ?_ ?_ ?_ (hn _ (by omega)) (hn _ (by omega)) (hn _ (by omega)), Below.step (Below.step (Below.new _ _) (Below.new _ _)) (Below.new _ _)⟩
  · exact (heap_alloc_lt (by simp; omega)).trans ((heap_alloc_lt (by simp)).trans (heap_alloc_new _ _))
  · refine (heap_alloc_lt (by simp)).trans ?_
    have := heap_alloc_new (w.alloc (.cells #[jv j] 22)) (.cells #[.int .i64 i] 3)
    rw [World.size_alloc] at this
    exact this
  · have := heap_alloc_new ((w.alloc (.cells #[jv j] 22)).alloc (.cells #[.int .i64 i] 3)) (.cells (sctL s).toArray 52)
    rw [World.size_alloc, World.size_alloc] at this
    exact this
theorem sctL_0 (t : Sct) (h : 0 < (sctL t).length) : (sctL t)[0] = .int .i64 t.kind := not_rfl rfl
theorem sctL_1 (t : Sct) (h : 1 < (sctL t).length) : (sctL t)[1] = .int .i64 t.turn := not_rfl rfl
theorem sctL_2 (t : Sct) (h : 2 < (sctL t).length) : (sctL t)[2] = .int .i64 t.number := not_rfl rfl
attribute [local go_sem] sctL_0 sctL_1 sctL_2
/-- What Read answers in memory. -/
def ReadV (w w' : World) (v : Value) (e : Int) (b : Blk) : Prop := if e = 0 then ∃ g o, v = .slice (some ⟨g, o, none⟩) 48 48 ∧ w.heap.size ≤ g ∧ RowAt w' ⟨g, o, none⟩ (blkL b) ∧ RoomN 48 w' ⟨g, o, none⟩ else v = .slice none 0 0
theorem blank_n (w : World) (a : Option Addr) (l : List Byte) (n cap : Nat) (hl : l.length = n) (hB : Bys w a l) : Calls Tryz.prog 16 #[.slice a n cap] w fun e w' => e = .returned (.bool (zeroL l)) ∧ w = w' := by
  subst hl
  exact blank_any w a l cap hB
theorem make48 (w : World) : (Instr.makeSlice 23 (.int .i64 48) (.int .i64 48)).run Tryz.prog w = .ok (.slice (some ⟨w.heap.size, 0, none⟩) 48 48) (w.alloc (.cells (blkL zeroB).toArray 5)) := by
  cases hi : Tryz.prog.info? 5 with
  | none => have := info5; rw [hi] at this; cases this
  | some i =>
    have := info5
    rw [hi] at this
    simp only [Option.map_some, Option.some.injEq, Prod.mk.injEq] at this
    obtain ⟨e1, e2⟩ := this
    have hz : i.zero = some (.int .u8 0) := by
      have hz := info5z
      rw [hi] at hz
      exact Option.some.inj hz
    have := run_makeSlice w 23 5 i (.int .u8 0) Tryz.underlying23 hi hz .i64 .i64 48 48 (by omega) (by omega) (by rw [e1]; simp) (by rw [e2]; omega) (by omega)
    rw [e1] at this
    have e : madeCells (Value.int IntKind.u8 0).cells (Int.toNat 48 * 1) = (blkL zeroB).toArray := by
      rw [blkL_zero]
      apply Array.ext'
      show (madeCells #[.int .u8 0] 48).toList = _
      rw [toList_madeCells_one]
      simp [byteV]
    rw [e] at this
    exact this
set_option maxRecDepth 10000 in
theorem read_broken (h : JP w j q J P) (i : Int) (hb : J.broken = true) : Calls Tryz.prog 4 #[jv j, .int .i64 i] w fun e w' => e = .returned (.tuple #[.slice none 0 0, .int .i64 50]) ∧ w = w' := by
  have hm := jmay_any h
  unfold jmay at hm
  rw [hb] at hm
  have HM := Lib.hid hm
  clear hm
  simp only [if_true] at HM
  clear h hb
  go_enter Tryz.func4, Tryz.ntmps4
  go_wp2_with fail
  refine Calls.mono HM.out ?_
  rintro e w' ⟨rfl, rfl⟩
  go_wp2
  refine bodyPost_ret (results_tmp2 rfl _ _ _) rfl ?_
  exact ⟨rfl, rfl⟩
set_option maxRecDepth 10000 in
theorem read_neg (h : JP w j q J P) (i : Int) (hb : J.broken = false) (hi : i < 0) : Calls Tryz.prog 4 #[jv j, .int .i64 i] w fun e w' => e = .returned (.tuple #[.slice none 0 0, .int .i64 9]) ∧ w = w' := by
  have hm := jmay_any h
  unfold jmay at hm
  rw [hb] at hm
  have HM := Lib.hid hm
  clear hm
  simp only [Bool.false_eq_true, if_false] at HM
  clear h hb
  go_enter Tryz.func4, Tryz.ntmps4
  go_wp2_with fail
  refine Calls.mono HM.out ?_
  rintro e w' ⟨rfl, rfl⟩
  go_wp2
  refine bodyPost_ret (results_tmp2 rfl _ _ _) rfl ?_
  exact ⟨rfl, rfl⟩
set_option maxRecDepth 10000 in
theorem read_high (h : JP w j q J P) (i : Int) (hb : J.broken = false) (hi : 0 ≤ i) (hi2 : (J.blocks P.n : Int) ≤ i) : Calls Tryz.prog 4 #[jv j, .int .i64 i] w fun e w' => e = .returned (.tuple #[.slice none 0 0, .int .i64 9]) ∧ ∃ n, w' = w.drewN n := by
  have hm := jmay_any h
  unfold jmay at hm
  rw [hb] at hm
  have HM := Lib.hid hm
  clear hm
  simp only [Bool.false_eq_true, if_false] at HM
  have HBl := Lib.hid (jblocks_any h)
  obtain ⟨B, hB⟩ : ∃ B, B = J.blocks P.n := ⟨_, rfl⟩
  rw [← hB] at hi2 HBl
  clear h hb hB
  go_enter Tryz.func4, Tryz.ntmps4
  go_wp2_with fail
  refine Calls.mono HM.out ?_
  rintro e w' ⟨rfl, rfl⟩
  go_wp2_with fail
  refine Calls.mono HBl.out ?_
  rintro e w1 ⟨rfl, nq, rfl⟩
  go_wp2
  refine bodyPost_ret (results_tmp2 rfl _ _ _) rfl ?_
  exact ⟨rfl, _, rfl⟩
set_option maxRecDepth 10000 in
theorem read_pend (h : JP w j q J P) (i : Nat) (hb : J.broken = false) (hi2 : i < J.blocks P.n) {b : Blk} (hp : J.pend i = some b) : Calls Tryz.prog 4 #[jv j, .int .i64 i] w fun e w' => (∃ g, e = .returned (.tuple #[.slice (some ⟨g, 0, none⟩) 48 48, .int .i64 0]) ∧ w.heap.size ≤ g ∧ RowAt w' ⟨g, 0, none⟩ (blkL b) ∧ RoomN 48 w' ⟨g, 0, none⟩) ∧ JP w' j q J P ∧ Below w.heap.size w w' := by
  have hm := jmay_any h
  unfold jmay at hm
  rw [hb] at hm
  have HM := Lib.hid hm
  clear hm
  simp only [Bool.false_eq_true, if_false] at HM
  have HBl := Lib.hid (jblocks_any h)
  obtain ⟨B, hB⟩ : ∃ B, B = J.blocks P.n := ⟨_, rfl⟩
  have hBe : B = P.n - 2 - J.log := by rw [hB]; unfold Jn.blocks; rw [hb]; simp
  rw [← hB] at hi2 HBl
  have HBe := Lib.hid hBe
  have HI2 := Lib.hid hi2
  have hi2' : (i : Int) < (B : Int) := by omega
  have hn4 := h.pl.ok.most
  have hln := h.ok.logn
  have hi4 : i < 4096 := by omega
  have H := Lib.hid h
  clear h hb hB hBe hi2 hln hn4
  have HP := Lib.hid hp
  clear hp
  go_enter Tryz.func4, Tryz.ntmps4
  go_wp2_with fail
  refine Calls.mono HM.out ?_
  rintro e w' ⟨rfl, rfl⟩
  go_wp2_with fail
  refine Calls.mono HBl.out ?_
  rintro e w1 ⟨rfl, nq, rfl⟩
  obtain ⟨w1, hw1⟩ : ∃ x, x = w.drewN nq := ⟨_, rfl⟩
  have h1 := H.out.drewN nq
  have hbe1 : Below w.heap.size w (w.drewN nq) := below_drewN (Below.refl _ _) nq
  rw [← hw1] at h1 hbe1 ⊢
  clear hw1
  have c6 := h1.jn.c6
  have hl := h1.jn.mp.look (t := 31) (e := 48) true Tryz.underlying31 (zero112 _) (x := (i : Int)) (Wf.of (by omega) (by omega))
  rw [pmap_nat, HP.out] at hl
  simp only [Option.map_some, lookRes, if_true] at hl
  have H1 := Lib.hid h1
  have HB1 := Lib.hid hbe1
  clear h1 hbe1
  go_wp2_with fail
  refine bodyPost_ret (results_tmp2 rfl _ _ _) rfl ?_
  exact ⟨⟨_, rfl, HB1.out.size, row_new _ _ _ rfl, roomN_new _ _ _ rfl (blkL_length _)⟩, H1.out.alloc _, Below.step HB1.out (Below.new _ _)⟩
set_option maxRecDepth 10000 in
theorem read_dead (h : JP w j q J P) (i : Nat) (hb : J.broken = false) (hi2 : i < J.blocks P.n) (hp : J.pend i = none) (hd : P.dead = true) : Calls Tryz.prog 4 #[jv j, .int .i64 i] w fun e w' => e = .returned (.tuple #[.slice none 0 0, .int .i64 50]) ∧ JP w' j q J.brk P ∧ Only (j.R q) w w' := by
  have hm := jmay_any h
  unfold jmay at hm
  rw [hb] at hm
  have HM := Lib.hid hm
  clear hm
  simp only [Bool.false_eq_true, if_false] at HM
  have HBl := Lib.hid (jblocks_any h)
  obtain ⟨B, hB⟩ : ∃ B, B = J.blocks P.n := ⟨_, rfl⟩
  have hBe : B = P.n - 2 - J.log := by rw [hB]; unfold Jn.blocks; rw [hb]; simp
  rw [← hB] at hi2 HBl
  have HBe := Lib.hid hBe
  have HI2 := Lib.hid hi2
  have hi2' : (i : Int) < (B : Int) := by omega
  have hn4 := h.pl.ok.most
  have hln := h.ok.logn
  have hi4 : i < 4096 := by omega
  have H := Lib.hid h
  clear h hb hB hBe hi2 hln hn4
  have HP := Lib.hid hp
  have HDd := Lib.hid hd
  clear hp hd
  go_enter Tryz.func4, Tryz.ntmps4
  go_wp2_with fail
  refine Calls.mono HM.out ?_
  rintro e w' ⟨rfl, rfl⟩
  go_wp2_with fail
  refine Calls.mono HBl.out ?_
  rintro e w1 ⟨rfl, nq, rfl⟩
  obtain ⟨w1, hw1⟩ : ∃ x, x = w.drewN nq := ⟨_, rfl⟩
  have h1 := H.out.drewN nq
  have hbe1 : Below w.heap.size w (w.drewN nq) := below_drewN (Below.refl _ _) nq
  rw [← hw1] at h1 hbe1 ⊢
  clear hw1
  have c6 := h1.jn.c6
  have hl := h1.jn.mp.look (t := 31) (e := 48) true Tryz.underlying31 (zero112 _) (x := (i : Int)) (Wf.of (by omega) (by omega))
  rw [pmap_nat, HP.out] at hl
  simp only [Option.map_none, lookRes, if_true] at hl
  have H1 := Lib.hid h1
  have HB1 := Lib.hid hbe1
  clear h1 hbe1
  go_wp2_with fail
  obtain ⟨w2, hw2⟩ : ∃ x, x = w1.alloc (.cells (blkL zeroB).toArray 48) := ⟨_, rfl⟩
  have h2 := H1.out.alloc (.cells (blkL zeroB).toArray 48)
  have hbe2 : Below w.heap.size w (w1.alloc (.cells (blkL zeroB).toArray 48)) := Below.step HB1.out (Below.new _ _)
  rw [← hw2] at h2 hbe2 ⊢
  clear hw2 hl c6
  have c0 := h2.jn.c0
  have c1 := h2.jn.c1
  obtain ⟨L, hL⟩ : ∃ L, L = J.log := ⟨_, rfl⟩
  have hL4 : L ≤ 4096 := by have h1 := h2.ok.logn; have h3 := h2.pl.ok.most; omega
  rw [← hL] at c1
  have HLe := Lib.hid hL
  have H2 := Lib.hid h2
  have HB2 := Lib.hid hbe2
  have s1 := IntWalk.i64_in (n := 2 + (L : Int)) (by omega)
  have s2 := IntWalk.i64_in (n := 2 + (L : Int) + (i : Int)) (by omega)
  have e3 : (2 : Int) + (L : Int) + (i : Int) = ((J.home i : Nat) : Int) := by unfold Jn.home; rw [HLe.out]; omega
  have HE3 := Lib.hid e3
  have MKR : Hid (∀ w', Below w2.heap.size w2 w' → w'.cell? ⟨j.p, 0, none⟩ = some (pv q) ∧ w'.cell? ⟨j.p, 1, none⟩ = some (.int .i64 L)) := Lib.hid fun w' hb => ⟨keepc hb c0, keepc hb c1⟩
  have hS : Below w2.heap.size w2 w2 := Below.refl _ _
  clear h2 hbe2 hL e3
  have hrd := read_no w2.drew q P H2.out.drew.pl (2 + (L : Int) + (i : Int)) (by unfold Pl.has; rw [HDd.out]; simp)
  have hh : P.has (2 + (L : Int) + (i : Int)) = 50 := by unfold Pl.has; rw [HDd.out]; simp
  rw [hh] at hrd
  have HRd := Lib.hid hrd
  clear hrd hh
  go_region_held3 (fun w' => w'.cell? ⟨j.p, 0, none⟩ = some (pv q) ∧ w'.cell? ⟨j.p, 1, none⟩ = some (.int .i64 L))
    (first | with_reducible exact MKR.out _ hS | with_reducible exact MKR.out _ hS.drew)
    ((first | (go_at_call 15; ((with_reducible refine Calls.mono HRd.out ?_); rintro e w' ⟨rfl, rfl⟩))))
  all_goals
    clear s1 s2
    have c7 := H2.out.drew.jn.c7
    have f7 := H2.out.drew.jn.fz 7
    go_wp2
    refine bodyPost_ret (results_tmp2 rfl _ _ _) rfl ?_
    exact ⟨rfl, H2.out.drew.brk, (Only.of_below HB2.out.drew).setCell JLoc.inP _⟩
set_option maxRecDepth 10000 in
theorem read_blank (h : JP w j q J P) (i : Nat) (hb : J.broken = false) (hi2 : i < J.blocks P.n) (hp : J.pend i = none) (hd : P.dead = false) (hk : isBlank (P.seen (J.home i)) = true) : Calls Tryz.prog 4 #[jv j, .int .i64 i] w fun e w' => (∃ g, e = .returned (.tuple #[.slice (some ⟨g, 0, none⟩) 48 48, .int .i64 0]) ∧ w.heap.size ≤ g ∧ RowAt w' ⟨g, 0, none⟩ (blkL zeroB) ∧ RoomN 48 w' ⟨g, 0, none⟩) ∧ JP w' j q J P ∧ Below w.heap.size w w' := by
  have hm := jmay_any h
  unfold jmay at hm
  rw [hb] at hm
  have HM := Lib.hid hm
  clear hm
  simp only [Bool.false_eq_true, if_false] at HM
  have HBl := Lib.hid (jblocks_any h)
  obtain ⟨B, hB⟩ : ∃ B, B = J.blocks P.n := ⟨_, rfl⟩
  have hBe : B = P.n - 2 - J.log := by rw [hB]; unfold Jn.blocks; rw [hb]; simp
  rw [← hB] at hi2 HBl
  have HBe := Lib.hid hBe
  have HI2 := Lib.hid hi2
  have hi2' : (i : Int) < (B : Int) := by omega
  have hn4 := h.pl.ok.most
  have hln := h.ok.logn
  have hi4 : i < 4096 := by omega
  have H := Lib.hid h
  clear h hb hB hBe hi2 hln hn4
  have HP := Lib.hid hp
  have HDd := Lib.hid hd
  have HK := Lib.hid hk
  clear hp hd hk
  obtain ⟨s, hs⟩ : ∃ s, s = P.seen (J.home i) := ⟨_, rfl⟩
  rw [← hs] at HK
  have HSeen := Lib.hid hs
  clear hs
  go_enter Tryz.func4, Tryz.ntmps4
  go_wp2_with fail
  refine Calls.mono HM.out ?_
  rintro e w' ⟨rfl, rfl⟩
  go_wp2_with fail
  refine Calls.mono HBl.out ?_
  rintro e w1 ⟨rfl, nq, rfl⟩
  obtain ⟨w1, hw1⟩ : ∃ x, x = w.drewN nq := ⟨_, rfl⟩
  have h1 := H.out.drewN nq
  have hbe1 : Below w.heap.size w (w.drewN nq) := below_drewN (Below.refl _ _) nq
  rw [← hw1] at h1 hbe1 ⊢
  clear hw1
  have c6 := h1.jn.c6
  have hl := h1.jn.mp.look (t := 31) (e := 48) true Tryz.underlying31 (zero112 _) (x := (i : Int)) (Wf.of (by omega) (by omega))
  rw [pmap_nat, HP.out] at hl
  simp only [Option.map_none, lookRes, if_true] at hl
  have H1 := Lib.hid h1
  have HB1 := Lib.hid hbe1
  clear h1 hbe1
  go_wp2_with fail
  obtain ⟨w2, hw2⟩ : ∃ x, x = w1.alloc (.cells (blkL zeroB).toArray 48) := ⟨_, rfl⟩
  have h2 := H1.out.alloc (.cells (blkL zeroB).toArray 48)
  have hbe2 : Below w.heap.size w (w1.alloc (.cells (blkL zeroB).toArray 48)) := Below.step HB1.out (Below.new _ _)
  rw [← hw2] at h2 hbe2 ⊢
  clear hw2 hl c6
  have c0 := h2.jn.c0
  have c1 := h2.jn.c1
  obtain ⟨L, hL⟩ : ∃ L, L = J.log := ⟨_, rfl⟩
  have hL4 : L ≤ 4096 := by have h1 := h2.ok.logn; have h3 := h2.pl.ok.most; omega
  rw [← hL] at c1
  have HLe := Lib.hid hL
  have H2 := Lib.hid h2
  have HB2 := Lib.hid hbe2
  have s1 := IntWalk.i64_in (n := 2 + (L : Int)) (by omega)
  have s2 := IntWalk.i64_in (n := 2 + (L : Int) + (i : Int)) (by omega)
  have e3 : (2 : Int) + (L : Int) + (i : Int) = ((J.home i : Nat) : Int) := by unfold Jn.home; rw [HLe.out]; omega
  have HE3 := Lib.hid e3
  have MKR : Hid (∀ w', Below w2.heap.size w2 w' → w'.cell? ⟨j.p, 0, none⟩ = some (pv q) ∧ w'.cell? ⟨j.p, 1, none⟩ = some (.int .i64 L)) := Lib.hid fun w' hb => ⟨keepc hb c0, keepc hb c1⟩
  have hS : Below w2.heap.size w2 w2 := Below.refl _ _
  clear h2 hbe2 hL e3
  have hhm : J.home i < P.n := by unfold Jn.home; have h1 := HBe.out; have h2 := HI2.out; have h3 := H2.out.ok.logn; omega
  have hrd := read_ok w2.drew q P H2.out.drew.pl (J.home i) hhm HDd.out
  rw [← HE3.out, ← HSeen.out] at hrd
  have HRd := Lib.hid hrd
  clear hrd hhm
  go_region_held3 (fun w' => w'.cell? ⟨j.p, 0, none⟩ = some (pv q) ∧ w'.cell? ⟨j.p, 1, none⟩ = some (.int .i64 L))
    (first | with_reducible exact MKR.out _ hS | with_reducible exact MKR.out _ hS.drew)
    ((first | (go_at_call 15; ((with_reducible refine Calls.mono HRd.out ?_); rintro e w3 ⟨hbe3, g, rfl, hg, hc⟩; have HB3 := Lib.hid (show Below w2.heap.size w2 w3 from Below.step (Below.refl _ _).drew hbe3); have HG := Lib.hid (bys_sec hc); have HGe := Lib.hid hg; have hS : Below w2.heap.size w2 w3 := HB3.out; clear hbe3 hg hc))))
  clear s1 s2 c0 c1 hS
  have hz := blank_n w3 (some ⟨g, 0, none⟩) (bytesOf s) 64 64 (bytesOf_length _) HG.out
  rw [show zeroL (bytesOf s) = true from HK.out] at hz
  have HZ := Lib.hid hz
  clear hz
  go_wp2_with fail
  refine Calls.mono HZ.out ?_
  rintro e w4 ⟨rfl, rfl⟩
  have hmk := make48 w3
  go_wp2_with fail
  refine bodyPost_ret (results_tmp2 rfl _ _ _) rfl ?_
  exact ⟨⟨_, rfl, Nat.le_trans HB2.out.size HB3.out.size, row_new _ _ _ rfl, roomN_new _ _ _ rfl (blkL_length _)⟩, (H2.out.below HB3.out).alloc _, Below.step (Below.step HB2.out HB3.out) (Below.new _ _)⟩
set_option maxRecDepth 10000 in
theorem read_bad1 (h : JP w j q J P) (i : Nat) (hb : J.broken = false) (hi2 : i < J.blocks P.n) (hp : J.pend i = none) (hd : P.dead = false) (hk : isBlank (P.seen (J.home i)) = false) (hok : parseOk (P.seen (J.home i)) = false) : Calls Tryz.prog 4 #[jv j, .int .i64 i] w fun e w' => e = .returned (.tuple #[.slice none 0 0, .int .i64 70]) ∧ JP w' j q J P ∧ Below w.heap.size w w' := by
  have hm := jmay_any h
  unfold jmay at hm
  rw [hb] at hm
  have HM := Lib.hid hm
  clear hm
  simp only [Bool.false_eq_true, if_false] at HM
  have HBl := Lib.hid (jblocks_any h)
  obtain ⟨B, hB⟩ : ∃ B, B = J.blocks P.n := ⟨_, rfl⟩
  have hBe : B = P.n - 2 - J.log := by rw [hB]; unfold Jn.blocks; rw [hb]; simp
  rw [← hB] at hi2 HBl
  have HBe := Lib.hid hBe
  have HI2 := Lib.hid hi2
  have hi2' : (i : Int) < (B : Int) := by omega
  have hn4 := h.pl.ok.most
  have hln := h.ok.logn
  have hi4 : i < 4096 := by omega
  have H := Lib.hid h
  clear h hb hB hBe hi2 hln hn4
  have HP := Lib.hid hp
  have HDd := Lib.hid hd
  have HK := Lib.hid hk
  have HOk := Lib.hid hok
  clear hp hd hk hok 
  obtain ⟨s, hs⟩ : ∃ s, s = P.seen (J.home i) := ⟨_, rfl⟩
  rw [← hs] at HK HOk 
  have HSeen := Lib.hid hs
  clear hs
  go_enter Tryz.func4, Tryz.ntmps4
  go_wp2_with fail
  refine Calls.mono HM.out ?_
  rintro e w' ⟨rfl, rfl⟩
  go_wp2_with fail
  refine Calls.mono HBl.out ?_
  rintro e w1 ⟨rfl, nq, rfl⟩
  obtain ⟨w1, hw1⟩ : ∃ x, x = w.drewN nq := ⟨_, rfl⟩
  have h1 := H.out.drewN nq
  have hbe1 : Below w.heap.size w (w.drewN nq) := below_drewN (Below.refl _ _) nq
  rw [← hw1] at h1 hbe1 ⊢
  clear hw1
  have c6 := h1.jn.c6
  have hl := h1.jn.mp.look (t := 31) (e := 48) true Tryz.underlying31 (zero112 _) (x := (i : Int)) (Wf.of (by omega) (by omega))
  rw [pmap_nat, HP.out] at hl
  simp only [Option.map_none, lookRes, if_true] at hl
  have H1 := Lib.hid h1
  have HB1 := Lib.hid hbe1
  clear h1 hbe1
  go_wp2_with fail
  obtain ⟨w2, hw2⟩ : ∃ x, x = w1.alloc (.cells (blkL zeroB).toArray 48) := ⟨_, rfl⟩
  have h2 := H1.out.alloc (.cells (blkL zeroB).toArray 48)
  have hbe2 : Below w.heap.size w (w1.alloc (.cells (blkL zeroB).toArray 48)) := Below.step HB1.out (Below.new _ _)
  rw [← hw2] at h2 hbe2 ⊢
  clear hw2 hl c6
  have c0 := h2.jn.c0
  have c1 := h2.jn.c1
  obtain ⟨L, hL⟩ : ∃ L, L = J.log := ⟨_, rfl⟩
  have hL4 : L ≤ 4096 := by have h1 := h2.ok.logn; have h3 := h2.pl.ok.most; omega
  rw [← hL] at c1
  have HLe := Lib.hid hL
  have H2 := Lib.hid h2
  have HB2 := Lib.hid hbe2
  have s1 := IntWalk.i64_in (n := 2 + (L : Int)) (by omega)
  have s2 := IntWalk.i64_in (n := 2 + (L : Int) + (i : Int)) (by omega)
  have e3 : (2 : Int) + (L : Int) + (i : Int) = ((J.home i : Nat) : Int) := by unfold Jn.home; rw [HLe.out]; omega
  have HE3 := Lib.hid e3
  have MKR : Hid (∀ w', Below w2.heap.size w2 w' → w'.cell? ⟨j.p, 0, none⟩ = some (pv q) ∧ w'.cell? ⟨j.p, 1, none⟩ = some (.int .i64 L)) := Lib.hid fun w' hb => ⟨keepc hb c0, keepc hb c1⟩
  have hS : Below w2.heap.size w2 w2 := Below.refl _ _
  clear h2 hbe2 hL e3
  have hhm : J.home i < P.n := by unfold Jn.home; have h1 := HBe.out; have h2 := HI2.out; have h3 := H2.out.ok.logn; omega
  have hrd := read_ok w2.drew q P H2.out.drew.pl (J.home i) hhm HDd.out
  rw [← HE3.out, ← HSeen.out] at hrd
  have HRd := Lib.hid hrd
  clear hrd hhm
  go_region_held3 (fun w' => w'.cell? ⟨j.p, 0, none⟩ = some (pv q) ∧ w'.cell? ⟨j.p, 1, none⟩ = some (.int .i64 L))
    (first | with_reducible exact MKR.out _ hS | with_reducible exact MKR.out _ hS.drew)
    ((first | (go_at_call 15; ((with_reducible refine Calls.mono HRd.out ?_); rintro e w3 ⟨hbe3, g, rfl, hg, hc⟩; have HB3 := Lib.hid (show Below w2.heap.size w2 w3 from Below.step (Below.refl _ _).drew hbe3); have HG := Lib.hid (bys_sec hc); have HGe := Lib.hid hg; have hS : Below w2.heap.size w2 w3 := HB3.out; clear hbe3 hg hc))))
  clear s1 s2 c0 c1 hS
  have hz := blank_n w3 (some ⟨g, 0, none⟩) (bytesOf s) 64 64 (bytesOf_length _) HG.out
  rw [show zeroL (bytesOf s) = false from HK.out] at hz
  have HZ := Lib.hid hz
  clear hz
  go_wp2_with fail
  refine Calls.mono HZ.out ?_
  rintro e w4 ⟨rfl, rfl⟩
  have HPa := Lib.hid (parse_any w3 g 0 s HG.out)
  go_wp2_with fail
  refine Calls.mono HPa.out ?_
  rintro e w4 ⟨rfl, hbe4⟩
  rw [HOk.out]
  have HB4 := Lib.hid hbe4
  clear hbe4
  obtain ⟨t, ht⟩ : ∃ t, t = parseS s := ⟨_, rfl⟩
  rw [← ht]
  obtain ⟨w5, hw5⟩ : ∃ x, x = w4.alloc (.cells (sctL t).toArray 52) := ⟨_, rfl⟩
  have hrw : RowAt w5 ⟨w4.heap.size, 0, none⟩ (sctL t) := by rw [hw5]; exact row_new w4 52 _ rfl
  have hbe5 : Below w4.heap.size w4 w5 := by rw [hw5]; exact Below.new _ _
  have HRw := Lib.hid hrw
  have HB5 := Lib.hid hbe5
  have HBA := Lib.hid (Below.step (Below.step (Below.step HB2.out HB3.out) HB4.out) hbe5)
  have HJ5 := Lib.hid (((H2.out.below HB3.out).below HB4.out).below hbe5)
  clear hrw hbe5
  clear ht
  go_wp2_with fail
  rw [← hw5]
  refine bodyPost_ret (results_tmp2 rfl _ _ _) rfl ?_
  exact ⟨rfl, HJ5.out, HBA.out⟩
set_option maxRecDepth 10000 in
theorem read_bad2 (h : JP w j q J P) (i : Nat) (hb : J.broken = false) (hi2 : i < J.blocks P.n) (hp : J.pend i = none) (hd : P.dead = false) (hk : isBlank (P.seen (J.home i)) = false) (hok : parseOk (P.seen (J.home i)) = true) (hkind : ((parseS (P.seen (J.home i))).kind != 4) = true) : Calls Tryz.prog 4 #[jv j, .int .i64 i] w fun e w' => e = .returned (.tuple #[.slice none 0 0, .int .i64 70]) ∧ JP w' j q J P ∧ Below w.heap.size w w' := by
  have hm := jmay_any h
  unfold jmay at hm
  rw [hb] at hm
  have HM := Lib.hid hm
  clear hm
  simp only [Bool.false_eq_true, if_false] at HM
  have HBl := Lib.hid (jblocks_any h)
  obtain ⟨B, hB⟩ : ∃ B, B = J.blocks P.n := ⟨_, rfl⟩
  have hBe : B = P.n - 2 - J.log := by rw [hB]; unfold Jn.blocks; rw [hb]; simp
  rw [← hB] at hi2 HBl
  have HBe := Lib.hid hBe
  have HI2 := Lib.hid hi2
  have hi2' : (i : Int) < (B : Int) := by omega
  have hn4 := h.pl.ok.most
  have hln := h.ok.logn
  have hi4 : i < 4096 := by omega
  have H := Lib.hid h
  clear h hb hB hBe hi2 hln hn4
  have HP := Lib.hid hp
  have HDd := Lib.hid hd
  have HK := Lib.hid hk
  have HOk := Lib.hid hok
  have Hhkind := Lib.hid hkind
  clear hp hd hk hok hkind
  obtain ⟨s, hs⟩ : ∃ s, s = P.seen (J.home i) := ⟨_, rfl⟩
  rw [← hs] at HK HOk Hhkind
  have HSeen := Lib.hid hs
  clear hs
  go_enter Tryz.func4, Tryz.ntmps4
  go_wp2_with fail
  refine Calls.mono HM.out ?_
  rintro e w' ⟨rfl, rfl⟩
  go_wp2_with fail
  refine Calls.mono HBl.out ?_
  rintro e w1 ⟨rfl, nq, rfl⟩
  obtain ⟨w1, hw1⟩ : ∃ x, x = w.drewN nq := ⟨_, rfl⟩
  have h1 := H.out.drewN nq
  have hbe1 : Below w.heap.size w (w.drewN nq) := below_drewN (Below.refl _ _) nq
  rw [← hw1] at h1 hbe1 ⊢
  clear hw1
  have c6 := h1.jn.c6
  have hl := h1.jn.mp.look (t := 31) (e := 48) true Tryz.underlying31 (zero112 _) (x := (i : Int)) (Wf.of (by omega) (by omega))
  rw [pmap_nat, HP.out] at hl
  simp only [Option.map_none, lookRes, if_true] at hl
  have H1 := Lib.hid h1
  have HB1 := Lib.hid hbe1
  clear h1 hbe1
  go_wp2_with fail
  obtain ⟨w2, hw2⟩ : ∃ x, x = w1.alloc (.cells (blkL zeroB).toArray 48) := ⟨_, rfl⟩
  have h2 := H1.out.alloc (.cells (blkL zeroB).toArray 48)
  have hbe2 : Below w.heap.size w (w1.alloc (.cells (blkL zeroB).toArray 48)) := Below.step HB1.out (Below.new _ _)
  rw [← hw2] at h2 hbe2 ⊢
  clear hw2 hl c6
  have c0 := h2.jn.c0
  have c1 := h2.jn.c1
  obtain ⟨L, hL⟩ : ∃ L, L = J.log := ⟨_, rfl⟩
  have hL4 : L ≤ 4096 := by have h1 := h2.ok.logn; have h3 := h2.pl.ok.most; omega
  rw [← hL] at c1
  have HLe := Lib.hid hL
  have H2 := Lib.hid h2
  have HB2 := Lib.hid hbe2
  have s1 := IntWalk.i64_in (n := 2 + (L : Int)) (by omega)
  have s2 := IntWalk.i64_in (n := 2 + (L : Int) + (i : Int)) (by omega)
  have e3 : (2 : Int) + (L : Int) + (i : Int) = ((J.home i : Nat) : Int) := by unfold Jn.home; rw [HLe.out]; omega
  have HE3 := Lib.hid e3
  have MKR : Hid (∀ w', Below w2.heap.size w2 w' → w'.cell? ⟨j.p, 0, none⟩ = some (pv q) ∧ w'.cell? ⟨j.p, 1, none⟩ = some (.int .i64 L)) := Lib.hid fun w' hb => ⟨keepc hb c0, keepc hb c1⟩
  have hS : Below w2.heap.size w2 w2 := Below.refl _ _
  clear h2 hbe2 hL e3
  have hhm : J.home i < P.n := by unfold Jn.home; have h1 := HBe.out; have h2 := HI2.out; have h3 := H2.out.ok.logn; omega
  have hrd := read_ok w2.drew q P H2.out.drew.pl (J.home i) hhm HDd.out
  rw [← HE3.out, ← HSeen.out] at hrd
  have HRd := Lib.hid hrd
  clear hrd hhm
  go_region_held3 (fun w' => w'.cell? ⟨j.p, 0, none⟩ = some (pv q) ∧ w'.cell? ⟨j.p, 1, none⟩ = some (.int .i64 L))
    (first | with_reducible exact MKR.out _ hS | with_reducible exact MKR.out _ hS.drew)
    ((first | (go_at_call 15; ((with_reducible refine Calls.mono HRd.out ?_); rintro e w3 ⟨hbe3, g, rfl, hg, hc⟩; have HB3 := Lib.hid (show Below w2.heap.size w2 w3 from Below.step (Below.refl _ _).drew hbe3); have HG := Lib.hid (bys_sec hc); have HGe := Lib.hid hg; have hS : Below w2.heap.size w2 w3 := HB3.out; clear hbe3 hg hc))))
  clear s1 s2 c0 c1 hS
  have hz := blank_n w3 (some ⟨g, 0, none⟩) (bytesOf s) 64 64 (bytesOf_length _) HG.out
  rw [show zeroL (bytesOf s) = false from HK.out] at hz
  have HZ := Lib.hid hz
  clear hz
  go_wp2_with fail
  refine Calls.mono HZ.out ?_
  rintro e w4 ⟨rfl, rfl⟩
  have HPa := Lib.hid (parse_any w3 g 0 s HG.out)
  go_wp2_with fail
  refine Calls.mono HPa.out ?_
  rintro e w4 ⟨rfl, hbe4⟩
  rw [HOk.out]
  have HB4 := Lib.hid hbe4
  clear hbe4
  obtain ⟨t, ht⟩ : ∃ t, t = parseS s := ⟨_, rfl⟩
  rw [← ht] at Hhkind ⊢
  obtain ⟨w5, hw5⟩ : ∃ x, x = w4.alloc (.cells (sctL t).toArray 52) := ⟨_, rfl⟩
  have hrw : RowAt w5 ⟨w4.heap.size, 0, none⟩ (sctL t) := by rw [hw5]; exact row_new w4 52 _ rfl
  have hbe5 : Below w4.heap.size w4 w5 := by rw [hw5]; exact Below.new _ _
  have HRw := Lib.hid hrw
  have HB5 := Lib.hid hbe5
  have HBA := Lib.hid (Below.step (Below.step (Below.step HB2.out HB3.out) HB4.out) hbe5)
  have HJ5 := Lib.hid (((H2.out.below HB3.out).below HB4.out).below hbe5)
  clear hrw hbe5
  have hkind := Hhkind.out
  clear ht
  go_wp2_with fail
  rw [← hw5]
  refine bodyPost_ret (results_tmp2 rfl _ _ _) rfl ?_
  exact ⟨rfl, HJ5.out, HBA.out⟩
set_option maxRecDepth 10000 in
theorem read_bad3 (h : JP w j q J P) (i : Nat) (hb : J.broken = false) (hi2 : i < J.blocks P.n) (hp : J.pend i = none) (hd : P.dead = false) (hk : isBlank (P.seen (J.home i)) = false) (hok : parseOk (P.seen (J.home i)) = true) (hkind : ((parseS (P.seen (J.home i))).kind != 4) = false) (hturn : ((parseS (P.seen (J.home i))).turn != 0) = true) : Calls Tryz.prog 4 #[jv j, .int .i64 i] w fun e w' => e = .returned (.tuple #[.slice none 0 0, .int .i64 70]) ∧ JP w' j q J P ∧ Below w.heap.size w w' := by
  have hm := jmay_any h
  unfold jmay at hm
  rw [hb] at hm
  have HM := Lib.hid hm
  clear hm
  simp only [Bool.false_eq_true, if_false] at HM
  have HBl := Lib.hid (jblocks_any h)
  obtain ⟨B, hB⟩ : ∃ B, B = J.blocks P.n := ⟨_, rfl⟩
  have hBe : B = P.n - 2 - J.log := by rw [hB]; unfold Jn.blocks; rw [hb]; simp
  rw [← hB] at hi2 HBl
  have HBe := Lib.hid hBe
  have HI2 := Lib.hid hi2
  have hi2' : (i : Int) < (B : Int) := by omega
  have hn4 := h.pl.ok.most
  have hln := h.ok.logn
  have hi4 : i < 4096 := by omega
  have H := Lib.hid h
  clear h hb hB hBe hi2 hln hn4
  have HP := Lib.hid hp
  have HDd := Lib.hid hd
  have HK := Lib.hid hk
  have HOk := Lib.hid hok
  have Hhkind := Lib.hid hkind
  have Hhturn := Lib.hid hturn
  clear hp hd hk hok hkind hturn
  obtain ⟨s, hs⟩ : ∃ s, s = P.seen (J.home i) := ⟨_, rfl⟩
  rw [← hs] at HK HOk Hhkind Hhturn
  have HSeen := Lib.hid hs
  clear hs
  go_enter Tryz.func4, Tryz.ntmps4
  go_wp2_with fail
  refine Calls.mono HM.out ?_
  rintro e w' ⟨rfl, rfl⟩
  go_wp2_with fail
  refine Calls.mono HBl.out ?_
  rintro e w1 ⟨rfl, nq, rfl⟩
  obtain ⟨w1, hw1⟩ : ∃ x, x = w.drewN nq := ⟨_, rfl⟩
  have h1 := H.out.drewN nq
  have hbe1 : Below w.heap.size w (w.drewN nq) := below_drewN (Below.refl _ _) nq
  rw [← hw1] at h1 hbe1 ⊢
  clear hw1
  have c6 := h1.jn.c6
  have hl := h1.jn.mp.look (t := 31) (e := 48) true Tryz.underlying31 (zero112 _) (x := (i : Int)) (Wf.of (by omega) (by omega))
  rw [pmap_nat, HP.out] at hl
  simp only [Option.map_none, lookRes, if_true] at hl
  have H1 := Lib.hid h1
  have HB1 := Lib.hid hbe1
  clear h1 hbe1
  go_wp2_with fail
  obtain ⟨w2, hw2⟩ : ∃ x, x = w1.alloc (.cells (blkL zeroB).toArray 48) := ⟨_, rfl⟩
  have h2 := H1.out.alloc (.cells (blkL zeroB).toArray 48)
  have hbe2 : Below w.heap.size w (w1.alloc (.cells (blkL zeroB).toArray 48)) := Below.step HB1.out (Below.new _ _)
  rw [← hw2] at h2 hbe2 ⊢
  clear hw2 hl c6
  have c0 := h2.jn.c0
  have c1 := h2.jn.c1
  obtain ⟨L, hL⟩ : ∃ L, L = J.log := ⟨_, rfl⟩
  have hL4 : L ≤ 4096 := by have h1 := h2.ok.logn; have h3 := h2.pl.ok.most; omega
  rw [← hL] at c1
  have HLe := Lib.hid hL
  have H2 := Lib.hid h2
  have HB2 := Lib.hid hbe2
  have s1 := IntWalk.i64_in (n := 2 + (L : Int)) (by omega)
  have s2 := IntWalk.i64_in (n := 2 + (L : Int) + (i : Int)) (by omega)
  have e3 : (2 : Int) + (L : Int) + (i : Int) = ((J.home i : Nat) : Int) := by unfold Jn.home; rw [HLe.out]; omega
  have HE3 := Lib.hid e3
  have MKR : Hid (∀ w', Below w2.heap.size w2 w' → w'.cell? ⟨j.p, 0, none⟩ = some (pv q) ∧ w'.cell? ⟨j.p, 1, none⟩ = some (.int .i64 L)) := Lib.hid fun w' hb => ⟨keepc hb c0, keepc hb c1⟩
  have hS : Below w2.heap.size w2 w2 := Below.refl _ _
  clear h2 hbe2 hL e3
  have hhm : J.home i < P.n := by unfold Jn.home; have h1 := HBe.out; have h2 := HI2.out; have h3 := H2.out.ok.logn; omega
  have hrd := read_ok w2.drew q P H2.out.drew.pl (J.home i) hhm HDd.out
  rw [← HE3.out, ← HSeen.out] at hrd
  have HRd := Lib.hid hrd
  clear hrd hhm
  go_region_held3 (fun w' => w'.cell? ⟨j.p, 0, none⟩ = some (pv q) ∧ w'.cell? ⟨j.p, 1, none⟩ = some (.int .i64 L))
    (first | with_reducible exact MKR.out _ hS | with_reducible exact MKR.out _ hS.drew)
    ((first | (go_at_call 15; ((with_reducible refine Calls.mono HRd.out ?_); rintro e w3 ⟨hbe3, g, rfl, hg, hc⟩; have HB3 := Lib.hid (show Below w2.heap.size w2 w3 from Below.step (Below.refl _ _).drew hbe3); have HG := Lib.hid (bys_sec hc); have HGe := Lib.hid hg; have hS : Below w2.heap.size w2 w3 := HB3.out; clear hbe3 hg hc))))
  clear s1 s2 c0 c1 hS
  have hz := blank_n w3 (some ⟨g, 0, none⟩) (bytesOf s) 64 64 (bytesOf_length _) HG.out
  rw [show zeroL (bytesOf s) = false from HK.out] at hz
  have HZ := Lib.hid hz
  clear hz
  go_wp2_with fail
  refine Calls.mono HZ.out ?_
  rintro e w4 ⟨rfl, rfl⟩
  have HPa := Lib.hid (parse_any w3 g 0 s HG.out)
  go_wp2_with fail
  refine Calls.mono HPa.out ?_
  rintro e w4 ⟨rfl, hbe4⟩
  rw [HOk.out]
  have HB4 := Lib.hid hbe4
  clear hbe4
  obtain ⟨t, ht⟩ : ∃ t, t = parseS s := ⟨_, rfl⟩
  rw [← ht] at Hhkind Hhturn ⊢
  obtain ⟨w5, hw5⟩ : ∃ x, x = w4.alloc (.cells (sctL t).toArray 52) := ⟨_, rfl⟩
  have hrw : RowAt w5 ⟨w4.heap.size, 0, none⟩ (sctL t) := by rw [hw5]; exact row_new w4 52 _ rfl
  have hbe5 : Below w4.heap.size w4 w5 := by rw [hw5]; exact Below.new _ _
  have HRw := Lib.hid hrw
  have HB5 := Lib.hid hbe5
  have HBA := Lib.hid (Below.step (Below.step (Below.step HB2.out HB3.out) HB4.out) hbe5)
  have HJ5 := Lib.hid (((H2.out.below HB3.out).below HB4.out).below hbe5)
  clear hrw hbe5
  have hkind := Hhkind.out
  have hturn := Hhturn.out
  clear ht
  go_wp2_with fail
  rw [← hw5]
  refine bodyPost_ret (results_tmp2 rfl _ _ _) rfl ?_
  exact ⟨rfl, HJ5.out, HBA.out⟩
set_option maxRecDepth 10000 in
theorem read_bad4 (h : JP w j q J P) (i : Nat) (hb : J.broken = false) (hi2 : i < J.blocks P.n) (hp : J.pend i = none) (hd : P.dead = false) (hk : isBlank (P.seen (J.home i)) = false) (hok : parseOk (P.seen (J.home i)) = true) (hkind : ((parseS (P.seen (J.home i))).kind != 4) = false) (hturn : ((parseS (P.seen (J.home i))).turn != 0) = false) (hnum : ((parseS (P.seen (J.home i))).number != (i : Int)) = true) : Calls Tryz.prog 4 #[jv j, .int .i64 i] w fun e w' => e = .returned (.tuple #[.slice none 0 0, .int .i64 70]) ∧ JP w' j q J P ∧ Below w.heap.size w w' := by
  have hm := jmay_any h
  unfold jmay at hm
  rw [hb] at hm
  have HM := Lib.hid hm
  clear hm
  simp only [Bool.false_eq_true, if_false] at HM
  have HBl := Lib.hid (jblocks_any h)
  obtain ⟨B, hB⟩ : ∃ B, B = J.blocks P.n := ⟨_, rfl⟩
  have hBe : B = P.n - 2 - J.log := by rw [hB]; unfold Jn.blocks; rw [hb]; simp
  rw [← hB] at hi2 HBl
  have HBe := Lib.hid hBe
  have HI2 := Lib.hid hi2
  have hi2' : (i : Int) < (B : Int) := by omega
  have hn4 := h.pl.ok.most
  have hln := h.ok.logn
  have hi4 : i < 4096 := by omega
  have H := Lib.hid h
  clear h hb hB hBe hi2 hln hn4
  have HP := Lib.hid hp
  have HDd := Lib.hid hd
  have HK := Lib.hid hk
  have HOk := Lib.hid hok
  have Hhkind := Lib.hid hkind
  have Hhturn := Lib.hid hturn
  have Hhnum := Lib.hid hnum
  clear hp hd hk hok hkind hturn hnum
  obtain ⟨s, hs⟩ : ∃ s, s = P.seen (J.home i) := ⟨_, rfl⟩
  rw [← hs] at HK HOk Hhkind Hhturn Hhnum
  have HSeen := Lib.hid hs
  clear hs
  go_enter Tryz.func4, Tryz.ntmps4
  go_wp2_with fail
  refine Calls.mono HM.out ?_
  rintro e w' ⟨rfl, rfl⟩
  go_wp2_with fail
  refine Calls.mono HBl.out ?_
  rintro e w1 ⟨rfl, nq, rfl⟩
  obtain ⟨w1, hw1⟩ : ∃ x, x = w.drewN nq := ⟨_, rfl⟩
  have h1 := H.out.drewN nq
  have hbe1 : Below w.heap.size w (w.drewN nq) := below_drewN (Below.refl _ _) nq
  rw [← hw1] at h1 hbe1 ⊢
  clear hw1
  have c6 := h1.jn.c6
  have hl := h1.jn.mp.look (t := 31) (e := 48) true Tryz.underlying31 (zero112 _) (x := (i : Int)) (Wf.of (by omega) (by omega))
  rw [pmap_nat, HP.out] at hl
  simp only [Option.map_none, lookRes, if_true] at hl
  have H1 := Lib.hid h1
  have HB1 := Lib.hid hbe1
  clear h1 hbe1
  go_wp2_with fail
  obtain ⟨w2, hw2⟩ : ∃ x, x = w1.alloc (.cells (blkL zeroB).toArray 48) := ⟨_, rfl⟩
  have h2 := H1.out.alloc (.cells (blkL zeroB).toArray 48)
  have hbe2 : Below w.heap.size w (w1.alloc (.cells (blkL zeroB).toArray 48)) := Below.step HB1.out (Below.new _ _)
  rw [← hw2] at h2 hbe2 ⊢
  clear hw2 hl c6
  have c0 := h2.jn.c0
  have c1 := h2.jn.c1
  obtain ⟨L, hL⟩ : ∃ L, L = J.log := ⟨_, rfl⟩
  have hL4 : L ≤ 4096 := by have h1 := h2.ok.logn; have h3 := h2.pl.ok.most; omega
  rw [← hL] at c1
  have HLe := Lib.hid hL
  have H2 := Lib.hid h2
  have HB2 := Lib.hid hbe2
  have s1 := IntWalk.i64_in (n := 2 + (L : Int)) (by omega)
  have s2 := IntWalk.i64_in (n := 2 + (L : Int) + (i : Int)) (by omega)
  have e3 : (2 : Int) + (L : Int) + (i : Int) = ((J.home i : Nat) : Int) := by unfold Jn.home; rw [HLe.out]; omega
  have HE3 := Lib.hid e3
  have MKR : Hid (∀ w', Below w2.heap.size w2 w' → w'.cell? ⟨j.p, 0, none⟩ = some (pv q) ∧ w'.cell? ⟨j.p, 1, none⟩ = some (.int .i64 L)) := Lib.hid fun w' hb => ⟨keepc hb c0, keepc hb c1⟩
  have hS : Below w2.heap.size w2 w2 := Below.refl _ _
  clear h2 hbe2 hL e3
  have hhm : J.home i < P.n := by unfold Jn.home; have h1 := HBe.out; have h2 := HI2.out; have h3 := H2.out.ok.logn; omega
  have hrd := read_ok w2.drew q P H2.out.drew.pl (J.home i) hhm HDd.out
  rw [← HE3.out, ← HSeen.out] at hrd
  have HRd := Lib.hid hrd
  clear hrd hhm
  go_region_held3 (fun w' => w'.cell? ⟨j.p, 0, none⟩ = some (pv q) ∧ w'.cell? ⟨j.p, 1, none⟩ = some (.int .i64 L))
    (first | with_reducible exact MKR.out _ hS | with_reducible exact MKR.out _ hS.drew)
    ((first | (go_at_call 15; ((with_reducible refine Calls.mono HRd.out ?_); rintro e w3 ⟨hbe3, g, rfl, hg, hc⟩; have HB3 := Lib.hid (show Below w2.heap.size w2 w3 from Below.step (Below.refl _ _).drew hbe3); have HG := Lib.hid (bys_sec hc); have HGe := Lib.hid hg; have hS : Below w2.heap.size w2 w3 := HB3.out; clear hbe3 hg hc))))
  clear s1 s2 c0 c1 hS
  have hz := blank_n w3 (some ⟨g, 0, none⟩) (bytesOf s) 64 64 (bytesOf_length _) HG.out
  rw [show zeroL (bytesOf s) = false from HK.out] at hz
  have HZ := Lib.hid hz
  clear hz
  go_wp2_with fail
  refine Calls.mono HZ.out ?_
  rintro e w4 ⟨rfl, rfl⟩
  have HPa := Lib.hid (parse_any w3 g 0 s HG.out)
  go_wp2_with fail
  refine Calls.mono HPa.out ?_
  rintro e w4 ⟨rfl, hbe4⟩
  rw [HOk.out]
  have HB4 := Lib.hid hbe4
  clear hbe4
  obtain ⟨t, ht⟩ : ∃ t, t = parseS s := ⟨_, rfl⟩
  rw [← ht] at Hhkind Hhturn Hhnum ⊢
  obtain ⟨w5, hw5⟩ : ∃ x, x = w4.alloc (.cells (sctL t).toArray 52) := ⟨_, rfl⟩
  have hrw : RowAt w5 ⟨w4.heap.size, 0, none⟩ (sctL t) := by rw [hw5]; exact row_new w4 52 _ rfl
  have hbe5 : Below w4.heap.size w4 w5 := by rw [hw5]; exact Below.new _ _
  have HRw := Lib.hid hrw
  have HB5 := Lib.hid hbe5
  have HBA := Lib.hid (Below.step (Below.step (Below.step HB2.out HB3.out) HB4.out) hbe5)
  have HJ5 := Lib.hid (((H2.out.below HB3.out).below HB4.out).below hbe5)
  clear hrw hbe5
  have hkind := Hhkind.out
  have hturn := Hhturn.out
  have hnum := Hhnum.out
  clear ht
  go_wp2_with fail
  rw [← hw5]
  refine bodyPost_ret (results_tmp2 rfl _ _ _) rfl ?_
  exact ⟨rfl, HJ5.out, HBA.out⟩
set_option maxRecDepth 10000 in
theorem read_good (h : JP w j q J P) (i : Nat) (hb : J.broken = false) (hi2 : i < J.blocks P.n) (hp : J.pend i = none) (hd : P.dead = false) (hk : isBlank (P.seen (J.home i)) = false) (hok : parseOk (P.seen (J.home i)) = true) (hkind : ((parseS (P.seen (J.home i))).kind != 4) = false) (hturn : ((parseS (P.seen (J.home i))).turn != 0) = false) (hnum : ((parseS (P.seen (J.home i))).number != (i : Int)) = false) : Calls Tryz.prog 4 #[jv j, .int .i64 i] w fun e w' => (∃ g, e = .returned (.tuple #[.slice (some ⟨g, 3, none⟩) 48 48, .int .i64 0]) ∧ w.heap.size ≤ g ∧ RowAt w' ⟨g, 3, none⟩ (blkL (parseS (P.seen (J.home i))).data) ∧ RoomN 48 w' ⟨g, 3, none⟩) ∧ JP w' j q J P ∧ Below w.heap.size w w' := by
  have hm := jmay_any h
  unfold jmay at hm
  rw [hb] at hm
  have HM := Lib.hid hm
  clear hm
  simp only [Bool.false_eq_true, if_false] at HM
  have HBl := Lib.hid (jblocks_any h)
  obtain ⟨B, hB⟩ : ∃ B, B = J.blocks P.n := ⟨_, rfl⟩
  have hBe : B = P.n - 2 - J.log := by rw [hB]; unfold Jn.blocks; rw [hb]; simp
  rw [← hB] at hi2 HBl
  have HBe := Lib.hid hBe
  have HI2 := Lib.hid hi2
  have hi2' : (i : Int) < (B : Int) := by omega
  have hn4 := h.pl.ok.most
  have hln := h.ok.logn
  have hi4 : i < 4096 := by omega
  have H := Lib.hid h
  clear h hb hB hBe hi2 hln hn4
  have HP := Lib.hid hp
  have HDd := Lib.hid hd
  have HK := Lib.hid hk
  have HOk := Lib.hid hok
  have Hhkind := Lib.hid hkind
  have Hhturn := Lib.hid hturn
  have Hhnum := Lib.hid hnum
  clear hp hd hk hok hkind hturn hnum
  obtain ⟨s, hs⟩ : ∃ s, s = P.seen (J.home i) := ⟨_, rfl⟩
  rw [← hs] at HK HOk Hhkind Hhturn Hhnum ⊢
  have HSeen := Lib.hid hs
  clear hs
  go_enter Tryz.func4, Tryz.ntmps4
  go_wp2_with fail
  refine Calls.mono HM.out ?_
  rintro e w' ⟨rfl, rfl⟩
  go_wp2_with fail
  refine Calls.mono HBl.out ?_
  rintro e w1 ⟨rfl, nq, rfl⟩
  obtain ⟨w1, hw1⟩ : ∃ x, x = w.drewN nq := ⟨_, rfl⟩
  have h1 := H.out.drewN nq
  have hbe1 : Below w.heap.size w (w.drewN nq) := below_drewN (Below.refl _ _) nq
  rw [← hw1] at h1 hbe1 ⊢
  clear hw1
  have c6 := h1.jn.c6
  have hl := h1.jn.mp.look (t := 31) (e := 48) true Tryz.underlying31 (zero112 _) (x := (i : Int)) (Wf.of (by omega) (by omega))
  rw [pmap_nat, HP.out] at hl
  simp only [Option.map_none, lookRes, if_true] at hl
  have H1 := Lib.hid h1
  have HB1 := Lib.hid hbe1
  clear h1 hbe1
  go_wp2_with fail
  obtain ⟨w2, hw2⟩ : ∃ x, x = w1.alloc (.cells (blkL zeroB).toArray 48) := ⟨_, rfl⟩
  have h2 := H1.out.alloc (.cells (blkL zeroB).toArray 48)
  have hbe2 : Below w.heap.size w (w1.alloc (.cells (blkL zeroB).toArray 48)) := Below.step HB1.out (Below.new _ _)
  rw [← hw2] at h2 hbe2 ⊢
  clear hw2 hl c6
  have c0 := h2.jn.c0
  have c1 := h2.jn.c1
  obtain ⟨L, hL⟩ : ∃ L, L = J.log := ⟨_, rfl⟩
  have hL4 : L ≤ 4096 := by have h1 := h2.ok.logn; have h3 := h2.pl.ok.most; omega
  rw [← hL] at c1
  have HLe := Lib.hid hL
  have H2 := Lib.hid h2
  have HB2 := Lib.hid hbe2
  have s1 := IntWalk.i64_in (n := 2 + (L : Int)) (by omega)
  have s2 := IntWalk.i64_in (n := 2 + (L : Int) + (i : Int)) (by omega)
  have e3 : (2 : Int) + (L : Int) + (i : Int) = ((J.home i : Nat) : Int) := by unfold Jn.home; rw [HLe.out]; omega
  have HE3 := Lib.hid e3
  have MKR : Hid (∀ w', Below w2.heap.size w2 w' → w'.cell? ⟨j.p, 0, none⟩ = some (pv q) ∧ w'.cell? ⟨j.p, 1, none⟩ = some (.int .i64 L)) := Lib.hid fun w' hb => ⟨keepc hb c0, keepc hb c1⟩
  have hS : Below w2.heap.size w2 w2 := Below.refl _ _
  clear h2 hbe2 hL e3
  have hhm : J.home i < P.n := by unfold Jn.home; have h1 := HBe.out; have h2 := HI2.out; have h3 := H2.out.ok.logn; omega
  have hrd := read_ok w2.drew q P H2.out.drew.pl (J.home i) hhm HDd.out
  rw [← HE3.out, ← HSeen.out] at hrd
  have HRd := Lib.hid hrd
  clear hrd hhm
  go_region_held3 (fun w' => w'.cell? ⟨j.p, 0, none⟩ = some (pv q) ∧ w'.cell? ⟨j.p, 1, none⟩ = some (.int .i64 L))
    (first | with_reducible exact MKR.out _ hS | with_reducible exact MKR.out _ hS.drew)
    ((first | (go_at_call 15; ((with_reducible refine Calls.mono HRd.out ?_); rintro e w3 ⟨hbe3, g, rfl, hg, hc⟩; have HB3 := Lib.hid (show Below w2.heap.size w2 w3 from Below.step (Below.refl _ _).drew hbe3); have HG := Lib.hid (bys_sec hc); have HGe := Lib.hid hg; have hS : Below w2.heap.size w2 w3 := HB3.out; clear hbe3 hg hc))))
  clear s1 s2 c0 c1 hS
  have hz := blank_n w3 (some ⟨g, 0, none⟩) (bytesOf s) 64 64 (bytesOf_length _) HG.out
  rw [show zeroL (bytesOf s) = false from HK.out] at hz
  have HZ := Lib.hid hz
  clear hz
  go_wp2_with fail
  refine Calls.mono HZ.out ?_
  rintro e w4 ⟨rfl, rfl⟩
  have HPa := Lib.hid (parse_any w3 g 0 s HG.out)
  go_wp2_with fail
  refine Calls.mono HPa.out ?_
  rintro e w4 ⟨rfl, hbe4⟩
  rw [HOk.out]
  have HB4 := Lib.hid hbe4
  clear hbe4
  obtain ⟨t, ht⟩ : ∃ t, t = parseS s := ⟨_, rfl⟩
  rw [← ht] at Hhkind Hhturn Hhnum ⊢
  obtain ⟨w5, hw5⟩ : ∃ x, x = w4.alloc (.cells (sctL t).toArray 52) := ⟨_, rfl⟩
  have hrw : RowAt w5 ⟨w4.heap.size, 0, none⟩ (sctL t) := by rw [hw5]; exact row_new w4 52 _ rfl
  have hbe5 : Below w4.heap.size w4 w5 := by rw [hw5]; exact Below.new _ _
  have HRw := Lib.hid hrw
  have HB5 := Lib.hid hbe5
  have HBA := Lib.hid (Below.step (Below.step (Below.step HB2.out HB3.out) HB4.out) hbe5)
  have HJ5 := Lib.hid (((H2.out.below HB3.out).below HB4.out).below hbe5)
  clear hrw hbe5
  have hkind := Hhkind.out
  have hturn := Hhturn.out
  have hnum := Hhnum.out
  have HTe := Lib.hid ht
  clear ht
  have HRo := Lib.hid (show RoomN 51 w5 ⟨w4.heap.size, 0, none⟩ by rw [hw5]; exact roomN_new w4 52 _ rfl (sctL_length _))
  go_wp2_with fail
  rw [← hw5]
  refine bodyPost_ret (results_tmp2 rfl _ _ _) rfl ?_
  refine ⟨⟨_, rfl, ?_, ?_, ?_⟩, HJ5.out, HBA.out⟩
  · exact Nat.le_trans HB2.out.size (Nat.le_trans HB3.out.size HB4.out.size)
  · rw [← HTe.out]
    refine ⟨rfl, fun k v hv => ?_⟩
    have := HRw.out.2 (3 + k) v (by rw [Nat.add_comm]; exact hv)
    rw [Nat.zero_add] at this
    exact this
  · refine ⟨rfl, fun k hk => ?_⟩
    have := HRo.out.2 (3 + k) (by omega)
    rw [Nat.zero_add] at this
    exact this
end
end Go.Proofs.YtdhidcoglioalaaGreat.Walks
