/-
  Any one bit that is turned in the log is told by Open.
-/
import Derived.Test.YtdhidcoglioalaaJW
namespace Go.Proofs.Ytdhidcoglioalaa.Walks
open Go.RowKit Plain Jn
set_option linter.unusedVariables false
attribute [local go_sem ↓] exec_load67 exec_store67 exec_alloc67 exec_alloc103 exec_load67T exec_store67T Go.wp_at_zero Go.wp_at_succ
attribute [local go_sem] isPt_mk adOf_mk cellsV_mk twL_length setCells_drew oneN_tw roomN_new isRow_new cellL_new alloc_setN roomN_past isRow_past cellL_past roomN_drew isRow_drew cellL_drew setCells_size setCells_past
section
variable {w w' : World} {j : JLoc} {q : PLoc} {J J' : Jn} {P P' : Pl}
/-- The journal's and the law's own box are kept by what the law's box is written. -/
theorem JP.box {g : Nat} (h : JP w j (q.banX [g]) J P) (hg : g ∉ j.R q) (vs : List Value) : JP (w.setCells g 0 vs) j (q.banX [g]) J P :=
  h.other (Only.setCells (R := [g]) (b := g) (by simp) vs 0 (Only.refl _ _)) (fun b hb => by simp only [List.mem_singleton] at hb; subst hb; exact ⟨by simp, hg⟩)
theorem room_of {w : World} {g : Nat} {f : Nat → Byte} (h : w.heap[g]? = some (.cells (twL f).toArray 67 (0, 0))) : RoomN 12 w ⟨g, 0, none⟩ :=
  ⟨rfl, fun i hi => ⟨by rw [show (⟨g, 0, none⟩ : Addr).off + i = i by show 0 + i = i; omega, cell_of_row _ _ _ _ _ _ h, List.getElem?_toArray, twL_get f hi]; rfl, by unfold World.frozen?; simp only [h]; rfl⟩⟩
theorem heap_set_tw {w : World} {g : Nat} {f f' : Nat → Byte} (h : w.heap[g]? = some (.cells (twL f).toArray 67 (0, 0))) : (w.setCells g 0 (twL f')).heap[g]? = some (.cells (twL f').toArray 67 (0, 0)) := by
  have := set_cells g 67 (twL f') 0 w (twL f) h (by rw [twL_length, twL_length]; omega)
  rw [this]
  rw [List.take_zero, List.nil_append, Nat.zero_add, List.drop_of_length_le (by rw [twL_length, twL_length]; omega), List.append_nil]
theorem openE_bad (h1 : P.flushE = 0) (h2 : openJ P.flush = none) : openE P = 70 := by
  unfold openE
  rw [h1, if_neg (by simp), h2]
theorem openE_good (h1 : P.flushE = 0) (h2 : openJ P.flush = some J) : openE P = 0 := by
  unfold openE
  rw [h1, if_neg (by simp), h2]
set_option maxRecDepth 20000 in
set_option maxHeartbeats 4000000 in
theorem journalLogged_walk (a : Option Addr) (cap : Nat) (l : List Int) (bit : Int) (w : World) (hI : Ints w a l) (hbit : Wf bit) : Calls Try.prog 13 #[.slice a l.length cap, .int .i64 bit] w fun e w' => e = .returned (.bool true) ∧ Below w.heap.size w w' := by
  have hMd := made_is 40 14 (by decide) (by decide) (by decide)
  have HMd := Lib.hid hMd
  have HI := Lib.hid hI
  have hI1 := hI.1
  obtain ⟨n, hn⟩ : ∃ n, n = l.length := ⟨_, rfl⟩
  rw [← hn] at hI1 ⊢
  have HN := Lib.hid hn
  have HBit := Lib.hid hbit
  clear hMd hI hn hbit
  go_enter Try.func13, Try.ntmps13
  go_wp2_with fail
  refine Calls.mono (HMd.out _) ?_
  rintro e w1 ⟨q, j, rfl, hj, hb, hR⟩
  have HJ : Hid (JP w1 j q (formatJ 14) (formatP (Pl.made 40) 14)) := Lib.hid hj
  have HB := Lib.hid hb
  have HR := Lib.hid hR
  clear hj hb hR
  obtain ⟨w2, hw2⟩ : ∃ x, x = w1.alloc (.cells (twL tw0).toArray 67) := ⟨_, rfl⟩
  obtain ⟨g, hg⟩ : ∃ g, g = w1.heap.size := ⟨_, rfl⟩
  have hb2 : Below w1.heap.size w1 w2 := by rw [hw2]; exact Below.new _ _
  have hlt : g < w2.heap.size := by rw [hw2, hg]; simp
  have hbox : w2.heap[g]? = some (.cells (twL tw0).toArray 67 (0, 0)) := by rw [hw2, hg]; exact heap_alloc_new _ _
  have hj2 := HJ.out.banned hb2 (X := [g]) (fun x hx => by simp only [List.mem_singleton] at hx; subst hx; exact ⟨Nat.le_of_eq hg.symm, hlt⟩)
  have hgR : g ∉ j.R q := fun hm => by have := HJ.out.lt _ hm; omega
  have hg0 : w.heap.size ≤ g := by rw [hg]; exact HB.out.size
  have HJ2 := Lib.hid hj2
  have HGR := Lib.hid hgR
  have HG0 := Lib.hid hg0
  have HB2 := Lib.hid (Below.step HB.out hb2)
  have HBox := Lib.hid hbox
  have hrow := row_of hbox
  have hix := hrow.is (twL_length _)
  have hcl := hrow.cells (twL_length _)
  have HDo := Lib.hid (does_any hj2 (show (2 : Nat) < 4611686018427387904 by decide) (show (1 : Nat) < 4611686018427387904 by decide) tw0 a n cap l HN.out.symm (HI.out.below (Below.step HB.out hb2)) 5 false 0 none 0 0)
  clear hj2 hgR hg0 hb2 hlt hbox hrow HJ
  go_upto_region 3 with (fail)
  rw [← hw2, ← hg]
  clear hw2 hg
  obtain ⟨d, hd⟩ : ∃ d : Deed, d = ⟨l, 5, false⟩ := ⟨_, rfl⟩
  rw [← hd] at HDo
  have HDe := Lib.hid hd
  clear hd
  go_wp2_with fail
  refine Calls.mono HDo.out ?_
  rintro e w3 ⟨rfl, hj3, ho3⟩
  obtain ⟨_, hks, hf0⟩ := made_ks (n := 40) (log := 14) (by decide) (by decide) (by decide)
  have hks' : KS 40 14 (formatP (Pl.made 40) 14) (formatJ 14) tw0 0 := hks
  have hf0' : (formatP (Pl.made 40) 14).fails = false := hf0
  have hlen12 := (deedL_ok 5 l).len
  obtain ⟨hE, hK1, hF1⟩ := hks'.deed_ok hf0' (by decide) d (by decide) (by rw [HDe.out]; show (deedL 5 l).length + 1 ≤ 14; omega)
  obtain ⟨nx, hnx⟩ : ∃ nx, nx = deedN tw0 d := ⟨_, rfl⟩
  have HLog : Hid (deedL 5 l ≠ [] → (deedJ (formatP (Pl.made 40) 14) (formatJ 14) d).free + ((deedL 5 l).length + 1) = 13 ∧ ∀ k, k < 512 * ((deedL 5 l).length + 1) → (deedP (formatP (Pl.made 40) 14) (formatJ 14) d).turnE (2 + k / 512 : Nat) (k % 512 : Nat) = 0 ∧
      ((deedP (formatP (Pl.made 40) 14) (formatJ 14) d).turn (2 + k / 512 : Nat) (k % 512 : Nat)).flushE = 0 ∧ openJ ((deedP (formatP (Pl.made 40) 14) (formatJ 14) d).turn (2 + k / 512 : Nat) (k % 512 : Nat)).flush = none) := Lib.hid fun h0 => by
    have hD := deedL_ok 5 l
    obtain ⟨_, h2, h3⟩ := logged h0 ⟨hD.lt, hD.nd, by have := hD.len; omega⟩
    rw [HDe.out]
    exact ⟨h2, h3⟩
  have HNil : Hid (deedL 5 l = [] → (deedJ (formatP (Pl.made 40) 14) (formatJ 14) d).free = 13) := Lib.hid fun h0 => by
    rw [HDe.out]
    show (commitJ (formatP (Pl.made 40) 14) (formatJ 14) (putsL (deedL 5 l))).free = 13
    rw [h0]
    unfold commitJ Jn.nothing
    simp [putsL, Jn.free, formatJ]
  obtain ⟨P1, hP1⟩ : ∃ P1, P1 = deedP (formatP (Pl.made 40) 14) (formatJ 14) d := ⟨_, rfl⟩
  obtain ⟨J1, hJ1⟩ : ∃ J1, J1 = deedJ (formatP (Pl.made 40) 14) (formatJ 14) d := ⟨_, rfl⟩
  rw [← hP1, ← hJ1] at hj3 HLog
  rw [← hJ1] at HNil
  rw [← hP1, ← hJ1, ← hnx] at hK1
  rw [hE, ← hnx]
  have hb3 := hkeepO ho3 HGR.out HBox.out
  have hroom := room_of hb3
  have HBox3 := Lib.hid hb3
  have HJ3 := Lib.hid hj3
  have HK1 := Lib.hid hK1
  have HBe3 := Lib.hid (ho3.below HB2.out HR.out (Nat.le_refl _))
  clear hks hf0 hks' hf0' hE hF1 hK1 hnx hP1 hJ1 hb3 hj3 ho3 hix hcl HDo HDe HBox
  obtain ⟨M, hM⟩ : ∃ M, M = (deedL 5 l).length := ⟨_, rfl⟩
  rw [← hM] at HLog hlen12
  by_cases h0 : M = 0
  · have hnil : deedL 5 l = [] := List.eq_nil_of_length_eq_zero (hM.symm.trans h0)
    have hfr13 := HNil.out hnil
    have HF13 := Lib.hid hfr13
    clear hfr13 hnil h0 HLog
    go_upto_region 4 with (fail)
    obtain ⟨w4, hw4⟩ : ∃ x, x = w3.setCells g 0 (twL nx) := ⟨_, rfl⟩
    have hj4 : JP w4 j (q.banX [g]) J1 P1 := by rw [hw4]; exact HJ3.out.box HGR.out _
    have hb4 : w4.heap[g]? = some (.cells (twL nx).toArray 67 (0, 0)) := by rw [hw4]; exact heap_set_tw HBox3.out
    have hbe4 : Below w.heap.size w w4 := by rw [hw4]; exact (Only.setCells (R := [g]) (b := g) (by simp) (twL nx) 0 (Only.refl _ _)).below HBe3.out (fun r hr => by simp only [List.mem_singleton] at hr; rw [hr]; exact HG0.out) (Nat.le_refl _)
    rw [← hw4]
    have hfr := jfree_any hj4
    rw [HF13.out] at hfr
    have HFr : Hid (Calls Try.prog 41 #[jv j] w4 fun e w' => e = .returned (.int .i64 13) ∧ ∃ n, w' = w4.drewN n) := Lib.hid hfr
    have HJ4 := Lib.hid hj4
    have HB4 := Lib.hid hb4
    have HBe4 := Lib.hid hbe4
    clear hw4 hj4 hb4 hbe4 hfr hroom
    go_wp2_with fail
    refine Calls.mono HFr.out ?_
    rintro e w5 ⟨rfl, nq, rfl⟩
    have hr5 : RowAt (w4.drewN nq) ⟨g, 0, none⟩ (twL nx) := row_of HB4.out
    have HJ5 := Lib.hid (HJ4.out.drewN nq)
    have HBe5 := Lib.hid (below_drewN HBe4.out nq)
    obtain ⟨w5, hw5⟩ : ∃ x, x = w4.drewN nq := ⟨_, rfl⟩
    rw [← hw5] at hr5 HJ5 HBe5 ⊢
    have hix := hr5.is (twL_length _)
    have hcl := hr5.cells (twL_length _)
    have HAl := Lib.hid (all_is HJ5.out HK1.out.dead nx nx (fun i hi => by have := HK1.out.read (i := i) (by omega); unfold nowF at this; rw [if_pos hi] at this; exact this))
    rw [allB_same] at HAl
    clear hw5 hr5
    go_wp2_with fail
    refine Calls.mono HAl.out ?_
    rintro e w6 ⟨rfl, hj6, hb6⟩
    have HBe6 := Lib.hid (Below.step HBe5.out hb6)
    clear hj6 hb6
    go_wp2_with fail
    refine Calls.mono (awake7 w6) ?_
    rintro e w7 ⟨rfl, hb7⟩
    have HBe7 := Lib.hid (Below.step HBe6.out hb7)
    clear hb7
    go_wp2
    go_ret
    exact ⟨by simp, HBe7.out⟩
  · have hne : deedL 5 l ≠ [] := fun e => h0 (by rw [hM, e]; rfl)
    obtain ⟨hfr13, htn⟩ := HLog.out hne
    have HTn := Lib.hid htn
    have HF13 := Lib.hid hfr13
    clear hne hfr13 htn HNil HLog
    go_upto_region 4 with (fail)
    obtain ⟨w4, hw4⟩ : ∃ x, x = w3.setCells g 0 (twL nx) := ⟨_, rfl⟩
    have hj4 : JP w4 j (q.banX [g]) J1 P1 := by rw [hw4]; exact HJ3.out.box HGR.out _
    have hbe4 : Below w.heap.size w w4 := by rw [hw4]; exact (Only.setCells (R := [g]) (b := g) (by simp) (twL nx) 0 (Only.refl _ _)).below HBe3.out (fun r hr => by simp only [List.mem_singleton] at hr; rw [hr]; exact HG0.out) (Nat.le_refl _)
    rw [← hw4]
    have hfr := jfree_any hj4
    obtain ⟨F, hF⟩ : ∃ F, F = J1.free := ⟨_, rfl⟩
    rw [← hF] at hfr HF13
    have HFr := Lib.hid hfr
    have HJ4 := Lib.hid hj4
    have HBe4 := Lib.hid hbe4
    have hFM : F + (M + 1) = 13 := HF13.out
    have hw1 : IntKind.i64.wrap (13 - (F : Int)) = ((M + 1 : Nat) : Int) := by rw [IntKind.wrap_i64]; omega
    have hw2 : IntKind.i64.wrap (512 * ((M + 1 : Nat) : Int)) = 512 * ((M + 1 : Nat) : Int) := by rw [IntKind.wrap_i64]; omega
    obtain ⟨M1, hM1⟩ : ∃ M1, M1 = M + 1 := ⟨_, rfl⟩
    rw [← hM1] at hw1 hw2 HTn
    have hM13 : 1 ≤ M1 ∧ M1 ≤ 13 := by omega
    have hm0 := Int.emod_nonneg bit (show (512 * (M1 : Int)) ≠ 0 by omega)
    have hm1 := Int.emod_lt_of_pos bit (show 0 < (512 * (M1 : Int)) by omega)
    obtain ⟨k, hk⟩ : ∃ k : Nat, bit % (512 * (M1 : Int)) = (k : Int) := ⟨(bit % (512 * (M1 : Int))).toNat, (Int.toNat_of_nonneg hm0).symm⟩
    rw [hk] at hm0 hm1
    have hkl : k < 512 * M1 := by omega
    clear hm0 hm1
    have HBr : Hid (∀ w', Calls Try.prog 20 #[.int .i64 bit, .int .i64 (512 * (M1 : Int))] w' fun e w'' => e = .returned (.int .i64 (k : Int)) ∧ w' = w'') := Lib.hid fun w' => by
      have := bring_any bit (512 * (M1 : Int)) w' (by omega) (by omega)
      rw [hk] at this
      exact this
    obtain ⟨t1, t2, t3⟩ := HTn.out k hkl
    have HT1 := Lib.hid t1
    have HT2 := Lib.hid (openE_bad t2 t3)
    have hz1 : ¬ (((M1 : Nat) : Int) < 0) := by omega
    have hz2 : ¬ ((13 : Int) < ((M1 : Nat) : Int)) := by omega
    have hz3 : (((M1 : Nat) : Int) == 0) = false := by rw [beq_eq_false_iff_ne]; omega
    clear hw4 hj4 hbe4 hfr hF hFM hM1 h0 hM hk hroom t1 t2 t3 HTn
    go_wp2_with fail
    refine Calls.mono HFr.out ?_
    rintro e w5 ⟨rfl, nq, rfl⟩
    have HJ5 := Lib.hid (HJ4.out.drewN nq)
    have HBe5 := Lib.hid (below_drewN HBe4.out nq)
    obtain ⟨w5, hw5⟩ : ∃ x, x = w4.drewN nq := ⟨_, rfl⟩
    rw [← hw5] at HJ5 HBe5 ⊢
    clear hw5 HFr
    go_wp2_with fail
    refine Calls.mono (HBr.out _) ?_
    rintro e w' ⟨rfl, rfl⟩
    have htu := turn_any w5 (q.banX [g]) P1 HJ5.out.pl (2 + (k : Int) / 512) ((k : Int) % 512)
    have ei1 : (2 + (k : Int) / 512) = ((2 + k / 512 : Nat) : Int) := by omega
    have ei2 : ((k : Int) % 512) = ((k % 512 : Nat) : Int) := by omega
    have hq0 : P1.turnE (2 + (k : Int) / 512) ((k : Int) % 512) = 0 := by rw [ei1, ei2]; exact HT1.out
    have hqE : openE (P1.turn (2 + (k : Int) / 512) ((k : Int) % 512)) = 70 := by rw [ei1, ei2]; exact HT2.out
    rw [hq0] at htu
    obtain ⟨P2, hP2⟩ : ∃ P2, P2 = P1.turn (2 + (k : Int) / 512) ((k : Int) % 512) := ⟨_, rfl⟩
    rw [← hP2] at htu hqE
    have HTu : Hid (Calls Try.prog 27 #[pv q, .int .i64 (2 + (k : Int) / 512), .int .i64 ((k : Int) % 512)] w5 fun e w' => e = .returned (.int .i64 0) ∧ PlateAt w' (q.banX [g]) P2 ∧ Only q.R w5 w') := Lib.hid htu
    have HQE := Lib.hid hqE
    have HQR : Hid (∀ b ∈ q.R, w.heap.size ≤ b) := Lib.hid fun b hb => HR.out b (JLoc.inQ hb)
    clear htu ei1 ei2 hq0 hqE hP2
    go_wp2_with fail
    refine Calls.mono HTu.out ?_
    rintro e w6 ⟨rfl, hp6, ho6⟩
    have HOp : Hid (Calls Try.prog 36 #[pv q] w6 fun e w' => OpenR w6 w' (q.banX [g]) P2 e) := Lib.hid (open_any w6 (q.banX [g]) P2 hp6)
    have HBe6 := Lib.hid (R_fresh HBe5.out ho6 HQR.out)
    clear hp6 ho6
    go_wp2_with fail
    refine Calls.mono HOp.out ?_
    intro e w7 hO
    unfold OpenR at hO
    rw [HQE.out, if_pos (by decide)] at hO
    obtain ⟨rfl, _, ho7⟩ := hO
    have HBe7 := Lib.hid (R_fresh HBe6.out ho7 HQR.out)
    clear ho7
    go_wp2_with fail
    refine Calls.mono (awake7 w7) ?_
    rintro e w8 ⟨rfl, hb8⟩
    have HBe8 := Lib.hid (Below.step HBe7.out hb8)
    clear hb8
    go_wp2
    go_ret
    exact ⟨by simp, HBe8.out⟩
end
end Go.Proofs.Ytdhidcoglioalaa.Walks
