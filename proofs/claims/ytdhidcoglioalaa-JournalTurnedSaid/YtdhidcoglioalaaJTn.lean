/-
  A bit turned on the plate is told, and harms one block alone.
-/
import Derived.Test.YtdhidcoglioalaaJLv
import Derived.Test.YtdhidcoglioalaaJOpen
namespace Go.Proofs.Ytdhidcoglioalaa.Walks
open Go.RowKit Plain Jn
set_option linter.unusedVariables false
attribute [local go_sem ↓] exec_load67 exec_store67 exec_alloc67 exec_alloc103 exec_load67T exec_store67T Go.wp_at_zero Go.wp_at_succ
attribute [local go_sem] isPt_mk adOf_mk cellsV_mk twL_length setCells_drew oneN_tw roomN_new isRow_new cellL_new alloc_setN roomN_past isRow_past cellL_past roomN_drew isRow_drew cellL_drew setCells_size setCells_past
/-- A plate and a journal that live, so many deeds behind their making, and the law's box of blocks. -/
structure BkS (w wr : World) (j : JLoc) (q : PLoc) (g : Nat) (now : Nat → Byte) (J : Jn) (P : Pl) (c : Nat) : Prop where
  jp : JP wr j (q.banX [g]) J P
  ks : KS 40 14 P J now c
  nf : P.fails = false
  box : wr.heap[g]? = some (.cells (twL now).toArray 67 (0, 0))
  be : Below w.heap.size w wr
section
variable {w w' : World} {j : JLoc} {q : PLoc} {J J' : Jn} {P P' : Pl}
set_option maxRecDepth 20000 in
set_option maxHeartbeats 4000000 in
theorem journalTurned_walk (a : Option Addr) (len cap : Nat) (z bit : Int) (w : World) (hI : Deedz w a len) (hz : Wf z) (hbit : Wf bit) : Calls Try.prog 12 #[.slice a len cap, .int .i64 z, .int .i64 bit] w fun e w' => e = .returned (.bool true) ∧ Below w.heap.size w w' := by
  have hMd := made_is 40 14 (by decide) (by decide) (by decide)
  have HMd := Lib.hid hMd
  have HI := Lib.hid hI
  have hI1 := hI.1
  clear hMd hI
  go_enter Try.func12, Try.ntmps12
  go_wp2_with fail
  refine Calls.mono (HMd.out _) ?_
  rintro e w1 ⟨q, j, rfl, hj, hb, hR⟩
  have HJ : Hid (JP w1 j q (formatJ 14) (formatP (Pl.made 40) 14)) := Lib.hid hj
  have HB := Lib.hid hb
  have HR := Lib.hid hR
  clear hj hb hR
  obtain ⟨w2, hw2⟩ : ∃ x, x = w1.alloc (.cells (twL tw0).toArray 67) := ⟨_, rfl⟩
  obtain ⟨g, hg⟩ : ∃ g, g = w1.heap.size := ⟨_, rfl⟩
  have hb2 : Below w1.heap.size w1 w2 := by rw [hw2]; exact Below.new _ _
  have hlt : g < w2.heap.size := by rw [hw2, hg]; simp
  have hbox : w2.heap[g]? = some (.cells (twL tw0).toArray 67 (0, 0)) := by rw [hw2, hg]; exact heap_alloc_new _ _
  have hgR : g ∉ j.R q := fun hm => by have := HJ.out.lt _ hm; omega
  have hg0 : w.heap.size ≤ g := by rw [hg]; exact HB.out.size
  obtain ⟨_, hks, hf0⟩ := made_ks (n := 40) (log := 14) (by decide) (by decide) (by decide)
  have hst : BkS w w2 j q g tw0 (formatJ 14) (formatP (Pl.made 40) 14) 0 := ⟨HJ.out.banned hb2 (X := [g]) (fun x hx => by simp only [List.mem_singleton] at hx; subst hx; exact ⟨Nat.le_of_eq hg.symm, hlt⟩), hks, hf0, hbox, Below.step HB.out hb2⟩
  have HST := Lib.hid hst
  have HGR := Lib.hid hgR
  have HBan := Lib.hid (show j.p ∈ q.ban ∧ j.m ∈ q.ban from ⟨HJ.out.bp, HJ.out.bm⟩)
  have HG0 := Lib.hid hg0
  clear hb2 hlt hbox hgR hg0 hks hf0 hst HJ HB
  go_upto_region 3 with (fail)
  rw [← hw2, ← hg]
  clear hw2 hg
  go_wp2_with fail
  go_loopw [9, 11] (fun v5 i wr => ∃ (k : Nat) (now : Nat → Byte) (J : Jn) (P : Pl), v5 = .bool true ∧ i = .int .i64 k ∧ k ≤ 20 ∧ k ≤ len ∧ Hid (BkS w wr j q g now J P k)) (fun _ i _ => 20 - (RowKit.intOf i).toNat)
  case atStart => exact ⟨0, tw0, _, _, rfl, rfl, by omega, Nat.zero_le _, HST⟩
  case round =>
    obtain ⟨k, now, J, P, rfl, rfl, hk30, hklen, HS⟩ := hrel
    by_cases hgo : k < len ∧ k < 20
    · obtain ⟨hlt, hlt30⟩ := hgo
      have hIr := HI.out.2
      rcases hIr with h0 | ⟨b, off, rfl, hc⟩
      · omega
      obtain ⟨x, hx⟩ := hc k hlt
      obtain ⟨d, hd⟩ : ∃ d : Deed, d = ⟨x.L, x.B, x.clr⟩ := ⟨_, rfl⟩
      have hlen12 := (deedL_ok x.B x.L).len
      obtain ⟨hE, hK1, hF1⟩ := HS.out.ks.deed_ok HS.out.nf (by omega) d (by decide) (by rw [hd]; show (deedL x.B x.L).length + 1 ≤ 14; omega)
      obtain ⟨nx, hnx⟩ : ∃ nx, nx = deedN now d := ⟨_, rfl⟩
      rw [← hnx] at hK1
      have hhd : J.head < 4611686018427387904 := by have := HS.out.ks.head; omega
      have htn : J.turn < 4611686018427387904 := by have := HS.out.ks.turn; omega
      have HDoA : Hid (∀ w', Below wr.heap.size wr w' → Calls Try.prog 35 #[jv j, .agg (twL now).toArray, .agg #[.slice x.ba x.L.length x.bc, .int .u8 (x.B.toNat : Int), .bool x.clr, .int .i64 x.fail, .slice x.ka x.K.length x.kc]] w' fun e w'' => e = .returned (.tuple #[.agg (twL nx).toArray, .int .i64 0]) ∧ JP w'' j (q.banX [g]) (deedJ P J d) (deedP P J d) ∧ Only (j.R q) w' w'') := Lib.hid fun w' hb => by
        have := does_any (HS.out.jp.below hb) hhd htn now x.ba x.L.length x.bc x.L rfl ((hx.ok.i.below HS.out.be).below hb) x.B x.clr x.fail x.ka x.K.length x.kc
        rw [← hd, ← hnx, hE] at this
        exact this
      have HDoB : Hid (∀ w', Below wr.heap.size wr w' → wr.heap.size < w'.heap.size → Calls Try.prog 35 #[jv j, .agg (twL now).toArray, .agg #[.slice x.ba x.L.length x.bc, .int .u8 (x.B.toNat : Int), .bool x.clr, .int .i64 x.fail, .slice x.ka x.K.length x.kc]] w' fun e w'' => e = .returned (.tuple #[.agg (twL nx).toArray, .int .i64 0]) ∧ JP w'' j ((q.banX [g]).banX [wr.heap.size]) (deedJ P J d) (deedP P J d) ∧ Only (j.R q) w' w'') := Lib.hid fun w' hbb hl => by
        have := does_any (HS.out.jp.banned hbb (X := [wr.heap.size]) (fun y hy => by simp only [List.mem_singleton] at hy; subst hy; exact ⟨Nat.le_refl _, hl⟩)) hhd htn now x.ba x.L.length x.bc x.L rfl ((hx.ok.i.below HS.out.be).below hbb) x.B x.clr x.fail x.ka x.K.length x.kc
        rw [← hd, ← hnx, hE] at this
        exact this
      have HNr : Hid (wr.heap.size ∉ j.R q) := Lib.hid fun hm => Nat.lt_irrefl _ (HS.out.jp.lt _ hm)
      obtain ⟨J1, hJ1⟩ : ∃ J1, J1 = deedJ P J d := ⟨_, rfl⟩
      obtain ⟨P1, hP1⟩ : ∃ P1, P1 = deedP P J d := ⟨_, rfl⟩
      rw [← hJ1, ← hP1] at HDoA HDoB hK1
      rw [← hP1] at hF1
      have HK1 := Lib.hid hK1
      have HF1 := Lib.hid hF1
      have hgl : g < wr.heap.size := lt_of_heap HS.out.box
      have HGl := Lib.hid hgl
      have MK : Hid (∀ w', Below w.heap.size w w' → w'.heap[g]? = some (.cells (twL now).toArray 67 (0, 0)) → w'.cell? ⟨b, off + k * 5, none⟩ = some (.slice x.ba x.L.length x.bc) ∧ w'.cell? ⟨b, off + k * 5 + 1, none⟩ = some (.int .u8 (x.B.toNat : Int)) ∧ w'.cell? ⟨b, off + k * 5 + 2, none⟩ = some (.bool x.clr) ∧ w'.cell? ⟨b, off + k * 5 + 3, none⟩ = some (.int .i64 x.fail) ∧ w'.cell? ⟨b, off + k * 5 + 4, none⟩ = some (.slice x.ka x.K.length x.kc) ∧ IsRow 12 w' ⟨g, 0, none⟩ ∧ cellL 12 w' ⟨g, 0, none⟩ = twL now) := Lib.hid fun w' hb hg => by
        have hr := row_of hg
        exact ⟨keepc hb hx.c0, keepc hb hx.c1, keepc hb hx.c2, keepc hb hx.c3, keepc hb hx.c4, hr.is (twL_length _), hr.cells (twL_length _)⟩
      have hS : Below w.heap.size w wr := HS.out.be
      have hG : wr.heap[g]? = some (.cells (twL now).toArray 67 (0, 0)) := HS.out.box
      have hGd : wr.drew.heap[g]? = some (.cells (twL now).toArray 67 (0, 0)) := hG
      have hGa : (wr.drew.alloc (.cells (twL tw0).toArray 67)).heap[g]? = some (.cells (twL now).toArray 67 (0, 0)) := (heap_alloc_lt hgl).trans hG
      have hW : Below wr.heap.size wr wr := Below.refl _ _
      have hWd : Below wr.heap.size wr (wr.drew.alloc (.cells (twL tw0).toArray 67)) := (Below.refl _ _).drew.alloc (Nat.le_refl _) _
      have hWa : Below wr.heap.size wr (wr.alloc (.cells (twL tw0).toArray 67)) := (Below.refl _ _).alloc (Nat.le_refl _) _
      have hWad : Below wr.heap.size wr (wr.alloc (.cells (twL tw0).toArray 67)).drew := hWa.drew
      have hSz : wr.heap.size < (wr.drew.alloc (.cells (twL tw0).toArray 67)).heap.size := by simp
      have hSza : wr.heap.size < (wr.alloc (.cells (twL tw0).toArray 67)).heap.size := by simp
      have hSzad : wr.heap.size < (wr.alloc (.cells (twL tw0).toArray 67)).drew.heap.size := by simp
      have hSa : Below w.heap.size w (wr.alloc (.cells (twL tw0).toArray 67)) := below_base hS hS.size (Below.new _ _)
      have hGaa : (wr.alloc (.cells (twL tw0).toArray 67)).heap[g]? = some (.cells (twL now).toArray 67 (0, 0)) := hGa
      have hSad : Below w.heap.size w (wr.alloc (.cells (twL tw0).toArray 67)).drew := hSa.drew
      have hGad : (wr.alloc (.cells (twL tw0).toArray 67)).drew.heap[g]? = some (.cells (twL now).toArray 67 (0, 0)) := hGa
      have hSs := hS
      have hGs := hG
      obtain ⟨S0, S1, S2, S3, S4, S5, S6⟩ := MK.out wr hS hG
      clear hd hlen12 hE hK1 hF1 hnx hhd htn hJ1 hP1 hgl hc hx
      go_upto_region 6 with (fail)
      go_cut [12, 13] from 40 to 48 (fun v8 v9 wx => ∃ g8, v8 = .pointer (some ⟨g8, 0, none⟩) ∧ v9 = .int .i64 0 ∧ Hid (wx.heap[g8]? = some (.cells (twL nx).toArray 67 (0, 0)) ∧ g8 ≠ g) ∧ Hid (wx.heap[g]? = some (.cells (twL now).toArray 67 (0, 0))) ∧ Hid (JP wx j (q.banX [g]) J1 P1) ∧ Hid (Below w.heap.size w wx))
      case first =>
        obtain ⟨T, hT⟩ : ∃ T : TypeId, T = 67 := ⟨_, rfl⟩
        rw [show Op.load 67 (Operand.tmp 10) = Op.load T (Operand.tmp 10) by rw [hT], show Op.store 67 (Operand.tmp 12) (Operand.tmp 47) = Op.store T (Operand.tmp 12) (Operand.tmp 47) by rw [hT]]
        have HT := Lib.hid hT
        clear hT
        go_region_held3 (fun w' => w'.cell? ⟨b, off + k * 5, none⟩ = some (.slice x.ba x.L.length x.bc) ∧ w'.cell? ⟨b, off + k * 5 + 1, none⟩ = some (.int .u8 (x.B.toNat : Int)) ∧ w'.cell? ⟨b, off + k * 5 + 2, none⟩ = some (.bool x.clr) ∧ w'.cell? ⟨b, off + k * 5 + 3, none⟩ = some (.int .i64 x.fail) ∧ w'.cell? ⟨b, off + k * 5 + 4, none⟩ = some (.slice x.ka x.K.length x.kc) ∧ IsRow 12 w' ⟨g, 0, none⟩ ∧ cellL 12 w' ⟨g, 0, none⟩ = twL now)
          (first | with_reducible exact MK.out _ hS hG | with_reducible exact MK.out _ hS.drew hGd | with_reducible exact MK.out _ (below_base hS.drew hS.size (Below.new _ _)) hGa | with_reducible exact MK.out _ (below_base hS hS.size (Below.new _ _)) ((heap_alloc_lt (lt_of_heap hG)).trans hG) | with_reducible exact MK.out _ hSad hGad | with_reducible exact MK.out _ hSa hGaa | with_reducible exact MK.out _ hSs hGs)
          ((first
          | (go_at_call 35; ((with_reducible refine Calls.mono (HDoA.out _ ?_) ?_); (first | with_reducible exact hW | with_reducible exact hW.drew); rintro e w4 ⟨rfl, hj, ho⟩; have hJ4 := hj; have hS0 := hS; have hG0 := hG; have hS : Below w.heap.size w w4 := (by first | exact R_fresh hS0 ho HR.out | exact R_fresh hS0.drew ho HR.out); have hG : w4.heap[g]? = some (.cells (twL now).toArray 67 (0, 0)) := hkeepO ho HGR.out hG0; have HA : Hid (JP w4 j (q.banX [g]) J1 P1) := Lib.hid hJ4; clear hj ho hJ4 hG0))
          | (go_at_call 35; ((with_reducible refine Calls.mono (HDoB.out _ ?_ ?_) ?_); (first | with_reducible exact hWd | with_reducible exact hWa | with_reducible exact hWad); (first | with_reducible exact hSz | with_reducible exact hSza | with_reducible exact hSzad); rintro e w4 ⟨rfl, hj, ho⟩; have hS0 := hS; have hG0 := hG; have hS : Below w.heap.size w w4 := (by first | exact R_fresh (below_base hS0.drew hS0.size (Below.new _ _)) ho HR.out | exact R_fresh (below_base hS0 hS0.size (Below.new _ _)) ho HR.out | exact R_fresh (below_base hS0 hS0.size (Below.new _ _)).drew ho HR.out); have hG : w4.heap[g]? = some (.cells (twL now).toArray 67 (0, 0)) := hkeepO ho HGR.out hGa; have hb8 : w4.heap[wr.heap.size]? = some (.cells (twL tw0).toArray 67 (0, 0)) := hkeepO ho HNr.out (heap_alloc_new _ _); have hx8 : RoomN 12 w4 ⟨wr.heap.size, 0, none⟩ := room_of hb8; have hst8 : Only [wr.heap.size] w4 (w4.setCells wr.heap.size 0 (twL nx)) := Only.setCells (b := wr.heap.size) (by simp) (twL nx) 0 (Only.refl _ _); have hSs : Below w.heap.size w (w4.setCells wr.heap.size 0 (twL nx)) := hst8.below hS (fun r hr => by simp only [List.mem_singleton] at hr; rw [hr]; exact hS0.size) (Nat.le_refl _); have hGs : (w4.setCells wr.heap.size 0 (twL nx)).heap[g]? = some (.cells (twL now).toArray 67 (0, 0)) := hkeepO hst8 (by simp only [List.mem_singleton]; have := HGl.out; omega) hG; have HB8 := Lib.hid hb8; have HJ8 := Lib.hid ((hj.other hst8 (fun y hy => by simp only [List.mem_singleton] at hy; subst hy; exact ⟨by simp, HNr.out⟩)).unban (List.mem_append_right _ HBan.out.1) (List.mem_append_right _ HBan.out.2)); clear hj ho hb8 hst8 hG0))))
        all_goals
          go_wp2_with fail
          go_meet
          refine ⟨_, rfl, rfl, ?_, ?_, ?_, ?_⟩
        · exact Lib.hid ⟨heap_alloc_new _ _, by have := lt_of_heap hG; omega⟩
        · exact Lib.hid ((heap_alloc_lt (lt_of_heap hG)).trans hG)
        · exact Lib.hid (HA.out.alloc _)
        · exact Lib.hid (below_base hS hS.size (Below.new _ _))
        · exact Lib.hid ⟨heap_set_tw HB8.out, by have := HGl.out; omega⟩
        · exact Lib.hid hGs
        · exact HJ8
        · exact Lib.hid hSs
      case rest =>
        obtain ⟨g8, rfl, rfl, H8, HGx, HJx, HSx⟩ := hcut
        obtain ⟨H8b, H8n⟩ := H8.out
        have h8row := row_of H8b
        have h8ix := h8row.is (twL_length _)
        have h8cl := h8row.cells (twL_length _)
        have hroom := room_of HGx.out
        obtain ⟨wy, hwy⟩ : ∃ y, y = wc.setCells g 0 (twL nx) := ⟨_, rfl⟩
        have HN : Hid (BkS w wy j q g nx J1 P1 (k + 1)) := Lib.hid (by
          rw [hwy]
          exact ⟨HJx.out.box HGR.out _, HK1.out, HF1.out, heap_set_tw HGx.out, (Only.setCells (R := [g]) (b := g) (by simp) (twL nx) 0 (Only.refl _ _)).below HSx.out (fun r hr => by simp only [List.mem_singleton] at hr; rw [hr]; exact HG0.out) (Nat.le_refl _)⟩)
        clear H8b H8n h8row
        go_upto_region 8 with (fail)
        rw [← hwy]
        clear hwy
        go_wp2_with fail
        exact ⟨⟨k + 1, nx, J1, P1, rfl, rfl, by omega, by omega, HN⟩, by simp only [RowKit.intOf]; omega⟩
    · have hgo' : ¬ k < len ∨ k < len ∧ ¬ k < 20 := by omega
      have HL : Hid (Liv w wr j (q.banX [g]) g now J P 40 14 k) := Lib.hid ⟨HS.out.jp, HS.out.ks, HS.out.nf, HS.out.box, HS.out.be, HGR.out, HR.out⟩
      clear HS HBan HGR HG0
      rcases hgo' with hgo1 | ⟨hgo1, hgo2⟩
      all_goals
        have hC : k ≤ 1000 := by omega
        have HCl := Lib.hid (HL.out.clear hC)
        have HPn : Hid (J.cleared.pend = fun _ => none) := Lib.hid rfl
        obtain ⟨C, hCd⟩ : ∃ C, C = J.cleared := ⟨_, rfl⟩
        obtain ⟨P2, hP2⟩ : ∃ P2, P2 = clearP P J := ⟨_, rfl⟩
        rw [← hCd, ← hP2] at HCl
        rw [← hCd] at HPn
        clear hCd hP2 HL
        obtain ⟨m, hm⟩ : ∃ m : Nat, z % 14 = m := ⟨(z % 14).toNat, by omega⟩
        obtain ⟨kb, hkb⟩ : ∃ kb : Nat, bit % 512 = kb := ⟨(bit % 512).toNat, by omega⟩
        have hm14 : m < 14 := by omega
        have hkb5 : kb < 512 := by omega
        have HBr : Hid (∀ w', Calls Try.prog 20 #[.int .i64 z, .int .i64 14] w' fun e w'' => e = .returned (.int .i64 (m : Int)) ∧ w' = w'') := Lib.hid fun w' => by
          have := bring_any z 14 w' (by decide) (by decide)
          rw [hm] at this
          exact this
        have HBr2 : Hid (∀ w', Calls Try.prog 20 #[.int .i64 bit, .int .i64 512] w' fun e w'' => e = .returned (.int .i64 (kb : Int)) ∧ w' = w'') := Lib.hid fun w' => by
          have := bring_any bit 512 w' (by decide) (by decide)
          rw [hkb] at this
          exact this
        clear hm hkb
        go_wp2_with fail
        refine Calls.mono HCl.out ?_
        rintro e w2 ⟨rfl, hL⟩
        have HJ := Lib.hid hL
        clear hL HCl
        go_wp2_with fail
        refine Calls.mono (HBr.out _) ?_
        rintro e w' ⟨rfl, rfl⟩
        by_cases hm2 : m < 2
        · obtain ⟨t1, t2, t3⟩ := HJ.out.ks.turned_head HJ.out.nf hm2 hkb5
          have htu := HJ.out.plt.turn m kb
          rw [t1] at htu
          have HTu : Hid (Calls Try.prog 27 #[pv q, .int .i64 (m : Int), .int .i64 (kb : Int)] w2 fun e w' => e = .returned (.int .i64 0) ∧ Plt w w' (q.banX [g]) g now (P2.turn m kb)) := Lib.hid htu
          have HT2 := Lib.hid (openE_bad t2 t3)
          have hm2' : ¬ 2 ≤ m := by omega
          clear t1 t2 t3 htu HJ
          go_wp2_with fail
          refine Calls.mono (HBr2.out _) ?_
          rintro e w' ⟨rfl, rfl⟩
          go_wp2_with fail
          refine Calls.mono HTu.out ?_
          rintro e w6 ⟨rfl, hp6⟩
          have HP6 := Lib.hid hp6
          have HOp : Hid (Calls Try.prog 36 #[pv q] w6 fun e w' => OpenR w6 w' (q.banX [g]) (P2.turn m kb) e) := Lib.hid (open_any w6 (q.banX [g]) _ hp6.pl)
          clear hp6 HTu
          go_wp2_with fail
          refine Calls.mono HOp.out ?_
          intro e w7 hO
          unfold OpenR at hO
          rw [HT2.out, if_pos (by decide)] at hO
          obtain ⟨rfl, _, ho7⟩ := hO
          have HBe7 := Lib.hid (R_fresh HP6.out.be ho7 HP6.out.new)
          clear ho7 HP6 HOp
          go_wp2_with fail
          refine Calls.mono (awake7 w7) ?_
          rintro e w8 ⟨rfl, hb8⟩
          have HBe8 := Lib.hid (Below.step HBe7.out hb8)
          clear hb8
          go_wp2
          go_ret
          exact ⟨by simp, HBe8.out⟩
        · obtain ⟨i, rfl⟩ : ∃ i, m = i + 2 := ⟨m - 2, by omega⟩
          have hi12 : i < 12 := by omega
          obtain ⟨t1, t2, t3, t4, t5, t6, t7⟩ := HJ.out.ks.turned_home HJ.out.nf HPn.out (i := i) (by omega) hkb5
          have htu := HJ.out.plt.turn (2 + 14 + i : Nat) kb
          rw [t1] at htu
          rw [show ((2 + 14 + i : Nat) : Int) = 16 + ((i + 2 : Nat) : Int) - 2 by omega] at htu
          obtain ⟨P3, hP3⟩ : ∃ P3, P3 = P2.turn (2 + 14 + i : Nat) kb := ⟨_, rfl⟩
          rw [show (16 + ((i + 2 : Nat) : Int) - 2) = ((2 + 14 + i : Nat) : Int) by omega] at htu
          rw [← hP3] at htu t2 t3 t4 t5 t6 t7
          rw [show ((2 + 14 + i : Nat) : Int) = 16 + ((i + 2 : Nat) : Int) - 2 by omega] at htu
          have HTu : Hid (Calls Try.prog 27 #[pv q, .int .i64 (16 + ((i + 2 : Nat) : Int) - 2), .int .i64 (kb : Int)] w2 fun e w' => e = .returned (.int .i64 0) ∧ Plt w w' (q.banX [g]) g now P3) := Lib.hid htu
          have HT2 := Lib.hid (openE_good t2 t3)
          have HT3 := Lib.hid t3
          have HDe := Lib.hid (flush_alive t2).1
          have HRd : Hid (∀ k, k < 12 → k ≠ i → readE P3.flush C k = 0 ∧ readB P3.flush C k = oneB (now k) ∧ readJ P3.flush C k = C) := Lib.hid fun k h1 h2 => by
            have := t5 k (by omega) h2
            unfold nowF at this
            rw [if_pos h1] at this
            exact this
          have HRi := Lib.hid (show readE P3.flush C i = 70 ∧ readJ P3.flush C i = C from ⟨t6, t7⟩)
          clear t1 t2 t3 t4 t5 t6 t7 htu HJ hP3 hm2
          have hge : 2 ≤ i + 2 := by omega
          go_wp2_with fail
          refine Calls.mono (HBr2.out _) ?_
          rintro e w' ⟨rfl, rfl⟩
          go_wp2_with fail
          refine Calls.mono HTu.out ?_
          rintro e w6 ⟨rfl, hp6⟩
          have HP6 := Lib.hid hp6
          have HOp : Hid (Calls Try.prog 36 #[pv q] w6 fun e w' => OpenR w6 w' (q.banX [g]) P3 e) := Lib.hid (open_any w6 (q.banX [g]) _ hp6.pl)
          clear hp6 HTu
          go_wp2_with fail
          refine Calls.mono HOp.out ?_
          intro e w7 hO
          unfold OpenR at hO
          rw [HT2.out, if_neg (by decide)] at hO
          obtain ⟨o, J', e1, rfl, hj, hp, hm, ho⟩ := hO
          rw [HT3.out] at e1
          cases e1
          have HBox := Lib.hid (hkeepO ho HP6.out.out HP6.out.box)
          have HB7 := Lib.hid (R_fresh HP6.out.be ho HP6.out.new)
          have HJ7 := Lib.hid hj
          obtain ⟨Q, hQ⟩ : ∃ Q, Q = (q.banX [g]).banX [o.p, o.m] := ⟨_, rfl⟩
          rw [← hQ] at HJ7
          clear hj hp hm ho hQ HP6 HOp
          go_wp2_with fail
          go_loopw [18] (fun v wr => ∃ k : Nat, k ≤ 12 ∧ v = .int .i64 k ∧ Hid (JP wr o Q C P3.flush) ∧ Hid (Below w7.heap.size w7 wr)) (fun i _ => 12 - (RowKit.intOf i).toNat)
          case atStart => exact ⟨0, by omega, rfl, HJ7, Lib.hid (Below.refl _ _)⟩
          case round =>
            obtain ⟨k, hk, rfl, HJ, HB⟩ := hrel
            by_cases hlt : k < 12
            · have hrd := jread_bel HJ.out HDe.out k
              have hcell : ∀ w', Below wr.heap.size wr w' → w'.cell? ⟨g, k, none⟩ = some (.int .u8 ((now k).toNat : Int)) := fun w' hb => by
                rw [cell_of_row _ _ _ _ _ _ (hkeep (Below.step HB.out hb) HBox.out), List.getElem?_toArray, twL_get _ hlt]; rfl
              have HCell := Lib.hid hcell
              have HRead := Lib.hid hrd
              clear hrd hcell
              go_wp2_with fail
              refine Calls.mono HRead.out ?_
              rintro e w8 ⟨⟨v, rfl, hv⟩, hj, hb⟩
              have hc8 := HCell.out w8 hb
              by_cases hki : k = i
              · subst hki
                rw [HRi.out.1] at hv
                rw [HRi.out.2] at hj
                rw [HRi.out.1]
                unfold ReadV at hv
                rw [if_neg (by decide)] at hv
                subst hv
                have HJ8 := Lib.hid hj
                have HB8 := Lib.hid hb
                clear hj hb HRead
                go_wp2_with fail
                go_roundw
                case rel => exact ⟨k + 1, by omega, by go_num, HJ8, Lib.hid (Below.step HB.out HB8.out)⟩
                case measure => simp [RowKit.intOf]; omega
              · obtain ⟨r1, r2, r3⟩ := HRd.out k hlt hki
                rw [r1] at hv
                rw [r3] at hj
                rw [r1]
                unfold ReadV at hv
                rw [if_pos rfl] at hv
                obtain ⟨rg, ro, rfl, _, _, _⟩ := hv
                have HHas := Lib.hid (has_is hj HDe.out k (now k) (now k) (HRd.out k hlt hki))
                rw [beq_self_eq_true] at HHas
                have HJ8 := Lib.hid hj
                have HB8 := Lib.hid hb
                clear hj hb HRead r1 r2 r3
                go_wp2_with fail
                refine Calls.mono HHas.out ?_
                rintro e w9 ⟨rfl, hj, hb⟩
                have HJ9 := Lib.hid hj
                have HB9 := Lib.hid (Below.step HB8.out hb)
                clear hj hb HHas
                go_wp2_with fail
                go_roundw
                case rel => exact ⟨k + 1, by omega, by go_num, HJ9, Lib.hid (Below.step HB.out HB9.out)⟩
                case measure => simp [RowKit.intOf]; omega
            · obtain rfl : k = 12 := by omega
              have HBe := Lib.hid (Below.step HB7.out HB.out)
              go_wp2_with fail
              refine Calls.mono (awake7 _) ?_
              rintro e w9 ⟨rfl, hb⟩
              have HBe9 := Lib.hid (Below.step HBe.out hb)
              clear hb
              go_wp2
              go_ret
              exact ⟨by simp, HBe9.out⟩
end
end Go.Proofs.Ytdhidcoglioalaa.Walks
