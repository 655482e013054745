/-
  What was written is what is opened.
-/
import Derived.Test.YtdhidcoglioalaaJLv
import Derived.Test.YtdhidcoglioalaaJOpen
namespace Go.Proofs.Ytdhidcoglioalaa.Walks
open Go.RowKit Plain Jn
set_option linter.unusedVariables false
attribute [local go_sem ↓] exec_load67 exec_store67 exec_alloc67 exec_alloc103 exec_load67T exec_store67T Go.wp_at_zero Go.wp_at_succ
attribute [local go_sem] isPt_mk adOf_mk cellsV_mk twL_length setCells_drew oneN_tw roomN_new isRow_new cellL_new alloc_setN roomN_past isRow_past cellL_past roomN_drew isRow_drew cellL_drew setCells_size setCells_past
/-- A plate and a journal that live, so many deeds behind their making, and the law's box of blocks. -/
structure BkS (w wr : World) (j : JLoc) (q : PLoc) (g : Nat) (now : Nat → Byte) (J : Jn) (P : Pl) (c : Nat) : Prop where
  jp : JP wr j (q.banX [g]) J P
  ks : KS 40 14 P J now c
  nf : P.fails = false
  box : wr.heap[g]? = some (.cells (twL now).toArray 67 (0, 0))
  be : Below w.heap.size w wr
section
variable {w w' : World} {j : JLoc} {q : PLoc} {J J' : Jn} {P P' : Pl}
set_option maxRecDepth 20000 in
set_option maxHeartbeats 4000000 in
theorem journalBack_walk (a : Option Addr) (len cap : Nat) (w : World) (hI : Deedz w a len) : Calls Try.prog 11 #[.slice a len cap] w fun e w' => e = .returned (.bool true) ∧ Below w.heap.size w w' := by
  have hMd := made_is 40 14 (by decide) (by decide) (by decide)
  have HMd := Lib.hid hMd
  have HI := Lib.hid hI
  have hI1 := hI.1
  clear hMd hI
  go_enter Try.func11, Try.ntmps11
  go_wp2_with fail
  refine Calls.mono (HMd.out _) ?_
  rintro e w1 ⟨q, j, rfl, hj, hb, hR⟩
  have HJ : Hid (JP w1 j q (formatJ 14) (formatP (Pl.made 40) 14)) := Lib.hid hj
  have HB := Lib.hid hb
  have HR := Lib.hid hR
  clear hj hb hR
  obtain ⟨w2, hw2⟩ : ∃ x, x = w1.alloc (.cells (twL tw0).toArray 67) := ⟨_, rfl⟩
  obtain ⟨g, hg⟩ : ∃ g, g = w1.heap.size := ⟨_, rfl⟩
  have hb2 : Below w1.heap.size w1 w2 := by rw [hw2]; exact Below.new _ _
  have hlt : g < w2.heap.size := by rw [hw2, hg]; simp
  have hbox : w2.heap[g]? = some (.cells (twL tw0).toArray 67 (0, 0)) := by rw [hw2, hg]; exact heap_alloc_new _ _
  have hgR : g ∉ j.R q := fun hm => by have := HJ.out.lt _ hm; omega
  have hg0 : w.heap.size ≤ g := by rw [hg]; exact HB.out.size
  obtain ⟨_, hks, hf0⟩ := made_ks (n := 40) (log := 14) (by decide) (by decide) (by decide)
  have hst : BkS w w2 j q g tw0 (formatJ 14) (formatP (Pl.made 40) 14) 0 := ⟨HJ.out.banned hb2 (X := [g]) (fun x hx => by simp only [List.mem_singleton] at hx; subst hx; exact ⟨Nat.le_of_eq hg.symm, hlt⟩), hks, hf0, hbox, Below.step HB.out hb2⟩
  have HST := Lib.hid hst
  have HGR := Lib.hid hgR
  have HBan := Lib.hid (show j.p ∈ q.ban ∧ j.m ∈ q.ban from ⟨HJ.out.bp, HJ.out.bm⟩)
  have HG0 := Lib.hid hg0
  clear hb2 hlt hbox hgR hg0 hks hf0 hst HJ HB
  go_upto_region 3 with (fail)
  rw [← hw2, ← hg]
  clear hw2 hg
  go_wp2_with fail
  go_loopw [5, 7] (fun v5 i wr => ∃ (k : Nat) (now : Nat → Byte) (J : Jn) (P : Pl), v5 = .bool true ∧ i = .int .i64 k ∧ k ≤ 30 ∧ k ≤ len ∧ Hid (BkS w wr j q g now J P k)) (fun _ i _ => 30 - (RowKit.intOf i).toNat)
  case atStart => exact ⟨0, tw0, _, _, rfl, rfl, by omega, Nat.zero_le _, HST⟩
  case round =>
    obtain ⟨k, now, J, P, rfl, rfl, hk30, hklen, HS⟩ := hrel
    by_cases hgo : k < len ∧ k < 30
    · obtain ⟨hlt, hlt30⟩ := hgo
      have hIr := HI.out.2
      rcases hIr with h0 | ⟨b, off, rfl, hc⟩
      · omega
      obtain ⟨x, hx⟩ := hc k hlt
      obtain ⟨d, hd⟩ : ∃ d : Deed, d = ⟨x.L, x.B, x.clr⟩ := ⟨_, rfl⟩
      have hlen12 := (deedL_ok x.B x.L).len
      obtain ⟨hE, hK1, hF1⟩ := HS.out.ks.deed_ok HS.out.nf (by omega) d (by decide) (by rw [hd]; show (deedL x.B x.L).length + 1 ≤ 14; omega)
      obtain ⟨nx, hnx⟩ : ∃ nx, nx = deedN now d := ⟨_, rfl⟩
      rw [← hnx] at hK1
      have hhd : J.head < 4611686018427387904 := by have := HS.out.ks.head; omega
      have htn : J.turn < 4611686018427387904 := by have := HS.out.ks.turn; omega
      have HDoA : Hid (∀ w', Below wr.heap.size wr w' → Calls Try.prog 35 #[jv j, .agg (twL now).toArray, .agg #[.slice x.ba x.L.length x.bc, .int .u8 (x.B.toNat : Int), .bool x.clr, .int .i64 x.fail, .slice x.ka x.K.length x.kc]] w' fun e w'' => e = .returned (.tuple #[.agg (twL nx).toArray, .int .i64 0]) ∧ JP w'' j (q.banX [g]) (deedJ P J d) (deedP P J d) ∧ Only (j.R q) w' w'') := Lib.hid fun w' hb => by
        have := does_any (HS.out.jp.below hb) hhd htn now x.ba x.L.length x.bc x.L rfl ((hx.ok.i.below HS.out.be).below hb) x.B x.clr x.fail x.ka x.K.length x.kc
        rw [← hd, ← hnx, hE] at this
        exact this
      have HDoB : Hid (∀ w', Below wr.heap.size wr w' → wr.heap.size < w'.heap.size → Calls Try.prog 35 #[jv j, .agg (twL now).toArray, .agg #[.slice x.ba x.L.length x.bc, .int .u8 (x.B.toNat : Int), .bool x.clr, .int .i64 x.fail, .slice x.ka x.K.length x.kc]] w' fun e w'' => e = .returned (.tuple #[.agg (twL nx).toArray, .int .i64 0]) ∧ JP w'' j ((q.banX [g]).banX [wr.heap.size]) (deedJ P J d) (deedP P J d) ∧ Only (j.R q) w' w'') := Lib.hid fun w' hbb hl => by
        have := does_any (HS.out.jp.banned hbb (X := [wr.heap.size]) (fun y hy => by simp only [List.mem_singleton] at hy; subst hy; exact ⟨Nat.le_refl _, hl⟩)) hhd htn now x.ba x.L.length x.bc x.L rfl ((hx.ok.i.below HS.out.be).below hbb) x.B x.clr x.fail x.ka x.K.length x.kc
        rw [← hd, ← hnx, hE] at this
        exact this
      have HNr : Hid (wr.heap.size ∉ j.R q) := Lib.hid fun hm => Nat.lt_irrefl _ (HS.out.jp.lt _ hm)
      obtain ⟨J1, hJ1⟩ : ∃ J1, J1 = deedJ P J d := ⟨_, rfl⟩
      obtain ⟨P1, hP1⟩ : ∃ P1, P1 = deedP P J d := ⟨_, rfl⟩
      rw [← hJ1, ← hP1] at HDoA HDoB hK1
      rw [← hP1] at hF1
      have HK1 := Lib.hid hK1
      have HF1 := Lib.hid hF1
      have hgl : g < wr.heap.size := lt_of_heap HS.out.box
      have HGl := Lib.hid hgl
      have MK : Hid (∀ w', Below w.heap.size w w' → w'.heap[g]? = some (.cells (twL now).toArray 67 (0, 0)) → w'.cell? ⟨b, off + k * 5, none⟩ = some (.slice x.ba x.L.length x.bc) ∧ w'.cell? ⟨b, off + k * 5 + 1, none⟩ = some (.int .u8 (x.B.toNat : Int)) ∧ w'.cell? ⟨b, off + k * 5 + 2, none⟩ = some (.bool x.clr) ∧ w'.cell? ⟨b, off + k * 5 + 3, none⟩ = some (.int .i64 x.fail) ∧ w'.cell? ⟨b, off + k * 5 + 4, none⟩ = some (.slice x.ka x.K.length x.kc) ∧ IsRow 12 w' ⟨g, 0, none⟩ ∧ cellL 12 w' ⟨g, 0, none⟩ = twL now) := Lib.hid fun w' hb hg => by
        have hr := row_of hg
        exact ⟨keepc hb hx.c0, keepc hb hx.c1, keepc hb hx.c2, keepc hb hx.c3, keepc hb hx.c4, hr.is (twL_length _), hr.cells (twL_length _)⟩
      have hS : Below w.heap.size w wr := HS.out.be
      have hG : wr.heap[g]? = some (.cells (twL now).toArray 67 (0, 0)) := HS.out.box
      have hGd : wr.drew.heap[g]? = some (.cells (twL now).toArray 67 (0, 0)) := hG
      have hGa : (wr.drew.alloc (.cells (twL tw0).toArray 67)).heap[g]? = some (.cells (twL now).toArray 67 (0, 0)) := (heap_alloc_lt hgl).trans hG
      have hW : Below wr.heap.size wr wr := Below.refl _ _
      have hWd : Below wr.heap.size wr (wr.drew.alloc (.cells (twL tw0).toArray 67)) := (Below.refl _ _).drew.alloc (Nat.le_refl _) _
      have hWa : Below wr.heap.size wr (wr.alloc (.cells (twL tw0).toArray 67)) := (Below.refl _ _).alloc (Nat.le_refl _) _
      have hWad : Below wr.heap.size wr (wr.alloc (.cells (twL tw0).toArray 67)).drew := hWa.drew
      have hSz : wr.heap.size < (wr.drew.alloc (.cells (twL tw0).toArray 67)).heap.size := by simp
      have hSza : wr.heap.size < (wr.alloc (.cells (twL tw0).toArray 67)).heap.size := by simp
      have hSzad : wr.heap.size < (wr.alloc (.cells (twL tw0).toArray 67)).drew.heap.size := by simp
      have hSa : Below w.heap.size w (wr.alloc (.cells (twL tw0).toArray 67)) := below_base hS hS.size (Below.new _ _)
      have hGaa : (wr.alloc (.cells (twL tw0).toArray 67)).heap[g]? = some (.cells (twL now).toArray 67 (0, 0)) := hGa
      have hSad : Below w.heap.size w (wr.alloc (.cells (twL tw0).toArray 67)).drew := hSa.drew
      have hGad : (wr.alloc (.cells (twL tw0).toArray 67)).drew.heap[g]? = some (.cells (twL now).toArray 67 (0, 0)) := hGa
      have hSs := hS
      have hGs := hG
      obtain ⟨S0, S1, S2, S3, S4, S5, S6⟩ := MK.out wr hS hG
      clear hd hlen12 hE hK1 hF1 hnx hhd htn hJ1 hP1 hgl hc hx
      go_upto_region 6 with (fail)
      go_cut [8, 9] from 35 to 43 (fun v8 v9 wx => ∃ g8, v8 = .pointer (some ⟨g8, 0, none⟩) ∧ v9 = .int .i64 0 ∧ Hid (wx.heap[g8]? = some (.cells (twL nx).toArray 67 (0, 0)) ∧ g8 ≠ g) ∧ Hid (wx.heap[g]? = some (.cells (twL now).toArray 67 (0, 0))) ∧ Hid (JP wx j (q.banX [g]) J1 P1) ∧ Hid (Below w.heap.size w wx))
      case first =>
        obtain ⟨T, hT⟩ : ∃ T : TypeId, T = 67 := ⟨_, rfl⟩
        rw [show Op.load 67 (Operand.tmp 6) = Op.load T (Operand.tmp 6) by rw [hT], show Op.store 67 (Operand.tmp 8) (Operand.tmp 42) = Op.store T (Operand.tmp 8) (Operand.tmp 42) by rw [hT]]
        have HT := Lib.hid hT
        clear hT
        go_region_held3 (fun w' => w'.cell? ⟨b, off + k * 5, none⟩ = some (.slice x.ba x.L.length x.bc) ∧ w'.cell? ⟨b, off + k * 5 + 1, none⟩ = some (.int .u8 (x.B.toNat : Int)) ∧ w'.cell? ⟨b, off + k * 5 + 2, none⟩ = some (.bool x.clr) ∧ w'.cell? ⟨b, off + k * 5 + 3, none⟩ = some (.int .i64 x.fail) ∧ w'.cell? ⟨b, off + k * 5 + 4, none⟩ = some (.slice x.ka x.K.length x.kc) ∧ IsRow 12 w' ⟨g, 0, none⟩ ∧ cellL 12 w' ⟨g, 0, none⟩ = twL now)
          (first | with_reducible exact MK.out _ hS hG | with_reducible exact MK.out _ hS.drew hGd | with_reducible exact MK.out _ (below_base hS.drew hS.size (Below.new _ _)) hGa | with_reducible exact MK.out _ (below_base hS hS.size (Below.new _ _)) ((heap_alloc_lt (lt_of_heap hG)).trans hG) | with_reducible exact MK.out _ hSad hGad | with_reducible exact MK.out _ hSa hGaa | with_reducible exact MK.out _ hSs hGs)
          ((first
          | (go_at_call 35; ((with_reducible refine Calls.mono (HDoA.out _ ?_) ?_); (first | with_reducible exact hW | with_reducible exact hW.drew); rintro e w4 ⟨rfl, hj, ho⟩; have hJ4 := hj; have hS0 := hS; have hG0 := hG; have hS : Below w.heap.size w w4 := (by first | exact R_fresh hS0 ho HR.out | exact R_fresh hS0.drew ho HR.out); have hG : w4.heap[g]? = some (.cells (twL now).toArray 67 (0, 0)) := hkeepO ho HGR.out hG0; have HA : Hid (JP w4 j (q.banX [g]) J1 P1) := Lib.hid hJ4; clear hj ho hJ4 hG0))
          | (go_at_call 35; ((with_reducible refine Calls.mono (HDoB.out _ ?_ ?_) ?_); (first | with_reducible exact hWd | with_reducible exact hWa | with_reducible exact hWad); (first | with_reducible exact hSz | with_reducible exact hSza | with_reducible exact hSzad); rintro e w4 ⟨rfl, hj, ho⟩; have hS0 := hS; have hG0 := hG; have hS : Below w.heap.size w w4 := (by first | exact R_fresh (below_base hS0.drew hS0.size (Below.new _ _)) ho HR.out | exact R_fresh (below_base hS0 hS0.size (Below.new _ _)) ho HR.out | exact R_fresh (below_base hS0 hS0.size (Below.new _ _)).drew ho HR.out); have hG : w4.heap[g]? = some (.cells (twL now).toArray 67 (0, 0)) := hkeepO ho HGR.out hGa; have hb8 : w4.heap[wr.heap.size]? = some (.cells (twL tw0).toArray 67 (0, 0)) := hkeepO ho HNr.out (heap_alloc_new _ _); have hx8 : RoomN 12 w4 ⟨wr.heap.size, 0, none⟩ := room_of hb8; have hst8 : Only [wr.heap.size] w4 (w4.setCells wr.heap.size 0 (twL nx)) := Only.setCells (b := wr.heap.size) (by simp) (twL nx) 0 (Only.refl _ _); have hSs : Below w.heap.size w (w4.setCells wr.heap.size 0 (twL nx)) := hst8.below hS (fun r hr => by simp only [List.mem_singleton] at hr; rw [hr]; exact hS0.size) (Nat.le_refl _); have hGs : (w4.setCells wr.heap.size 0 (twL nx)).heap[g]? = some (.cells (twL now).toArray 67 (0, 0)) := hkeepO hst8 (by simp only [List.mem_singleton]; have := HGl.out; omega) hG; have HB8 := Lib.hid hb8; have HJ8 := Lib.hid ((hj.other hst8 (fun y hy => by simp only [List.mem_singleton] at hy; subst hy; exact ⟨by simp, HNr.out⟩)).unban (List.mem_append_right _ HBan.out.1) (List.mem_append_right _ HBan.out.2)); clear hj ho hb8 hst8 hG0))))
        all_goals
          go_wp2_with fail
          go_meet
          refine ⟨_, rfl, rfl, ?_, ?_, ?_, ?_⟩
        · exact Lib.hid ⟨heap_alloc_new _ _, by have := lt_of_heap hG; omega⟩
        · exact Lib.hid ((heap_alloc_lt (lt_of_heap hG)).trans hG)
        · exact Lib.hid (HA.out.alloc _)
        · exact Lib.hid (below_base hS hS.size (Below.new _ _))
        · exact Lib.hid ⟨heap_set_tw HB8.out, by have := HGl.out; omega⟩
        · exact Lib.hid hGs
        · exact HJ8
        · exact Lib.hid hSs
      case rest =>
        obtain ⟨g8, rfl, rfl, H8, HGx, HJx, HSx⟩ := hcut
        obtain ⟨H8b, H8n⟩ := H8.out
        have h8row := row_of H8b
        have h8ix := h8row.is (twL_length _)
        have h8cl := h8row.cells (twL_length _)
        have hroom := room_of HGx.out
        obtain ⟨wy, hwy⟩ : ∃ y, y = wc.setCells g 0 (twL nx) := ⟨_, rfl⟩
        have HN : Hid (BkS w wy j q g nx J1 P1 (k + 1)) := Lib.hid (by
          rw [hwy]
          exact ⟨HJx.out.box HGR.out _, HK1.out, HF1.out, heap_set_tw HGx.out, (Only.setCells (R := [g]) (b := g) (by simp) (twL nx) 0 (Only.refl _ _)).below HSx.out (fun r hr => by simp only [List.mem_singleton] at hr; rw [hr]; exact HG0.out) (Nat.le_refl _)⟩)
        clear H8b H8n h8row
        go_upto_region 8 with (fail)
        rw [← hwy]
        clear hwy
        go_wp2_with fail
        exact ⟨⟨k + 1, nx, J1, P1, rfl, rfl, by omega, by omega, HN⟩, by simp only [RowKit.intOf]; omega⟩
    · have hgo' : ¬ k < len ∨ k < len ∧ ¬ k < 30 := by omega
      have HL : Hid (Liv w wr j (q.banX [g]) g now J P 40 14 k) := Lib.hid ⟨HS.out.jp, HS.out.ks, HS.out.nf, HS.out.box, HS.out.be, HGR.out, HR.out⟩
      clear HS HBan HGR HG0
      rcases hgo' with hgo1 | ⟨hgo1, hgo2⟩
      all_goals
        have hC : k ≤ 1000 := by omega
        have HOp : Hid (Calls Try.prog 36 #[pv q] wr fun e w' => ∃ o Q', e = .returned (.tuple #[jv o, .int .i64 0]) ∧ pv Q' = pv q ∧ Liv w w' o Q' g now J P.flush 40 14 k ∧ ∀ i, Liv w wr i (q.banX [g]) g now J P 40 14 k → Liv w w' i Q' g now J P.flush 40 14 k) := Lib.hid HL.out.open_
        go_wp2_with fail
        refine Calls.mono HOp.out ?_
        rintro e w2 ⟨kk, Q1, rfl, hv1, hL1, hA1⟩
        have HJ1 := Lib.hid (hA1 _ HL.out)
        have HK1 := Lib.hid hL1
        have hop := hL1.open_
        rw [hv1] at hop
        have HOp2 := Lib.hid hop
        clear hL1 hA1 HOp HL hop
        go_wp2_with fail
        refine Calls.mono HOp2.out ?_
        rintro e w3 ⟨o, Q2, rfl, hv2, hL2, hA2⟩
        have HJ := Lib.hid (hA2 _ HJ1.out)
        have HK := Lib.hid (hA2 _ HK1.out)
        have HO := Lib.hid hL2
        clear hL2 hA2 HOp2 HJ1 HK1
        have HAl := Lib.hid (HJ.out.all (by decide))
        have hix := HJ.out.ix
        have hcl := HJ.out.cl
        go_wp2_with fail
        refine Calls.mono HAl.out ?_
        rintro e w4 ⟨rfl, hb⟩
        clear hix hcl HAl
        replace HJ := Lib.hid (HJ.out.below hb)
        replace HK := Lib.hid (HK.out.below hb)
        replace HO := Lib.hid (HO.out.below hb)
        clear hb
        have HAl := Lib.hid (HK.out.all (by decide))
        have hix := HJ.out.ix
        have hcl := HJ.out.cl
        go_wp2_with fail
        refine Calls.mono HAl.out ?_
        rintro e w5 ⟨rfl, hb⟩
        clear hix hcl HAl
        replace HJ := Lib.hid (HJ.out.below hb)
        replace HK := Lib.hid (HK.out.below hb)
        replace HO := Lib.hid (HO.out.below hb)
        clear hb
        have HAl := Lib.hid (HO.out.all (by decide))
        have hix := HJ.out.ix
        have hcl := HJ.out.cl
        go_wp2_with fail
        refine Calls.mono HAl.out ?_
        rintro e w6 ⟨rfl, hb⟩
        clear hix hcl HAl
        replace HO := Lib.hid (HO.out.below hb)
        clear hb
        clear HK
        have hc := HO.out.clear hC
        have HFree : Hid (J.cleared.free = 13) := Lib.hid (by rw [cleared_free HO.out.ks.live.1, HO.out.ks.log])
        have HCl := Lib.hid hc
        clear hc HO HJ
        go_wp2_with fail
        refine Calls.mono HCl.out ?_
        rintro e w7 ⟨rfl, hL⟩
        have HJ := Lib.hid hL
        clear hL HCl
        have HFr := Lib.hid (HJ.out.free HFree.out)
        go_wp2_with fail
        refine Calls.mono HFr.out ?_
        rintro e w8 ⟨rfl, hb⟩
        replace HJ := Lib.hid (HJ.out.below hb)
        clear hb HFr
        have HAl := Lib.hid (HJ.out.all (by decide))
        have hix := HJ.out.ix
        have hcl := HJ.out.cl
        go_wp2_with fail
        refine Calls.mono HAl.out ?_
        rintro e w9 ⟨rfl, hb⟩
        clear hix hcl HAl
        replace HJ := Lib.hid (HJ.out.below hb)
        clear hb
        have hcr := HJ.out.plt.crash
        rw [hv2] at hcr
        have HCr := Lib.hid hcr
        clear hcr
        go_wp2_with fail
        refine Calls.mono HCr.out ?_
        rintro e wa ⟨rfl, hp⟩
        have hbo := hp.boot
        rw [hv2] at hbo
        have HBo := Lib.hid hbo
        clear hp hbo HCr
        go_wp2_with fail
        refine Calls.mono HBo.out ?_
        rintro e wb ⟨rfl, hp⟩
        have hop := HJ.out.back hp
        rw [hv2] at hop
        have HOp := Lib.hid hop
        clear hp hop HBo HJ
        go_wp2_with fail
        refine Calls.mono HOp.out ?_
        rintro e wd ⟨oo, Q3, rfl, hL⟩
        have HJ := Lib.hid hL
        clear hL HOp
        have HAl := Lib.hid (HJ.out.all (by decide))
        have hix := HJ.out.ix
        have hcl := HJ.out.cl
        go_wp2_with fail
        refine Calls.mono HAl.out ?_
        rintro e we ⟨rfl, hb⟩
        clear hix hcl HAl
        replace HJ := Lib.hid (HJ.out.below hb)
        clear hb
        have HFr := Lib.hid (HJ.out.free HFree.out)
        go_wp2_with fail
        refine Calls.mono HFr.out ?_
        rintro e wf ⟨rfl, hb⟩
        replace HJ := Lib.hid (HJ.out.below hb)
        clear hb HFr
        go_wp2_with fail
        refine Calls.mono (awake7 wf) ?_
        rintro e wh ⟨rfl, hb⟩
        have HBe := Lib.hid (Below.step HJ.out.be hb)
        clear hb HJ
        go_wp2
        go_ret
        exact ⟨by simp, HBe.out⟩
end
end Go.Proofs.Ytdhidcoglioalaa.Walks
