/-
  The document's End.
-/
import Derived.Test.YtldcpnabgpjgiaaHandTM
import Derived.IntWalk
import Derived.Deep.RegionHeld3
import Derived.Deep.LoopGhost
namespace Go.Proofs.Ytldcpnabgpjgiaa.WalksT
open Go.Proofs.Ytldcpnabgpjgiaa.Walks
open Go.RowKit Plain
set_option linter.unusedVariables false
attribute [local go_sem] isLoad38_mk isLoad47_mk loadOp_mk headOf_mk blockOf_mk isMark_mk isRoot_mk isI_mk seqOf_mk byteOf_mk byteO_mk intOf_mk drew_setRow alloc_setRow row47_new row47_drew rowOf_drew rowOf_new row38_drew row47_alloc rowOf_alloc adOf_mk isPt_mk midS_drew midR_drew is47_drew midS_drewN midR_drewN is47_drewN mk_toA
attribute [local go_sem ↓] quiet_load47m quiet_eql47 exec_load47mg exec_load47m exec_load38 exec_load47 exec_alloc47 exec_store47 exec_build47 exec_build47z exec_eql47

def eachE (E : List (Int × Int × Int × Int)) (l : List Int) (f e : Int) (o : Int × Int × Int × Int) : Bool := decide (o.2.1 = e) && decide (2 * f + 1 ≤ (toldE E l e o.2.2 : Int))
theorem find_take_none {α : Type} {p : α → Bool} {L : List α} {k : Nat} (h : k < L.length) (h0 : (L.take k).find? p = none) (h1 : p L[k] = false) : (L.take (k + 1)).find? p = none := by
  rw [List.take_succ_eq_append_getElem h, List.find?_append, h0]
  simp [h1]
theorem find_take_some {α : Type} {p : α → Bool} {L : List α} {k : Nat} (h : k < L.length) (h0 : (L.take k).find? p = none) (h1 : p L[k] = true) : L.find? p = some L[k] := by
  conv => lhs; rw [← List.take_append_drop k L]
  rw [List.find?_append, h0, List.drop_eq_getElem_cons h, List.find?_cons, h1]
  rfl
theorem toldE_le (E : List (Int × Int × Int × Int)) (l : List Int) (e : Int) (x : Int × Int) : toldE E l e x ≤ E.length := by unfold toldE; exact List.length_filter_le _ _

set_option maxRecDepth 100000 in
set_option maxHeartbeats 4000000 in
theorem refEnd_any (p base : Nat) (B : Nat → Prop) (f : Int) (l : List Int) (O : List (Int × Int × List Int)) (E : List (Int × Int × Int × Int)) (of : Int) (oa : Option Addr) (ocap : Nat) (ol : List Int) (e : Int) (w : World)
    (hR : RefX w p base B f l O E) (hE : E.length ≤ 1000) (hS : ∀ x ∈ E, (0 ≤ x.2.2.1 ∧ x.2.2.1 ≤ 9007199254740991) ∧ 0 ≤ x.2.2.2 ∧ x.2.2.2 ≤ 255) (hI : Ints w oa ol) :
    Calls Try.prog 42 #[.pointer (some ⟨p, 0, none⟩), .agg #[.int .i64 of, .slice oa ol.length ocap], .int .i64 e] w (EndIs (refEnd E of ol e) w) := by
  have HR := Lib.hid hR
  have HS := Lib.hid hS
  have HI := Lib.hid hI
  clear hR hS hI
  go_enter Try.func42, Try.ntmps42
  go_wp2_with fail
  have HB2 := Lib.hid ((Below.new w (.cells #[.int .i64 of, .slice oa ol.length ocap] 24)).alloc (by simp) (.cells (markC 0 0) 47))
  obtain ⟨w2, hw2⟩ : ∃ w2, w2 = (w.alloc (.cells #[.int .i64 of, .slice oa ol.length ocap] 24)).alloc (.cells (markC 0 0) 47) := ⟨_, rfl⟩
  have hz2 : w.heap.size + 1 < w2.heap.size := by rw [hw2]; simp
  have b0 : w2.cell? ⟨w.heap.size, 0, none⟩ = some (.int .i64 of) := by rw [hw2]; exact keepc (Below.new _ _) crew_box2.1
  have b1 : w2.cell? ⟨w.heap.size, 1, none⟩ = some (.slice oa ol.length ocap) := by rw [hw2]; exact keepc (Below.new _ _) crew_box2.2
  have hr0 : w2.heap[w.heap.size + 1]? = some (.cells (markC 0 0) 47 (0, 0)) := by
    rw [hw2]
    have := heap_alloc_new (w.alloc (.cells #[.int .i64 of, .slice oa ol.length ocap] 24)) (.cells (markC 0 0) 47)
    simpa using this
  rw [← hw2]
  have hb2 : Below w.heap.size w w2 := by rw [hw2]; exact HB2.out
  clear hw2 HB2
  have HI2 := Lib.hid (HI.out.below hb2)
  have HB2 := Lib.hid hb2
  clear hb2
  refine Calls.mono (refCheck_any of oa ocap ol _ HI2.out) ?_
  rintro e1 w3 ⟨rfl, hb3⟩
  have b0 := keepc hb3 b0
  have b1 := keepc hb3 b1
  have hr0 := (hb3.block _ hz2).trans hr0
  have HB3 := Lib.hid (Below.step HB2.out hb3)
  have hz3 : w.heap.size + 1 < w3.heap.size := by have := hb3.size; omega
  clear hb3
  have hrow : Row47 w3 (w.heap.size + 1) := row47_of hr0 rfl
  cases hg : goodC of ol with
  | false =>
    have HG := Lib.hid hg
    rw [errC_bad hg]
    clear hg
    go_wp2
    have hr1 := setRow_heap w3 (w.heap.size + 1) _ (markC 0 0) _ _ hr0
    have r1 := run_loadVar_row (P := Try.prog) _ (w.heap.size + 1) 47 47 _ (0, 0) _ hr1 Try.underlying47 rfl (by rw [markC_size]; exact z47)
    refine bodyPost_ret (v := .tuple #[markV (0, 0), .bool false]) (by simp [results, Try.results42, asAddr, r1, Result.andThen, markV]) rfl ?_
    refine ⟨by simp [refEnd, HG.out], below_setRow HB3.out (by omega) _⟩
  | true =>
    have HG := Lib.hid hg
    rw [errC_good hg]
    have hl7 := good_short hg
    have hmost : mostC of ol = 2 * of + 1 := by simp [mostC, hg]
    have hof := goodC_len hg
    have hof0 := hof.1
    have hof2 := hof.2.1
    have HM := Lib.hid hmost
    clear hg hof hmost
    go_wp2_with fail
    go_loopw [8] (fun iv wr => ∃ k : Nat, k ≤ E.length ∧ iv = .int .i64 k ∧ Hid ((E.take k).find? (eachE E ol of e) = none) ∧ Below w3.heap.size w3 wr) (fun iv _ => E.length - (intOf iv).toNat)
    case atStart => exact ⟨0, by omega, rfl, Lib.hid rfl, Below.refl _ _⟩
    case round =>
      obtain ⟨k, hk, rfl, HK, hbr⟩ := hrel
      have HBr := Lib.hid (Below.step HB3.out hbr)
      have b0 := keepc hbr b0
      have b1 := keepc hbr b1
      have hr0 := (hbr.block _ hz3).trans hr0
      have hzr : w.heap.size + 1 < wr.heap.size := by have := hbr.size; omega
      clear hrow
      have hrow : Row47 wr (w.heap.size + 1) := row47_of hr0 rfl
      by_cases hlt : k < E.length
      · obtain ⟨g, gcap, hv, hle, hmx, hat⟩ := HR.out.endAt (by omega)
        obtain ⟨y0, y1, y2⟩ := hat k hlt
        have hgw : g < w.heap.size := block_lt_of_cell y1
        have hpw : p < w.heap.size := block_lt_of_cell hv
        have HAT := Lib.hid hat
        obtain ⟨hok1, hok2⟩ := HS.out _ (List.getElem_mem hlt)
        have HKE := Lib.hid (fun h => find_take_none hlt HK.out h)
        have HKS := Lib.hid (fun h => find_take_some hlt HK.out h)
        obtain ⟨ek, hek⟩ : ∃ x, x = E[k].2.1 := ⟨_, rfl⟩
        obtain ⟨sk, hsk⟩ : ∃ x, x = E[k].2.2.1 := ⟨_, rfl⟩
        obtain ⟨rk, hrk⟩ : ∃ x, x = E[k].2.2.2 := ⟨_, rfl⟩
        have HX : Hid (E[k].2.2 = (sk, rk)) := Lib.hid (by rw [hsk, hrk])
        rw [← hek] at y1
        rw [← hsk, ← hrk] at y2
        rw [← hsk] at hok1
        rw [← hrk] at hok2
        have HEK := Lib.hid hek
        have hokk := okMark_mk (s := sk) (r := rk) (by omega) hok2
        have HY2 := Lib.hid y2
        have y1 := keepc HBr.out y1
        have hv := keepc HBr.out hv
        clear hat y0 hek hsk hrk y2 HK
        go_wp2_with fail
        go_loopw [10, 9] (fun jv mv wi => ∃ j t : Nat, j ≤ E.length ∧ t ≤ j ∧ jv = .int .i64 j ∧ mv = .int .i64 t ∧ Hid (t = toldE (E.take j) ol e (sk, rk)) ∧ Below wr.heap.size wr wi) (fun jv _ _ => E.length - (intOf jv).toNat)
        case atStart => exact ⟨0, 0, by omega, by omega, rfl, rfl, Lib.hid rfl, Below.refl _ _⟩
        case round =>
          obtain ⟨j, t, hj, htj, rfl, rfl, HTJ, hbi⟩ := hrel
          have HBi := Lib.hid (Below.step HBr.out hbi)
          have b0 := keepc hbi b0
          have b1 := keepc hbi b1
          have hr0 := (hbi.block _ hzr).trans hr0
          have y1 := keepc hbi y1
          have hv := keepc hbi hv
          have hk0 : (0 : Int) ≤ (k : Int) := by omega
          have hk1 : (k : Int) < (E.length : Int) := by omega
          have hzi : w.heap.size + 1 < wr.heap.size := by have := hbi.size; omega
          clear hrow
          by_cases hlj : j < E.length
          · obtain ⟨z0, z1, z2⟩ := HAT.out j hlj
            obtain ⟨hoj1, hoj2⟩ := HS.out _ (List.getElem_mem hlj)
            have hA := toldE_take_succ hlj ol e (sk, rk)
            rw [← HTJ.out] at hA
            have HHAS : Hid (hasC of ol E[j].1 = decide (E[j].1 ∈ ol)) := Lib.hid (by simp [hasC, HG.out])
            obtain ⟨nj, hnj⟩ : ∃ x, x = E[j].1 := ⟨_, rfl⟩
            obtain ⟨ej, hej⟩ : ∃ x, x = E[j].2.1 := ⟨_, rfl⟩
            obtain ⟨sj, hsj⟩ : ∃ x, x = E[j].2.2.1 := ⟨_, rfl⟩
            obtain ⟨rj, hrj⟩ : ∃ x, x = E[j].2.2.2 := ⟨_, rfl⟩
            rw [show E[j].2.2 = (sj, rj) by rw [hsj, hrj], ← hej, ← hnj] at hA
            rw [← hnj] at z0 HHAS
            rw [← hej] at z1
            rw [← hsj, ← hrj] at z2
            rw [← hsj] at hoj1
            rw [← hrj] at hoj2
            have HA := Lib.hid hA
            have hokj := okMark_mk (s := sj) (r := rj) (by omega) hoj2
            have z0 := keepc HBi.out z0
            have z1 := keepc HBi.out z1
            have z2 := z2.below HBi.out
            have y2 := HY2.out.below HBi.out
            have hj0 : (0 : Int) ≤ (j : Int) := by omega
            have hj1 : (j : Int) < (E.length : Int) := by omega
            clear hnj hej hsj hrj hA
            by_cases hje : ej = e
            case neg =>
              have hd : (ej == e) = false := beq_eq_false_iff_ne.2 hje
              go_wp2_with fail
              go_quiet (fail)
              go_wp2
              go_roundw
              case rel => exact ⟨j + 1, t, by omega, by omega, by go_num, rfl, Lib.hid (by rw [HA.out, if_neg (fun hh => hje hh.1)]; rfl), below_drewN hbi _⟩
              case measure => simp [intOf]; omega
            subst hje
            by_cases hmk : sj = sk ∧ rj = rk
            case neg =>
              have hd : (decide (sj = sk) && decide (rj = rk)) = false := by rw [← Bool.decide_and]; exact decide_eq_false hmk
              have i1 := z2.is
              obtain ⟨i2, i3⟩ := z2.vals
              have i4 := y2.is
              obtain ⟨i5, i6⟩ := y2.vals
              have hmk' : ¬ ((sj, rj) = (sk, rk)) := fun hh => hmk (by simpa using hh)
              clear z2 y2 hmk
              go_wp2_with fail
              go_quiet (fail)
              go_wp2
              go_roundw
              case rel => exact ⟨j + 1, t, by omega, by omega, by go_num, rfl, Lib.hid (by rw [HA.out, if_neg (fun hh => hmk' hh.2.1)]; rfl), below_drewN hbi _⟩
              case measure => simp [intOf]; omega
            have hd : (decide (sj = sk) && decide (rj = rk)) = true := by rw [← Bool.decide_and]; exact decide_eq_true hmk
            have HMK : Hid ((sj, rj) = (sk, rk)) := Lib.hid (by rw [hmk.1, hmk.2])
            have i1 := z2.is
            obtain ⟨i2, i3⟩ := z2.vals
            have i4 := y2.is
            obtain ⟨i5, i6⟩ := y2.vals
            have Z2 := Lib.hid z2
            have Y2 := Lib.hid y2
            obtain ⟨hb, hhb⟩ : ∃ b, b = hasC of ol nj := ⟨_, rfl⟩
            have HHB := Lib.hid hhb
            have hI1 := HI.out.below HBi.out
            clear hmk z2 y2 hhb
            go_wp2_with fail
            go_region_held3 (fun w' => w'.cell? ⟨p, 3, none⟩ = some (.slice (some ⟨g, 0, none⟩) E.length gcap) ∧ w'.cell? ⟨w.heap.size, 0, none⟩ = some (.int .i64 of) ∧ w'.cell? ⟨w.heap.size, 1, none⟩ = some (.slice oa ol.length ocap) ∧ w'.cell? ⟨g, j * 35, none⟩ = some (.int .i64 nj) ∧ w'.cell? ⟨g, j * 35 + 1, none⟩ = some (.int .i64 ej) ∧ Is47 w' ⟨g, j * 35 + 2, none⟩ ∧ midS w' ⟨g, j * 35 + 2, none⟩ = sj ∧ midR w' ⟨g, j * 35 + 2, none⟩ = rj ∧ Is47 w' ⟨g, k * 35 + 2, none⟩ ∧ midS w' ⟨g, k * 35 + 2, none⟩ = sk ∧ midR w' ⟨g, k * 35 + 2, none⟩ = rk)
              (first | exact ⟨hv, b0, b1, z0, z1, i1, i2, i3, i4, i5, i6⟩ | exact ⟨keepc hb5 hv, keepc hb5 b0, keepc hb5 b1, keepc hb5 z0, keepc hb5 z1, j1, j2, j3, j4, j5, j6⟩)
              ((first
                | (go_at_call 80; (with_reducible refine Calls.mono (refHas_any of oa ocap ol nj _ ?_) ?_); (first | exact hI1 | exact hI1.drew); rintro e1 wd ⟨rfl, hb5⟩; rw [← HHB.out]; have hb5 : Below wr.heap.size wr wd := (by first | exact hb5 | exact Below.step (Below.refl _ _).drew hb5); have z2w := Z2.out.below hb5; have y2w := Y2.out.below hb5; have j1 := z2w.is; obtain ⟨j2, j3⟩ := z2w.vals; have j4 := y2w.is; obtain ⟨j5, j6⟩ := y2w.vals; clear z2w y2w)))
            cases hb with
            | true =>
              go_wp2
              go_roundw
              case rel => exact ⟨j + 1, t + 1, by omega, by omega, by go_num, by go_num, Lib.hid (by rw [HA.out, if_pos ⟨by trivial, HMK.out, by have := HHB.out.trans HHAS.out; simpa using this.symm⟩]), Below.step hbi hb5⟩
              case measure => simp [intOf]; omega
            | false =>
              go_wp2
              go_roundw
              case rel => exact ⟨j + 1, t, by omega, by omega, by go_num, rfl, Lib.hid (by rw [HA.out, if_neg (fun hh => by have := HHB.out.trans HHAS.out; simp [hh.2.2] at this)]; rfl), Below.step hbi hb5⟩
              case measure => simp [intOf]; omega
          · have hje : j = E.length := by omega
            subst hje
            have HTE : Hid (t = toldE E ol e (sk, rk)) := Lib.hid (by rw [HTJ.out, List.take_length])
            have hrow : Row47 wr (w.heap.size + 1) := row47_of hr0 rfl
            by_cases hee : ek = e
            case neg =>
              have hd : decide (ek = e) = false := decide_eq_false hee
              go_wp2
              go_roundw
              case rel => exact ⟨k + 1, by omega, by go_num, Lib.hid (HKE.out (by unfold eachE; rw [← HEK.out, hd]; rfl)), Below.step hbr hbi⟩
              case measure => simp [intOf]; omega
            have hd : decide (ek = e) = true := decide_eq_true hee
            have hI1 := Lib.hid (HI.out.below HBi.out)
            have ht1 : (t : Int) ≤ 1000 := by omega
            go_wp2_with fail
            refine Calls.mono (refMost_any of oa ocap ol _ hI1.out) ?_
            rintro e1 wd ⟨rfl, hb5⟩
            rw [HM.out]
            by_cases hmany : 2 * of + 1 ≤ (t : Int)
            · have hr6 := (hb5.block _ hzi).trans hr0
              have hry : Row47 wd (w.heap.size + 1) := row47_of hr6 rfl
              have y2 := (HY2.out.below HBi.out).below hb5
              have i4 := y2.is
              obtain ⟨i5, i6⟩ := y2.vals
              have hv := keepc hb5 hv
              have HB6 := Lib.hid (Below.step HBi.out hb5)
              clear hb5 hrow y2
              go_wp2
              have hr1 := setRow_heap wd (w.heap.size + 1) _ (markC sk rk) _ _ hr6
              have r1 := run_loadVar_row (P := Try.prog) _ (w.heap.size + 1) 47 47 _ (0, 0) _ hr1 Try.underlying47 rfl (by rw [markC_size]; exact z47)
              refine bodyPost_ret (v := .tuple #[markV (sk, rk), .bool true]) (by simp [results, Try.results42, asAddr, r1, Result.andThen, markV]) rfl ?_
              refine ⟨?_, below_setRow HB6.out (by omega) _⟩
              rw [show refEnd E of ol e = some (sk, rk) by
                unfold refEnd
                rw [HG.out, if_pos rfl]
                have := HKS.out (by unfold eachE; rw [← HEK.out, HX.out, hd, ← HTE.out]; simpa using hmany)
                unfold eachE at this
                rw [this, Option.map_some, HX.out]]
              rfl
            · have HB6 := Lib.hid (Below.step hbi hb5)
              clear hb5
              go_wp2
              go_roundw
              case rel => exact ⟨k + 1, by omega, by go_num, Lib.hid (HKE.out (by unfold eachE; rw [HX.out, ← HTE.out]; simp [hmany])), Below.step hbr HB6.out⟩
              case measure => simp [intOf]; omega
      · have hkk : k = E.length := by omega
        subst hkk
        obtain ⟨a3, cap3, hv⟩ := (HR.out.below HBr.out).len3
        have HE : Hid (E.find? (eachE E ol of e) = none) := Lib.hid (by have := HK.out; rwa [List.take_length] at this)
        go_wp2
        have hr1 := setRow_heap wr (w.heap.size + 1) _ (markC 0 0) _ _ hr0
        have r1 := run_loadVar_row (P := Try.prog) _ (w.heap.size + 1) 47 47 _ (0, 0) _ hr1 Try.underlying47 rfl (by rw [markC_size]; exact z47)
        refine bodyPost_ret (v := .tuple #[markV (0, 0), .bool false]) (by simp [results, Try.results42, asAddr, r1, Result.andThen, markV]) rfl ?_
        refine ⟨?_, below_setRow HBr.out (by omega) _⟩
        rw [show refEnd E of ol e = none by
          unfold refEnd
          rw [HG.out, if_pos rfl]
          have := HE.out
          unfold eachE at this
          rw [this]
          rfl]
        rfl
end Go.Proofs.Ytldcpnabgpjgiaa.WalksT
