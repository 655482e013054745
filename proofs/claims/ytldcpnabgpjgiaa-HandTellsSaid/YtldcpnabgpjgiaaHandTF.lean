/-
  The walk of Hand.End.
-/
import Derived.Test.YtldcpnabgpjgiaaHandTE
namespace Go.Proofs.Ytldcpnabgpjgiaa.WalksT
open Go.Proofs.Ytldcpnabgpjgiaa.Walks
open Go.RowKit Plain
set_option linter.unusedVariables false
attribute [local go_sem] headOf_mk blockOf_mk isMark_mk isRoot_mk isI_mk seqOf_mk byteOf_mk byteO_mk intOf_mk drew_setRow alloc_setRow row47_new row47_drew rowOf_drew rowOf_new row38_drew
attribute [local go_sem ↓] exec_load38 exec_load47 exec_alloc47 exec_store47 exec_build47 exec_build47z exec_eql47

def EndIs (M : Option (Int × Int)) (w : World) (e : Ending) (w' : World) : Prop := e = .returned (.tuple #[markV (M.getD (0, 0)), .bool M.isSome]) ∧ Below w.heap.size w w'
theorem HandX.okE {w : World} {q : HLoc} {N : Nat} {f : Int} {l : List Int} {O1 O3 O5 : List (Int × Int × List Int)} {E2 E4 : List (Int × Int × Int × Int)} (h : HandX w q N f l O1 O3 O5 E2 E4) (n e : Int) :
    okMark (.agg (markC ((endOf E2 n e).getD (0, 0)).1 ((endOf E2 n e).getD (0, 0)).2)) := by
  cases hc : endOf E2 n e with
  | none => exact okMark_mk (by simp) (by simp)
  | some x =>
    unfold endOf at hc
    simp only [Option.map_eq_some_iff] at hc
    obtain ⟨o, ho, rfl⟩ := hc
    have h1 := h.inv2 o (List.mem_of_find?_eq_some ho)
    exact okMark_mk (by simp; omega) (by simp; omega)

theorem row47_at {w : World} {g : Nat} {s r : Int} (h : w.heap[g]? = some (.cells (markC s r) 47 (0, 0))) : Row47 w g ∧ rowOf w g = markC s r := ⟨row47_of h rfl, rowOf_of h⟩
attribute [local go_sem] row47_alloc rowOf_alloc
def many (T : Bool) (E : List (Int × Int × Int × Int)) (l : List Int) (e : Int) (x : Int × Int) : Nat := if T then enders E l e x else 0
theorem many_zero (T : Bool) (E : List (Int × Int × Int × Int)) (e : Int) (x : Int × Int) : many T E [] e x = 0 := by cases T <;> rfl
theorem many_succ {T : Bool} {E : List (Int × Int × Int × Int)} {l : List Int} {e : Int} {x : Int × Int} {k : Nat} (h : k < l.length) : many T E (l.take (k + 1)) e x = many T E (l.take k) e x + (if T = true ∧ endOf E l[k] e = some x then 1 else 0) := by
  cases T with
  | false => simp [many]
  | true => simp only [many, if_true, true_and]; exact enders_take_succ h
theorem endTo_step {E : List (Int × Int × Int × Int)} {l : List Int} {most e y : Int} {r : List Int} {x : Int × Int} {T : Bool} (hT : T = (endOf E y e).isSome) (hx : (endOf E y e).getD (0, 0) = x) (hm : 1 ≤ most) :
    endTo E l most e (y :: r) = if most ≤ (many T E l e x : Int) then some x else endTo E l most e r := by
  conv => lhs; unfold endTo
  subst hT
  cases hc : endOf E y e with
  | none => simp [many]; omega
  | some z => rw [hc] at hx; simp at hx; subst hx; simp [many]

set_option maxRecDepth 100000 in
set_option maxHeartbeats 4000000 in
theorem end_any (q : HLoc) (N : Nat) (f : Int) (l : List Int) (O : List (Int × Int × List Int)) (E : List (Int × Int × Int × Int)) (of : Int) (oa : Option Addr) (ocap : Nat) (ol : List Int) (e : Int) (w : World)
    (hH : HandAt w q N f l O E) (he : Wf e) (hI : Ints w oa ol) :
    Calls Try.prog 41 #[.pointer (some ⟨q.p, 0, none⟩), .agg #[.int .i64 of, .slice oa ol.length ocap], .int .i64 e] w (EndIs (endIs E of ol e) w) := by
  have HI := Lib.hid hI
  have hmm := hI.1
  have HH := Lib.hid hH
  clear hH hI
  go_enter Try.func41, Try.ntmps41
  go_wp2_with fail
  have HB2 := Lib.hid ((Below.new w (.cells #[.int .i64 of, .slice oa ol.length ocap] 24)).alloc (by simp) (.cells (markC 0 0) 47))
  obtain ⟨w2, hw2⟩ : ∃ w2, w2 = (w.alloc (.cells #[.int .i64 of, .slice oa ol.length ocap] 24)).alloc (.cells (markC 0 0) 47) := ⟨_, rfl⟩
  have hz2 : w.heap.size + 1 < w2.heap.size := by rw [hw2]; simp
  have b0 : w2.cell? ⟨w.heap.size, 0, none⟩ = some (.int .i64 of) := by rw [hw2]; exact keepc (Below.new _ _) crew_box2.1
  have b1 : w2.cell? ⟨w.heap.size, 1, none⟩ = some (.slice oa ol.length ocap) := by rw [hw2]; exact keepc (Below.new _ _) crew_box2.2
  have hr0 : w2.heap[w.heap.size + 1]? = some (.cells (markC 0 0) 47 (0, 0)) := by
    rw [hw2]
    have := heap_alloc_new (w.alloc (.cells #[.int .i64 of, .slice oa ol.length ocap] 24)) (.cells (markC 0 0) 47)
    simpa using this
  rw [← hw2]
  have hb2 : Below w.heap.size w w2 := by rw [hw2]; exact HB2.out
  clear hw2 HB2
  have H2 := Lib.hid (HH.out.below hb2)
  have c2 := H2.out.c2
  have HI2 := Lib.hid (HI.out.below hb2)
  have HB2 := Lib.hid hb2
  clear hb2
  refine Calls.mono (none_any q.p (some q.r1) _ c2) ?_
  rintro e0 w' ⟨rfl, rfl⟩
  go_wp2_with fail
  refine Calls.mono (check_any of oa ocap ol _ HI2.out) ?_
  rintro e1 w3 ⟨rfl, hb3⟩
  have b0 := keepc hb3 b0
  have b1 := keepc hb3 b1
  have hr0 := (hb3.block _ hz2).trans hr0
  have HB3 := Lib.hid (Below.step HB2.out hb3)
  have hz3 : w.heap.size + 1 < w3.heap.size := by have := hb3.size; omega
  clear hb3 c2
  have hrow : Row47 w3 (w.heap.size + 1) := row47_of hr0 rfl
  cases hg : goodC of ol with
  | false =>
    have HG := Lib.hid hg
    rw [errC_bad hg]
    clear hg
    go_wp2
    have hr1 := setRow_heap w3 (w.heap.size + 1) _ (markC 0 0) _ _ hr0
    have r1 := run_loadVar_row (P := Try.prog) _ (w.heap.size + 1) 47 47 _ (0, 0) _ hr1 Try.underlying47 rfl (by rw [markC_size]; exact z47)
    refine bodyPost_ret (v := .tuple #[markV (0, 0), .bool false]) (by simp [results, Try.results41, asAddr, r1, Result.andThen, markV]) rfl ?_
    refine ⟨by simp [endIs, HG.out], below_setRow HB3.out (by omega) _⟩
  | true =>
    have HG := Lib.hid hg
    rw [errC_good hg]
    have hl7 := good_short hg
    have hmost : mostC of ol = 2 * of + 1 := by simp [mostC, hg]
    have hof := goodC_len hg
    have hof0 := hof.1
    have hof2 := hof.2.1
    have HM := Lib.hid hmost
    clear hg hof hmost
    go_wp2_with fail
    go_loopw [28] (fun iv wr => ∃ k : Nat, k ≤ ol.length ∧ iv = .int .i64 k ∧ Hid (endTo E ol (2 * of + 1) e ol = endTo E ol (2 * of + 1) e (ol.drop k)) ∧ Below w3.heap.size w3 wr) (fun iv _ => ol.length - (intOf iv).toNat)
    case atStart => exact ⟨0, by omega, rfl, Lib.hid rfl, Below.refl _ _⟩
    case round =>
      obtain ⟨k, hk, rfl, HK, hbr⟩ := hrel
      have HBr := Lib.hid (Below.step HB3.out hbr)
      have HR := Lib.hid (HH.out.below HBr.out)
      have HIr := Lib.hid (HI.out.below HBr.out)
      have b0 := keepc hbr b0
      have b1 := keepc hbr b1
      have hr0 := (hbr.block _ hz3).trans hr0
      have hzr : w.heap.size + 1 < wr.heap.size := by have := hbr.size; omega
      have hzr' : w.heap.size < wr.heap.size := by omega
      clear hrow
      have hrow : Row47 wr (w.heap.size + 1) := row47_of hr0 rfl
      by_cases hlt : k < ol.length
      · obtain ⟨b, off, rfl, hbb, hcl⟩ := HIr.out.at_lt hlt
        have hcell := hcl k hlt
        obtain ⟨y, hy⟩ : ∃ y, y = ol[k] := ⟨_, rfl⟩
        rw [← hy] at hcell
        have hyw : Wf y := by have := good_mem HG.out y (hy ▸ List.getElem_mem _); exact Wf.of (by omega) (by omega)
        have c3 := HR.out.c3
        have hl := HR.out.look2t hyw he
        have hX := HR.out.okE y e
        obtain ⟨X, hXX⟩ : ∃ X, X = (endOf E y e).getD (0, 0) := ⟨_, rfl⟩
        obtain ⟨T, hT⟩ : ∃ T, T = (endOf E y e).isSome := ⟨_, rfl⟩
        rw [← hXX] at hX
        rw [← hXX, ← hT] at hl
        simp only [markV] at hl
        have HXX := Lib.hid hXX
        have HT := Lib.hid hT
        have HY := Lib.hid hy
        have HXO := Lib.hid hX
        clear hcl hy hXX hT hX
        go_wp2_with fail
        have hb4 := Below.new wr (.cells (markC X.1 X.2) 47)
        have hrm := heap_alloc_new wr (.cells (markC X.1 X.2) 47)
        have hz4 : wr.heap.size < (wr.alloc (.cells (markC X.1 X.2) 47)).heap.size := by simp
        obtain ⟨g, hg⟩ : ∃ g, g = wr.heap.size := ⟨_, rfl⟩
        have b0 := keepc hb4 b0
        have b1 := keepc hb4 b1
        have hr0 := (hb4.block _ hzr).trans hr0
        have HB4 := Lib.hid (Below.step hbr hb4)
        have HB4' := Lib.hid (Below.step HBr.out hb4)
        generalize (wr.alloc (.cells (markC X.1 X.2) 47)) = w4 at *
        rw [← hg] at hrm hz4 hzr hzr' ⊢
        clear hg hb4 c3 hl hcell
        go_loopw [46, 12] (fun jv mv wi => ∃ j t : Nat, j ≤ ol.length ∧ t ≤ j ∧ jv = .int .i64 j ∧ mv = .int .i64 t ∧ Hid (t = many T E (ol.take j) e X) ∧ Below w4.heap.size w4 wi) (fun jv _ _ => ol.length - (intOf jv).toNat)
        case atStart => exact ⟨0, 0, by omega, by omega, rfl, rfl, Lib.hid (by simp [many_zero]), Below.refl _ _⟩
        case round =>
          obtain ⟨j, t, hj, htj, rfl, rfl, HTJ, hbi⟩ := hrel
          have HBi := Lib.hid (Below.step HB4'.out hbi)
          have HRi := Lib.hid (HH.out.below HBi.out)
          have b0 := keepc hbi b0
          have b1 := keepc hbi b1
          have hr0 := (hbi.block _ (by omega)).trans hr0
          have hrm := (hbi.block _ hz4).trans hrm
          have hzi : g < wr.heap.size := by have := hbi.size; omega
          have hzw : w.heap.size + 1 < wr.heap.size := by omega
          obtain ⟨hrg, hrgo⟩ := row47_at hrm
          by_cases hlj : j < ol.length
          · obtain ⟨b2, off2, hba, hbb2, hcl⟩ := (HI.out.below HBi.out).at_lt hlj
            cases hba
            have hcell := hcl j hlj
            obtain ⟨z, hz⟩ : ∃ z, z = ol[j] := ⟨_, rfl⟩
            rw [← hz] at hcell
            have hzwf : Wf z := by have := good_mem HG.out z (hz ▸ List.getElem_mem _); exact Wf.of (by omega) (by omega)
            have c3 := HRi.out.c3
            have hl := HRi.out.look2t hzwf he
            have hY := HRi.out.okE z e
            obtain ⟨Y, hYY⟩ : ∃ Y, Y = (endOf E z e).getD (0, 0) := ⟨_, rfl⟩
            obtain ⟨T2, hT2⟩ : ∃ T, T = (endOf E z e).isSome := ⟨_, rfl⟩
            rw [← hYY] at hY
            rw [← hYY, ← hT2] at hl
            simp only [markV] at hl
            have hX := HXO.out
            have HQ : Hid (many T E (ol.take (j + 1)) e X = t + (if T = true ∧ endOf E z e = some X then 1 else 0)) := Lib.hid (by rw [many_succ hlj, ← hz, HTJ.out])
            have HYY := Lib.hid hYY
            have HT2 := Lib.hid hT2
            clear hcl hz hYY hT2
            by_cases hTT : T = true ∧ endOf E z e = some X
            · have hT1 : T = true := hTT.1
              have hT3 : T2 = true := by rw [HT2.out, hTT.2]; rfl
              have hYX : Y = X := by rw [HYY.out, hTT.2]; rfl
              have HTT := Lib.hid hTT
              subst hT1
              subst hT3
              subst hYX
              clear hTT
              go_wp2
              go_roundw
              case rel => exact ⟨j + 1, t + 1, by omega, by omega, by go_num, by go_num, Lib.hid (by rw [HQ.out, if_pos HTT.out]), Below.step hbi (Below.new _ _)⟩
              case measure => simp [intOf]; omega
            · have HQ' : Hid (t = many T E (ol.take (j + 1)) e X) := Lib.hid (by rw [HQ.out, if_neg hTT]; rfl)
              have hpart : T = true → T2 = true → ¬ (Y.1 = X.1 ∧ Y.2 = X.2) := by
                intro h1 h2 h3
                have h4 : Y = X := Prod.ext h3.1 h3.2
                refine hTT ⟨h1, ?_⟩
                have h5 := HT2.out
                have h6 := HYY.out
                cases hc : endOf E z e with
                | none => rw [hc, h2] at h5; cases h5
                | some v => rw [hc] at h6; simp at h6; rw [← h6, h4]
              have HP := Lib.hid hpart
              clear hTT hpart
              cases T with
              | false =>
                go_wp2
                go_roundw
                case rel => exact ⟨j + 1, t, by omega, by omega, by go_num, rfl, HQ', Below.step hbi (Below.new _ _)⟩
                case measure => simp [intOf]; omega
              | true =>
                cases T2 with
                | false =>
                  go_wp2
                  go_roundw
                  case rel => exact ⟨j + 1, t, by omega, by omega, by go_num, rfl, HQ', Below.step hbi (Below.new _ _)⟩
                  case measure => simp [intOf]; omega
                | true =>
                  have hne := HP.out rfl rfl
                  have hq : (decide (Y.1 = X.1) && decide (Y.2 = X.2)) = false := by rw [← Bool.decide_and, decide_eq_false_iff_not]; exact hne
                  clear hne
                  go_wp2
                  go_roundw
                  case rel => exact ⟨j + 1, t, by omega, by omega, by go_num, rfl, HQ', Below.step hbi (Below.new _ _)⟩
                  case measure => simp [intOf]; omega
          · have HTL : Hid (t = many T E ol e X) := Lib.hid (by rw [HTJ.out, List.take_of_length_le (by omega)])
            have HKS : Hid (endTo E ol (2 * of + 1) e ol = if 2 * of + 1 ≤ (t : Int) then some X else endTo E ol (2 * of + 1) e (ol.drop (k + 1))) := Lib.hid (by
              rw [HK.out, List.drop_eq_getElem_cons hlt, ← HY.out, endTo_step HT.out HXX.out.symm (by omega), HTL.out])
            have HIi := Lib.hid (HI.out.below HBi.out)
            have ht7 : t ≤ 7 := by omega
            go_wp2_with fail
            refine Calls.mono (most_any of _ ocap ol _ HIi.out) ?_
            rintro e2 w6 ⟨rfl, hb6⟩
            rw [HM.out]
            by_cases hmany : 2 * of + 1 ≤ (t : Int)
            · have hr6 := (hb6.block _ hzw).trans hr0
              have hm6 := (hb6.block _ hzi).trans hrm
              obtain ⟨hrx, hrxo⟩ := row47_at hm6
              have hry : Row47 w6 (w.heap.size + 1) := row47_of hr6 rfl
              have HB6 := Lib.hid (Below.step HBi.out hb6)
              clear hrg hrgo hb6
              go_wp2
              have hr1 := setRow_heap w6 (w.heap.size + 1) _ (markC X.1 X.2) _ _ hr6
              have r1 := run_loadVar_row (P := Try.prog) _ (w.heap.size + 1) 47 47 _ (0, 0) _ hr1 Try.underlying47 rfl (by rw [markC_size]; exact z47)
              refine bodyPost_ret (v := .tuple #[markV X, .bool true]) (by simp [results, Try.results41, asAddr, r1, Result.andThen, markV]) rfl ?_
              refine ⟨?_, below_setRow HB6.out (by omega) _⟩
              rw [show endIs E of ol e = some X by unfold endIs; rw [HG.out, if_pos rfl, HKS.out, if_pos hmany]]
              rfl
            · have HB6 := Lib.hid (Below.step (Below.step HB4.out hbi) hb6)
              clear hrg hrgo hb6
              go_wp2
              go_roundw
              case rel => exact ⟨k + 1, by omega, by go_num, Lib.hid (by rw [HKS.out, if_neg (by omega)]), HB6.out⟩
              case measure => simp [intOf]; omega
      · go_wp2
        have hr1 := setRow_heap wr (w.heap.size + 1) _ (markC 0 0) _ _ hr0
        have r1 := run_loadVar_row (P := Try.prog) _ (w.heap.size + 1) 47 47 _ (0, 0) _ hr1 Try.underlying47 rfl (by rw [markC_size]; exact z47)
        refine bodyPost_ret (v := .tuple #[markV (0, 0), .bool false]) (by simp [results, Try.results41, asAddr, r1, Result.andThen, markV]) rfl ?_
        refine ⟨?_, below_setRow HBr.out (by omega) _⟩
        rw [show endIs E of ol e = none by unfold endIs; rw [HG.out, if_pos rfl, HK.out, List.drop_eq_nil_of_le (by omega)]; rfl]
        rfl
end Go.Proofs.Ytldcpnabgpjgiaa.WalksT
