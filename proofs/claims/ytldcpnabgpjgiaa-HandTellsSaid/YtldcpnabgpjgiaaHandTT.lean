/-
  The walk of the law HandTells.
-/
import Derived.Test.YtldcpnabgpjgiaaHandTS
import Derived.IntWalk
import Derived.Deep.LoopGhost
import Derived.Deep.CutRange
import Derived.Deep.RegionHeld3
namespace Go.Proofs.Ytldcpnabgpjgiaa.WalksT
open Go.Proofs.Ytldcpnabgpjgiaa.Walks
open Go.RowKit Plain
set_option linter.unusedVariables false

theorem bring_is2 {i n r : Int} (h : bringI i n = r) (w : World) (h0 : 0 < n) (h1 : n ≤ 4611686018427387904) : Calls Try.prog 32 #[.int .i64 i, .int .i64 n] w fun e w' => e = .returned (.int .i64 r) ∧ w = w' := by
  subst h; exact bring_any i n w h0 h1
section
variable {ρ : Operand → Value} {d : Option Tmp} {x y : Operand} {t ty : TypeId} {p : String} {af : Array Edge} {gd : Option (Nat × Bool)} {w : World}
theorem exec_neq47t (h1 : okMark (ρ x)) (h2 : okMark (ρ y)) :
    (execOp ρ ⟨d, .binOp .neq 47 x y ty, t, p, af, gd⟩).run Try.prog w = .ok (.value (.bool (!(decide (seqOf (ρ x) = seqOf (ρ y)) && decide (Walks.byteOf (ρ x) = Walks.byteOf (ρ y)))))) w := by
  obtain ⟨e1, w1, v1⟩ := h1
  obtain ⟨e2, w2, v2⟩ := h2
  unfold isMark at e1 e2
  simp only [execOp]
  generalize seqOf (ρ x) = s at *
  generalize Walks.byteOf (ρ x) = r at *
  generalize seqOf (ρ y) = s' at *
  generalize Walks.byteOf (ρ y) = r' at *
  rw [e1, e2]
  simp only [Sem.run_bind, run_eqGuard_agg _ _ _ _ _ _ _ guard47, Result.andThen_ok, run_neq_struct, equal47 w1 v1 w2 v2, Sem.run_pure]
end
attribute [local go_sem] isLoad38_mk isLoad47_mk loadOp_mk headOf_mk blockOf_mk isMark_mk isRoot_mk isI_mk isB_mk seqOf_mk Walks.byteOf_mk byteO_mk intOf_mk drew_setRow alloc_setRow row47_new row38_new row47_drew rowOf_drew rowOf_new row38_drew row38_alloc row47_alloc rowOf_alloc
attribute [local go_sem ↓] exec_load38g exec_load47g exec_load38 exec_load47 exec_alloc47 exec_store47 exec_alloc38 exec_store38 exec_build47 exec_build47z exec_build38 exec_build38c exec_build47c exec_build38z exec_eql47 exec_neq47t

section
variable {ρ : Operand → Value} {d : Option Tmp} {x : Operand} {t : TypeId} {p : String} {af : Array Edge} {gd : Option (Nat × Bool)} {w : World}
/-- A digest is loaded at one go, its type a letter (a region that draws its order, with two such loads: the tactic's own law bears one). -/
theorem exec_load38T {T : TypeId} (hT : Hid (T = 38)) (h1 : headOf (ρ x) = true) (h2 : Row38 w (blockOf (ρ x))) :
    (execOp ρ ⟨d, .load T x, t, p, af, gd⟩).run Try.prog w = .ok (.value (.agg (rowOf w (blockOf (ρ x))))) w := by
  have := hT.out
  subst this
  exact exec_load38 h1 h2
end
attribute [local go_sem ↓] exec_load38T
set_option maxRecDepth 100000 in
set_option maxHeartbeats 8000000 in
theorem handTells_walk (f : Int) (a : Option Addr) (cap : Nat) (l : List Int) (chunk : Int) (b : Option Addr) (len bcap : Nat) (w : World) (hI : Ints w a l) (hn : a = none → cap = 0) (hr : l.length ≤ 17592186044415) (hD : Deeds2 w b len) :
    Calls Try.prog 3 #[.agg #[.int .i64 f, .slice a l.length cap], .int .i64 chunk, .slice b len bcap] w fun e w' => e = .returned (.bool true) ∧ Below w.heap.size w w' := by
  have HI := Lib.hid hI
  have HN := Lib.hid hn
  have HD := Lib.hid hD
  have hlen := hD.1
  clear hI hn hD
  go_enter Try.func3, Try.ntmps3
  go_wp2_with fail
  obtain ⟨c0, c1⟩ := crew_box2 (w := w) (F := f) (v := .slice a l.length cap)
  have HA := Lib.hid (HI.out.alloc (.cells #[.int .i64 f, .slice a l.length cap] 24))
  have HB := Lib.hid (Below.new w (.cells #[.int .i64 f, .slice a l.length cap] 24))
  have hz1 : w.heap.size < (w.alloc (.cells #[.int .i64 f, .slice a l.length cap] 24)).heap.size := by simp
  generalize (w.alloc (.cells #[.int .i64 f, .slice a l.length cap] 24)) = w1 at *
  refine Calls.mono (copy_any f a cap l _ HA.out HN.out (by omega)) ?_
  rintro e w2 ⟨ai, capi, rfl, hOi, hb2⟩
  obtain ⟨d0, d1⟩ := crew_box2 (w := w2) (F := f) (v := .slice ai l.length capi)
  have hb22 := Below.step hb2 (Below.new w2 (.cells #[.int .i64 f, .slice ai l.length capi] 24))
  have c0 := keepc hb22 c0
  have c1 := keepc hb22 c1
  have HA := Lib.hid (HA.out.below hb22)
  have HB := Lib.hid (Below.step HB.out hb22)
  have HFi : Hid (∀ x, ai = some x → w.heap.size ≤ x.block ∧ x.block < w2.heap.size) := Lib.hid fun x hx => ⟨by have := Own.base_le hOi hx; omega, Own.block_lt hOi hx⟩
  have HOi := Lib.hid (ownsRow_below hOi (Below.new w2 (.cells #[.int .i64 f, .slice ai l.length capi] 24)))
  have hz2 : w1.heap.size ≤ w2.heap.size := hb2.size
  clear hOi hb2 hb22
  go_wp2_with fail
  have hz3 : w2.heap.size < (w2.alloc (.cells #[.int .i64 f, .slice ai l.length capi] 24)).heap.size := by simp
  generalize (w2.alloc (.cells #[.int .i64 f, .slice ai l.length capi] 24)) = w3 at *
  have HI3 := Lib.hid (Own.ints HOi.out (by omega))
  have HN3 := Lib.hid (Own.nocap HOi.out)
  by_cases hok : goodC f l = true ∧ 1 ≤ chunk ∧ chunk ≤ 2
  case neg =>
    have hbad : ∃ EE : Int, EE ≠ 0 ∧ (∀ (W : World) (a' : Option Addr) (cap' : Nat), Ints W a' l → Calls Try.prog 29 #[.agg #[.int .i64 f, .slice a' l.length cap'], .int .i64 chunk] W (NewBad EE W)) ∧ (∀ (W : World) (a' : Option Addr) (cap' : Nat), Ints W a' l → Calls Try.prog 30 #[.agg #[.int .i64 f, .slice a' l.length cap'], .int .i64 chunk] W (RefBad EE W)) := by
      by_cases hg : goodC f l = true
      · have hc : chunk < 1 ∨ 2 < chunk := by
          by_cases h1 : chunk < 1
          · exact .inl h1
          · exact .inr (by have : ¬ (1 ≤ chunk ∧ chunk ≤ 2) := fun h => hok ⟨hg, h⟩; omega)
        exact ⟨2, by decide, fun W a' cap' hI => new_arg f a' cap' l chunk W hI hg hc, fun W a' cap' hI => refNew_arg f a' cap' l chunk W hI hg hc⟩
      · have hg' : goodC f l = false := by simpa using hg
        exact ⟨110, by decide, fun W a' cap' hI => new_crew f a' cap' l chunk W hI hg', fun W a' cap' hI => refNew_crew f a' cap' l chunk W hI hg'⟩
    obtain ⟨EE, hE0, h29, h30⟩ := hbad
    have H29 := Lib.hid h29
    have H30 := Lib.hid h30
    have hE1 : (EE == 0) = false := beq_eq_false_iff_ne.2 hE0
    have hE2 : (EE != 0) = true := bne_iff_ne.2 hE0
    clear h29 h30 hok
    refine Calls.mono (H29.out _ ai capi HI3.out) ?_
    rintro e w4 ⟨rfl, hb4⟩
    have c0 := keepc hb4 c0
    have c1 := keepc hb4 c1
    have d0 := keepc hb4 d0
    have d1 := keepc hb4 d1
    have HA := Lib.hid (HA.out.below hb4)
    have HI4 := Lib.hid (HI3.out.below hb4)
    go_wp2_with fail
    refine Calls.mono (H30.out _ a cap HA.out) ?_
    rintro e w5 ⟨rfl, hb5⟩
    have c0 := keepc hb5 c0
    have c1 := keepc hb5 c1
    have d0 := keepc hb5 d0
    have d1 := keepc hb5 d1
    have HA := Lib.hid (HA.out.below hb5)
    have HI5 := Lib.hid (HI4.out.below hb5)
    have HOi := Lib.hid (ownsRow_below HOi.out (Below.step hb4 hb5))
    have HB := Lib.hid (Below.step HB.out (Below.step hb4 hb5))
    clear hb4 hb5 HI3 HI4 H29 H30
    go_wp2_with fail
    refine Calls.mono (same_true (l := l) (l' := l) rfl rfl ai a capi cap _ HI5.out HA.out) ?_
    rintro e w6 ⟨rfl, hb6⟩
    have HB := Lib.hid (Below.step HB.out hb6)
    have d0 := keepc hb6 d0
    have d1 := keepc hb6 d1
    have HOi := Lib.hid (ownsRow_below HOi.out hb6)
    obtain ⟨gi, HZ⟩ := Zd.start HOi.out
    clear hb6 c0 c1 HI5 HA
    go_wp2_with fail
    go_loopw [12] (fun iv wr => ∃ k : Nat, k ≤ l.length ∧ iv = .int .i64 k ∧ Hid (Zd w6 gi l.length wr)) (fun iv _ => l.length - (intOf iv).toNat)
    case atStart => exact ⟨0, by omega, rfl, Lib.hid HZ.out.2⟩
    case round =>
      obtain ⟨k, hk, rfl, HZr⟩ := hrel
      have hne : 0 < l.length → w2.heap.size ≠ gi := fun h0 => by have := (HFi.out _ (HZ.out.1 h0)).2; simp only at this; omega
      have d0 := HZr.out.cell (a := ⟨w2.heap.size, 0, none⟩) hne d0
      have d1 := HZr.out.cell (a := ⟨w2.heap.size, 1, none⟩) hne d1
      by_cases hlt : k < l.length
      · have hax := HZ.out.1 (by omega)
        subst hax
        obtain ⟨⟨v, hv⟩, hf⟩ := HZr.out.at hlt
        go_wp2
        go_roundw
        case rel => exact ⟨k + 1, by omega, by go_num, Lib.hid (HZr.out.step hlt)⟩
        case measure => simp [intOf]; omega
      · have HB6 : Hid (Below w.heap.size w wr) := Lib.hid (HB.out.trans (HZr.out.below fun h0 => (HFi.out _ (HZ.out.1 h0)).1))
        clear HZr HZ HFi HOi HN3 hne
        go_wp2_with fail
        clear d0 d1
        go_loopw [13] (fun iv wr => iv = .int .i64 0 ∧ Hid (Below w.heap.size w wr)) (fun iv _ => 0)
        case atStart => exact ⟨rfl, HB6⟩
        case round =>
          obtain ⟨rfl, HB6⟩ := hrel
          by_cases hl0 : 0 < len
          · go_wp2_with fail
            refine Calls.mono (works24_any _) ?_
            rintro e w9 ⟨rfl, hb9⟩
            go_wp2
            go_ret
            exact ⟨rfl, Below.step HB6.out hb9⟩
          · have hl1 : len = 0 := by omega
            go_wp2_with fail
            refine Calls.mono (works24_any _) ?_
            rintro e w9 ⟨rfl, hb9⟩
            go_wp2
            go_ret
            exact ⟨rfl, Below.step HB6.out hb9⟩
  obtain ⟨hg, hc1, hc2⟩ := hok
  have HG := Lib.hid hg
  clear hg
  refine Calls.mono (new_good f ai capi l chunk _ HI3.out HN3.out HG.out hc1 hc2 (Made w w3) (fun b hb hh => absurd hh.2 (Nat.not_lt.2 hb))) ?_
  rintro e w4 ⟨q, rfl, hH, hb4, hR, hp, hq⟩
  have c0 := keepc hb4 c0
  have c1 := keepc hb4 c1
  have d0 := keepc hb4 d0
  have d1 := keepc hb4 d1
  have HA := Lib.hid (HA.out.below hb4)
  have HI4 := Lib.hid (HI3.out.below hb4)
  go_wp2_with fail
  refine Calls.mono (refNew_good f a cap l chunk _ HA.out HN.out HG.out hc1 hc2 (Made w w3) (fun b hb hh => by have := hh.2; have := hb4.size; omega)) ?_
  rintro e w5 ⟨p, rfl, hX, hb5⟩
  have HS := Lib.hid (st_new trivial HB.out hH hb4 hR hp hq hX hb5)
  have c0 := keepc hb5 c0
  have c1 := keepc hb5 c1
  have d0 := keepc hb5 d0
  have d1 := keepc hb5 d1
  have HA := Lib.hid (HA.out.below hb5)
  have HI5 := Lib.hid (HI4.out.below hb5)
  have HOi := Lib.hid (ownsRow_below HOi.out (Below.step hb4 hb5))
  obtain ⟨P, hP⟩ : ∃ P, P = q.p := ⟨_, rfl⟩
  rw [← hP] at HS ⊢
  clear hH hb4 hR hp hq hX hb5 hP HI3 HI4
  go_wp2_with fail
  refine Calls.mono (same_true (l := l) (l' := l) rfl rfl ai a capi cap _ HI5.out HA.out) ?_
  rintro e w6 ⟨rfl, hb6⟩
  have HS := Lib.hid (HS.out.below hb6)
  have d0 := keepc hb6 d0
  have d1 := keepc hb6 d1
  have HOi := Lib.hid (ownsRow_below HOi.out hb6)
  obtain ⟨gi, HZ⟩ := Zd.start HOi.out
  clear hb6 c0 c1 HI5 HA
  go_wp2_with fail
  go_loopw [12] (fun iv wr => ∃ k : Nat, k ≤ l.length ∧ iv = .int .i64 k ∧ Hid (Zd w6 gi l.length wr)) (fun iv _ => l.length - (intOf iv).toNat)
  case atStart => exact ⟨0, by omega, rfl, Lib.hid HZ.out.2⟩
  case round =>
    obtain ⟨k, hk, rfl, HZr⟩ := hrel
    have hne : 0 < l.length → w2.heap.size ≠ gi := fun h0 => by have := (HFi.out _ (HZ.out.1 h0)).2; simp only at this; omega
    have d0 := HZr.out.cell (a := ⟨w2.heap.size, 0, none⟩) hne d0
    have d1 := HZr.out.cell (a := ⟨w2.heap.size, 1, none⟩) hne d1
    by_cases hlt : k < l.length
    · have hax := HZ.out.1 (by omega)
      subst hax
      obtain ⟨⟨v, hv⟩, hf⟩ := HZr.out.at hlt
      go_wp2
      go_roundw
      case rel => exact ⟨k + 1, by omega, by go_num, Lib.hid (HZr.out.step hlt)⟩
      case measure => simp [intOf]; omega
    · have HS := Lib.hid (HS.out.zd (fun h0 => by have := HFi.out _ (HZ.out.1 h0); simp only at this; exact ⟨this.1, by omega⟩) HZr.out)
      have HSL : Hid (StL w wr P p 0 f l []) := Lib.hid ⟨_, _, _, HS.out⟩
      clear HS HZr HZ HFi HOi HN3 hne
      go_wp2_with fail
      clear d0 d1
      go_loopw [13] (fun iv wr => ∃ k : Nat, k ≤ len ∧ k ≤ 80 ∧ iv = .int .i64 k ∧ Hid (StL w wr P p (4 * k) f l [])) (fun iv _ => 80 - (intOf iv).toNat)
      case atStart => exact ⟨0, by omega, by omega, rfl, HSL⟩
      case round =>
        obtain ⟨k, hk, hk80, rfl, HSL⟩ := hrel
        have HB : Hid (Below w.heap.size w wr) := by
          obtain ⟨O, E, F, hS⟩ := HSL.out
          exact Lib.hid hS.old
        by_cases hlt : k < len
        · by_cases hl80 : k < 80
          · obtain ⟨O, E, F, hS⟩ := HSL.out
            obtain ⟨_, h0 | ⟨b', off, rfl, hat⟩⟩ := HD.out
            · omega
            obtain ⟨kd, fr, ep, ma, mcap, m, oF, oa, ocap, ol, s, r, ⟨c0, c1, c2, c3, c4, c5, c6, c7⟩, hn, he, ⟨hm1, hm2, hm3⟩, ⟨ho1, ho2, ho3⟩, hr0, hr1⟩ := hat k hlt
            have c0 := keepc HB.out c0
            have c1 := keepc HB.out c1
            have c2 := keepc HB.out c2
            have c3 := keepc HB.out c3
            have c4 := keepc HB.out c4
            have c5 := keepc HB.out c5
            have c6 := keepc HB.out c6
            have c7 := keepc HB.out c7
            have HNN := Lib.hid hn
            have HEE := Lib.hid he
            have HM := Lib.hid hm1
            have HMC := Lib.hid hm2
            have HO := Lib.hid ho1
            have HOC := Lib.hid ho2
            have HS := Lib.hid hS
            clear hat hn he hm1 hm2 ho1 ho2 hS HSL
            go_upto_region 14 with (fail)
            obtain ⟨D, hDD⟩ : ∃ D : Array Value, D = #[.int .i64 kd, .int .i64 fr, .int .i64 ep, .slice ma m.length mcap, .int .i64 oF, .slice oa ol.length ocap, .int .i64 s, .int .u8 r] := ⟨_, rfl⟩
            have HDD : Hid (D[0]? = some (.int .i64 kd) ∧ D[1]? = some (.int .i64 fr) ∧ D[2]? = some (.int .i64 ep) ∧ D[3]? = some (.slice ma m.length mcap) ∧ D[4]? = some (.int .i64 oF) ∧ D[5]? = some (.slice oa ol.length ocap) ∧ D[6]? = some (.int .i64 s) ∧ D[7]? = some (.int .u8 r)) := Lib.hid (by rw [hDD]; exact ⟨rfl, rfl, rfl, rfl, rfl, rfl, rfl, rfl⟩)
            rw [← hDD]
            have hS6 := HS.out.box D 36
            have hg6 : wr.heap.size < (wr.alloc (.cells D 36)).heap.size := by simp
            obtain ⟨g, hg⟩ : ∃ g, g = wr.heap.size := ⟨_, rfl⟩
            rw [← hg] at hS6 hg6 ⊢
            clear HS hg hDD c0 c1 c2 c3 c4 c5 c6 c7
            generalize (wr.alloc (.cells D 36)) = w6' at *
            have d0 := (hS6.cell (.head _) 0).trans HDD.out.1
            have d7 := (hS6.cell (.head _) 7).trans HDD.out.2.2.2.2.2.2.2
            have hS7 := hS6.box (rootC r) 38
            have hg7 : w6'.heap.size < (w6'.alloc (.cells (rootC r) 38)).heap.size := by simp
            clear hS6
            go_wp2_with fail
            obtain ⟨g2, hg2⟩ : ∃ g, g = w6'.heap.size := ⟨_, rfl⟩
            rw [← hg2] at hS7 hg7 ⊢
            clear d0 d7 hg2
            generalize (w6'.alloc (.cells (rootC r) 38)) = w7 at *
            have HS := Lib.hid hS7
            clear hS7
            obtain ⟨z, hz⟩ : ∃ z, bringI kd 2 = z := ⟨_, rfl⟩
            refine Calls.mono (bring_is2 hz _ (by decide) (by decide)) ?_
            rintro e w8 ⟨rfl, rfl⟩
            clear hz
            go_upto_if 93 with (fail)
            go_cut [] from 91 to 160 (fun wx => ∃ O1 E1 F1, St w wx P p (4 * k + 4) f l O1 E1 O1 E1 [(g, D, 36)] F1)
            case first =>
              by_cases hz0 : z = 0
              · have hzb : (z == 0) = true := by simp [hz0]
                have hzd : decide (z = 0) = true := decide_eq_true hz0
                have d1 := (HS.out.cell (.tail _ (.head _)) 1).trans HDD.out.2.1
                have d2 := (HS.out.cell (.tail _ (.head _)) 2).trans HDD.out.2.2.1
                have d3 := (HS.out.cell (.tail _ (.head _)) 3).trans HDD.out.2.2.2.1
                go_wp2_with fail
                refine Calls.mono (copyInts_any ma mcap m _ (HM.out.below HS.out.old) HMC.out (by omega)) ?_
                rintro e w9 ⟨na, ncap, rfl, hO9, hb9⟩
                obtain ⟨F', hF1, hF2, hS9⟩ := HS.out.fresh hb9
                obtain ⟨B0, hB0⟩ : ∃ B0, B0 = w7.heap.size := ⟨_, rfl⟩
                have hSO : SO w w9 P p (4 * k) f l O E O E [(g2, rootC r, 38), (g, D, 36)] F' B0 na m ncap := by
                  rw [hB0]
                  exact ⟨hS9, hO9, fun x hx => hF2 _ ⟨Own.base_le hO9 hx, Own.block_lt hO9 hx⟩⟩
                have d1 := keepc hb9 d1
                have d2 := keepc hb9 d2
                have d3 := keepc hb9 d3
                obtain ⟨R, hRR⟩ : ∃ R, orderE f l O fr ep m = R := ⟨_, rfl⟩
                obtain ⟨O1, hO1⟩ : ∃ R, orderO f l O fr ep m = R := ⟨_, rfl⟩
                have H34 : Hid (∀ W, SO w W P p (4 * k) f l O E O E [(g2, rootC r, 38), (g, D, 36)] F' B0 na m ncap → Calls Try.prog 34 #[.pointer (some ⟨P, 0, none⟩), .int .i64 fr, .int .i64 ep, .slice na m.length ncap] W fun e' w' => e' = .returned (.int .i64 R) ∧ SO w w' P p (4 * k + 3) f l O1 E O E [(g2, rootC r, 38), (g, D, 36)] F' B0 na m ncap) :=
                  Lib.hid fun W h => so_order (by omega) HNN.out HEE.out hm3 hRR hO1 W h
                have H35 : Hid (∀ W, SO w W P p (4 * k + 3) f l O1 E O E [(g2, rootC r, 38), (g, D, 36)] F' B0 na m ncap → Calls Try.prog 35 #[.pointer (some ⟨p, 0, none⟩), .int .i64 fr, .int .i64 ep, .slice ma m.length mcap] W fun e' w' => e' = .returned (.int .i64 R) ∧ SO w w' P p (4 * k + 4) f l O1 E O1 E [(g2, rootC r, 38), (g, D, 36)] F' B0 na m ncap) :=
                  Lib.hid fun W h => so_refOrder (by omega) hm3 HM.out HMC.out hRR hO1 W h
                have H36 : Hid (∀ W, SO w W P p (4 * k + 4) f l O1 E O1 E [(g2, rootC r, 38), (g, D, 36)] F' B0 na m ncap → Calls Try.prog 36 #[.slice na m.length ncap, .slice ma m.length mcap] W fun e' w' => e' = .returned (.bool true) ∧ SO w w' P p (4 * k + 4) f l O1 E O1 E [(g2, rootC r, 38), (g, D, 36)] F' B0 na m ncap) :=
                  Lib.hid fun W h => so_eq hm3 HM.out W h
                clear hS9 hO9 hb9 hF1 hF2 HS hRR hO1 hB0
                go_wp2_with fail
                go_region_held3 (fun W => W.cell? ⟨g, 1, none⟩ = some (.int .i64 fr) ∧ W.cell? ⟨g, 2, none⟩ = some (.int .i64 ep) ∧ W.cell? ⟨g, 3, none⟩ = some (.slice ma m.length mcap))
                  (first | exact ⟨d1, d2, d3⟩ | exact ⟨(hSO.1.cell (.tail _ (.head _)) 1).trans HDD.out.2.1, (hSO.1.cell (.tail _ (.head _)) 2).trans HDD.out.2.2.1, (hSO.1.cell (.tail _ (.head _)) 3).trans HDD.out.2.2.2.1⟩ | go_keep)
                  ((first
                    | (go_at_call 34; (with_reducible refine Calls.mono (H34.out _ ?_) ?_); (first | exact hSO | exact hSO.drew); rintro e1 wd ⟨rfl, hS2⟩; have hSO := hS2; clear hS2)
                    | (go_at_call 35; (with_reducible refine Calls.mono (H35.out _ ?_) ?_); (first | exact hSO | exact hSO.drew); rintro e1 wd ⟨rfl, hS2⟩; have hSO := hS2; clear hS2)
                    | (go_at_call 36; (with_reducible refine Calls.mono (H36.out _ ?_) ?_); (first | exact hSO | exact hSO.drew); rintro e1 wd ⟨rfl, hS2⟩; have hSO := hS2; clear hS2)))
                have HSO := Lib.hid hSO
                clear H34 H35 H36 d1 d2 d3 hSO
                go_wp2_with fail
                obtain ⟨gn, HZ⟩ := Zd.start HSO.out.2.1
                go_loopw [17] (fun iv wr => ∃ j : Nat, j ≤ m.length ∧ iv = .int .i64 j ∧ Hid (Zd wd gn m.length wr)) (fun iv _ => m.length - (intOf iv).toNat)
                case atStart => exact ⟨0, by omega, rfl, Lib.hid HZ.out.2⟩
                case round =>
                  obtain ⟨j, hj, rfl, HZr⟩ := hrel
                  by_cases hlj : j < m.length
                  · have hax := HZ.out.1 (by omega)
                    subst hax
                    obtain ⟨⟨v, hv⟩, hfv⟩ := HZr.out.at hlj
                    go_wp2
                    go_roundw
                    case rel => exact ⟨j + 1, by omega, by go_num, Lib.hid (HZr.out.step hlj)⟩
                    case measure => simp [intOf]; omega
                  · have HS' := Lib.hid ((HSO.out.1.zd (fun h0 => HSO.out.2.2 _ (HZ.out.1 h0)) HZr.out).drop (K' := [(g, D, 36)]) (fun x hx => List.mem_cons_of_mem _ hx))
                    go_wp2_with fail
                    go_meet
                    exact ⟨_, _, _, HS'.out⟩
              · have hzb : (z == 0) = false := by simp [hz0]
                have hzd : decide (z = 0) = false := decide_eq_false hz0
                have d4 := (HS.out.cell (.tail _ (.head _)) 4).trans HDD.out.2.2.2.2.1
                have d5 := (HS.out.cell (.tail _ (.head _)) 5).trans HDD.out.2.2.2.2.2.1
                go_wp2_with fail
                refine Calls.mono (copy_any oF oa ocap ol _ (HO.out.below HS.out.old) HOC.out (by omega)) ?_
                rintro e w9 ⟨na, ncap, rfl, hO9, hb9⟩
                obtain ⟨F', hF1, hF2, hS9⟩ := HS.out.fresh hb9
                obtain ⟨B0, hB0⟩ : ∃ B0, B0 = w7.heap.size := ⟨_, rfl⟩
                rw [← hB0] at hO9
                have hS10 := hS9.box #[.int .i64 oF, .slice na ol.length ncap] 24
                have hO10 := ownsRow_below hO9 (Below.new w9 (.cells #[.int .i64 oF, .slice na ol.length ncap] 24))
                have hF3 : ∀ x, na = some x → F' x.block := fun x hx => hF2 _ ⟨by rw [← hB0]; exact Own.base_le hO9 hx, Own.block_lt hO9 hx⟩
                clear hb9 hF1 hF2 hS9 hO9 HS d4 d5 hB0
                go_wp2_with fail
                obtain ⟨g3, hg3⟩ : ∃ g, g = w9.heap.size := ⟨_, rfl⟩
                rw [← hg3] at hS10 ⊢
                clear hg3
                generalize (w9.alloc (.cells #[.int .i64 oF, .slice na ol.length ncap] 24)) = w10 at *
                have hSO : SO w w10 P p (4 * k) f l O E O E [(g3, #[.int .i64 oF, .slice na ol.length ncap], 24), (g2, rootC r, 38), (g, D, 36)] F' B0 na ol ncap := ⟨hS10, hO10, hF3⟩
                have HKP : Hid (∀ (W : World) (N : Nat) (O : List (Int × Int × List Int)) (E : List (Int × Int × Int × Int)) (O' : List (Int × Int × List Int)) (E' : List (Int × Int × Int × Int)), SO w W P p N f l O E O' E' [(g3, #[.int .i64 oF, .slice na ol.length ncap], 24), (g2, rootC r, 38), (g, D, 36)] F' B0 na ol ncap →
                    W.cell? ⟨g, 1, none⟩ = some (.int .i64 fr) ∧ W.cell? ⟨g, 2, none⟩ = some (.int .i64 ep) ∧ W.cell? ⟨g, 4, none⟩ = some (.int .i64 oF) ∧ W.cell? ⟨g, 5, none⟩ = some (.slice oa ol.length ocap) ∧ W.cell? ⟨g, 6, none⟩ = some (.int .i64 s) ∧ W.cell? ⟨g3, 0, none⟩ = some (.int .i64 oF) ∧ W.cell? ⟨g3, 1, none⟩ = some (.slice na ol.length ncap) ∧ Row38 W g2 ∧ rowOf W g2 = rootC r) := Lib.hid fun W N O E O' E' h => by
                  have hg := fun j => h.1.cell (g := g) (cs := D) (t := 36) (.tail _ (.tail _ (.head _))) j
                  have hg3 := fun j => h.1.cell (g := g3) (t := 24) (.head _) j
                  obtain ⟨r1, r2⟩ := (show RootAt W g2 r from h.1.block (.tail _ (.head _))).row
                  exact ⟨(hg 1).trans HDD.out.2.1, (hg 2).trans HDD.out.2.2.1, (hg 4).trans HDD.out.2.2.2.2.1, (hg 5).trans HDD.out.2.2.2.2.2.1, (hg 6).trans HDD.out.2.2.2.2.2.2.1, (hg3 0), (hg3 1), r1, r2⟩
                obtain ⟨R, hRR⟩ : ∃ R, sealE oF ol E fr ep s = R := ⟨_, rfl⟩
                obtain ⟨E1, hE1⟩ : ∃ R, sealO oF ol E fr ep s r = R := ⟨_, rfl⟩
                have H37 : Hid (∀ W, SO w W P p (4 * k) f l O E O E [(g3, #[.int .i64 oF, .slice na ol.length ncap], 24), (g2, rootC r, 38), (g, D, 36)] F' B0 na ol ncap → Calls Try.prog 37 #[.pointer (some ⟨P, 0, none⟩), .int .i64 fr, .agg #[.int .i64 oF, .slice na ol.length ncap], .int .i64 ep, .int .i64 s, .agg (rootC r)] W fun e' w' => e' = .returned (.int .i64 R) ∧ SO w w' P p (4 * k + 3) f l O E1 O E [(g3, #[.int .i64 oF, .slice na ol.length ncap], 24), (g2, rootC r, 38), (g, D, 36)] F' B0 na ol ncap) :=
                  Lib.hid fun W h => so_seal (by omega) HNN.out HEE.out (by omega) hr0 hr1 hRR hE1 W h
                have H38 : Hid (∀ W, SO w W P p (4 * k + 3) f l O E1 O E [(g3, #[.int .i64 oF, .slice na ol.length ncap], 24), (g2, rootC r, 38), (g, D, 36)] F' B0 na ol ncap → Calls Try.prog 38 #[.pointer (some ⟨p, 0, none⟩), .int .i64 fr, .agg #[.int .i64 oF, .slice oa ol.length ocap], .int .i64 ep, .int .i64 s, .agg (rootC r)] W fun e' w' => e' = .returned (.int .i64 R) ∧ SO w w' P p (4 * k + 4) f l O E1 O E1 [(g3, #[.int .i64 oF, .slice na ol.length ncap], 24), (g2, rootC r, 38), (g, D, 36)] F' B0 na ol ncap) :=
                  Lib.hid fun W h => so_refSeal (by omega) HO.out hRR hE1 W h
                have H31 : Hid (∀ W, SO w W P p (4 * k + 4) f l O E1 O E1 [(g3, #[.int .i64 oF, .slice na ol.length ncap], 24), (g2, rootC r, 38), (g, D, 36)] F' B0 na ol ncap → Calls Try.prog 31 #[.agg #[.int .i64 oF, .slice na ol.length ncap], .agg #[.int .i64 oF, .slice oa ol.length ocap]] W fun e' w' => e' = .returned (.bool true) ∧ SO w w' P p (4 * k + 4) f l O E1 O E1 [(g3, #[.int .i64 oF, .slice na ol.length ncap], 24), (g2, rootC r, 38), (g, D, 36)] F' B0 na ol ncap) :=
                  Lib.hid fun W h => so_same (by omega) HO.out W h
                clear hS10 hO10 hF3 hRR hE1
                obtain ⟨T38, hT38⟩ : ∃ T : TypeId, T = 38 := ⟨_, rfl⟩
                rw [show Op.load 38 (Operand.tmp 15) = Op.load T38 (Operand.tmp 15) by rw [hT38]]
                have HT38 := Lib.hid hT38
                clear hT38
                go_region_held3 (fun W => W.cell? ⟨g, 1, none⟩ = some (.int .i64 fr) ∧ W.cell? ⟨g, 2, none⟩ = some (.int .i64 ep) ∧ W.cell? ⟨g, 4, none⟩ = some (.int .i64 oF) ∧ W.cell? ⟨g, 5, none⟩ = some (.slice oa ol.length ocap) ∧ W.cell? ⟨g, 6, none⟩ = some (.int .i64 s) ∧ W.cell? ⟨g3, 0, none⟩ = some (.int .i64 oF) ∧ W.cell? ⟨g3, 1, none⟩ = some (.slice na ol.length ncap) ∧ Row38 W g2 ∧ rowOf W g2 = rootC r)
                  (first | exact HKP.out _ _ _ _ _ _ hSO | exact HKP.out _ _ _ _ _ _ hSO.drew | go_keep)
                  ((first
                    | (go_at_call 37; (with_reducible refine Calls.mono (H37.out _ ?_) ?_); (first | exact hSO | exact hSO.drew); rintro e1 wd ⟨rfl, hS2⟩; have hSO := hS2; clear hS2)
                    | (go_at_call 38; (with_reducible refine Calls.mono (H38.out _ ?_) ?_); (first | exact hSO | exact hSO.drew); rintro e1 wd ⟨rfl, hS2⟩; have hSO := hS2; clear hS2)
                    | (go_at_call 31; (with_reducible refine Calls.mono (H31.out _ ?_) ?_); (first | exact hSO | exact hSO.drew); rintro e1 wd ⟨rfl, hS2⟩; have hSO := hS2; clear hS2)))
                have HS' := Lib.hid (hSO.1.drop (K' := [(g, D, 36)]) (fun x hx => List.mem_cons_of_mem _ (List.mem_cons_of_mem _ hx)))
                clear H37 H38 H31 HKP hSO HT38
                go_wp2_with fail
                go_meet
                exact ⟨_, _, _, HS'.out⟩
            case rest =>
              obtain ⟨O1, E1, F1, hS⟩ := hcut
              have HS := Lib.hid hS
              clear hS
              have d2 := (HS.out.cell (.head _) 2).trans HDD.out.2.2.1
              have d4 := (HS.out.cell (.head _) 4).trans HDD.out.2.2.2.2.1
              have d5 := (HS.out.cell (.head _) 5).trans HDD.out.2.2.2.2.2.1
              obtain ⟨X, hX⟩ : ∃ X, (if (crewOf f O1 ep).isSome then f else 0) = X := ⟨_, rfl⟩
              obtain ⟨L, hL⟩ : ∃ L, (crewOf f O1 ep).getD [] = L := ⟨_, rfl⟩
              obtain ⟨T, hT⟩ : ∃ T, (crewOf f O1 ep).isSome = T := ⟨_, rfl⟩
              obtain ⟨y1, hy1⟩ : ∃ y, ((endIs E1 oF ol ep).getD (0, 0)).1 = y := ⟨_, rfl⟩
              obtain ⟨y2, hy2⟩ : ∃ y, ((endIs E1 oF ol ep).getD (0, 0)).2 = y := ⟨_, rfl⟩
              obtain ⟨U, hU⟩ : ∃ U, (endIs E1 oF ol ep).isSome = U := ⟨_, rfl⟩
              have hLs : L.length ≤ 7 := by rw [← hL]; exact HS.out.crewShort ep
              have hok : okMark (.agg (markC y1 y2)) := by rw [← hy1, ← hy2]; exact HS.out.okEnd oF ol ep
              have HX := Lib.hid hX
              have HL := Lib.hid hL
              have HT := Lib.hid hT
              have HY1 := Lib.hid hy1
              have HY2 := Lib.hid hy2
              have HU := Lib.hid hU
              clear hX hL hT hy1 hy2 hU
              go_wp2_with fail
              refine Calls.mono (st_crewAt HS.out HEE.out HX.out HL.out HT.out) ?_
              rintro e w9 ⟨ax, capx, rfl, hOx, hb9⟩
              obtain ⟨F2, _, hF2, hS9⟩ := HS.out.fresh hb9
              have HFx : Hid (∀ x, ax = some x → F2 x.block ∧ x.block < w9.heap.size) := Lib.hid fun x hx => ⟨hF2 _ ⟨Own.base_le hOx hx, Own.block_lt hOx hx⟩, Own.block_lt hOx hx⟩
              have hb10 := Below.new w9 (.cells #[.int .i64 X, .slice ax L.length capx] 24)
              obtain ⟨e0, e1⟩ := crew_box2 (w := w9) (F := X) (v := .slice ax L.length capx)
              have HS := Lib.hid (hS9.below hb10)
              have HOx := Lib.hid (ownsRow_below hOx hb10)
              have d2 := keepc hb10 (keepc hb9 d2)
              have d4 := keepc hb10 (keepc hb9 d4)
              have d5 := keepc hb10 (keepc hb9 d5)
              clear hOx hb9 hb10 hF2 hS9
              go_wp2_with fail
              obtain ⟨gx, hgx⟩ : ∃ g, g = w9.heap.size := ⟨_, rfl⟩
              rw [← hgx] at HFx e0 e1 ⊢
              clear hgx
              generalize (w9.alloc (.cells #[.int .i64 X, .slice ax L.length capx] 24)) = w10 at *
              refine Calls.mono (st_refCrewAt HS.out (by omega) HX.out HL.out HT.out) ?_
              rintro e w11 ⟨ay, capy, rfl, hOy, hb11⟩
              have hb12 := Below.step hb11 (Below.new w11 (.cells #[.int .i64 X, .slice ay L.length capy] 24))
              obtain ⟨f0, f1⟩ := crew_box2 (w := w11) (F := X) (v := .slice ay L.length capy)
              have HS := Lib.hid (HS.out.below hb12)
              have HOx := Lib.hid (ownsRow_below HOx.out hb12)
              have HIy := Lib.hid ((Own.ints hOy (by omega)).alloc (.cells #[.int .i64 X, .slice ay L.length capy] 24))
              have e0 := keepc hb12 e0
              have e1 := keepc hb12 e1
              have d2 := keepc hb12 d2
              have d4 := keepc hb12 d4
              have d5 := keepc hb12 d5
              clear hOy hb11 hb12
              go_wp2_with fail
              obtain ⟨gy, hgy⟩ : ∃ g, g = w11.heap.size := ⟨_, rfl⟩
              rw [← hgy] at f0 f1 ⊢
              clear hgy
              generalize (w11.alloc (.cells #[.int .i64 X, .slice ay L.length capy] 24)) = w12 at *
              refine Calls.mono (st_endAt HS.out HEE.out (HO.out.below HS.out.old) HY1.out HY2.out HU.out) ?_
              rintro e w13 ⟨rfl, hb13⟩
              have hb14 := Below.step hb13 (Below.new w13 (.cells (markC y1 y2) 47))
              have m1 := heap_alloc_new w13 (.cells (markC y1 y2) 47)
              have HS := Lib.hid (HS.out.below hb14)
              have HOx := Lib.hid (ownsRow_below HOx.out hb14)
              have HIy := Lib.hid (HIy.out.below hb14)
              have e0 := keepc hb14 e0
              have e1 := keepc hb14 e1
              have f0 := keepc hb14 f0
              have f1 := keepc hb14 f1
              have d2 := keepc hb14 d2
              have d4 := keepc hb14 d4
              have d5 := keepc hb14 d5
              clear hb13 hb14
              go_wp2_with fail
              obtain ⟨q1, hq1⟩ : ∃ g, g = w13.heap.size := ⟨_, rfl⟩
              rw [← hq1] at m1 ⊢
              clear hq1
              generalize (w13.alloc (.cells (markC y1 y2) 47)) = w14 at *
              refine Calls.mono (st_refEndAt HS.out (by omega) (HO.out.below HS.out.old) HY1.out HY2.out HU.out) ?_
              rintro e w15 ⟨rfl, hb15⟩
              have hb16 := Below.step hb15 (Below.new w15 (.cells (markC y1 y2) 47))
              have m2 := heap_alloc_new w15 (.cells (markC y1 y2) 47)
              have m1 := (hb16.block _ (lt_of_heap m1)).trans m1
              have HS := Lib.hid (HS.out.below hb16)
              have HOx := Lib.hid (ownsRow_below HOx.out hb16)
              have HIy := Lib.hid (HIy.out.below hb16)
              have e0 := keepc hb16 e0
              have e1 := keepc hb16 e1
              have f0 := keepc hb16 f0
              have f1 := keepc hb16 f1
              clear hb15 hb16 d2 d4 d5
              go_wp2_with fail
              obtain ⟨q2, hq2⟩ : ∃ g, g = w15.heap.size := ⟨_, rfl⟩
              rw [← hq2] at m2 ⊢
              clear hq2
              generalize (w15.alloc (.cells (markC y1 y2) 47)) = w16 at *
              refine Calls.mono (same_true (l := L) (l' := L) rfl rfl ax ay capx capy _ (Own.ints HOx.out (by omega)) HIy.out) ?_
              rintro e w17 ⟨rfl, hb17⟩
              have m1 := (hb17.block _ (lt_of_heap m1)).trans m1
              have m2 := (hb17.block _ (lt_of_heap m2)).trans m2
              have HS := Lib.hid (HS.out.below hb17)
              have HOx := Lib.hid (ownsRow_below HOx.out hb17)
              have e0 := keepc hb17 e0
              have e1 := keepc hb17 e1
              obtain ⟨hx1, hx2⟩ := row47_at m1
              obtain ⟨hx3, hx4⟩ := row47_at m2
              clear hb17 f0 f1 HIy m1 m2
              go_wp2_with fail
              clear hx1 hx2 hx3 hx4
              obtain ⟨gn, HZ⟩ := Zd.start HOx.out
              go_loopw [27] (fun iv wr => ∃ j : Nat, j ≤ L.length ∧ iv = .int .i64 j ∧ Hid (Zd w17 gn L.length wr)) (fun iv _ => L.length - (intOf iv).toNat)
              case atStart => exact ⟨0, by omega, rfl, Lib.hid HZ.out.2⟩
              case round =>
                obtain ⟨j, hj, rfl, HZr⟩ := hrel
                have hne : 0 < L.length → gx ≠ gn := fun h0 => by have := (HFx.out _ (HZ.out.1 h0)).2; simp only at this; omega
                have e0 := HZr.out.cell (a := ⟨gx, 0, none⟩) hne e0
                have e1 := HZr.out.cell (a := ⟨gx, 1, none⟩) hne e1
                by_cases hlj : j < L.length
                · have hax := HZ.out.1 (by omega)
                  subst hax
                  obtain ⟨⟨v, hv⟩, hfv⟩ := HZr.out.at hlj
                  go_wp2
                  go_roundw
                  case rel => exact ⟨j + 1, by omega, by go_num, Lib.hid (HZr.out.step hlj)⟩
                  case measure => simp [intOf]; omega
                · have HSL : Hid (StL w wr P p (4 * (k + 1)) f l []) := Lib.hid ⟨_, _, _, by rw [show 4 * (k + 1) = 4 * k + 4 by omega]; exact (HS.out.zd (fun h0 => (HFx.out _ (HZ.out.1 h0)).1) HZr.out).drop (K' := []) (fun x hx => by cases hx)⟩
                  go_wp2
                  go_roundw
                  case rel => first | exact ⟨k + 1, by omega, by omega, by go_num, HSL⟩ | ((repeat apply Exists.intro); exact ⟨⟨k + 1, by omega, by omega, by go_num, HSL⟩, rfl⟩)
                  case measure => simp [intOf]; omega
          · go_wp2_with fail
            refine Calls.mono (works24_any _) ?_
            rintro e w9 ⟨rfl, hb9⟩
            go_wp2
            go_ret
            exact ⟨rfl, Below.step HB.out hb9⟩
        · go_wp2_with fail
          refine Calls.mono (works24_any _) ?_
          rintro e w9 ⟨rfl, hb9⟩
          go_wp2
          go_ret
          exact ⟨rfl, Below.step HB.out hb9⟩
end Go.Proofs.Ytldcpnabgpjgiaa.WalksT
