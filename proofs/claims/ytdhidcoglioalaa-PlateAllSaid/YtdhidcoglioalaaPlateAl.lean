/-
  The walk of PlateAll.
-/
import Derived.Test.YtdhidcoglioalaaPlateSt
namespace Go.Proofs.Ytdhidcoglioalaa.Walks
open Go.RowKit Plain
set_option linter.unusedVariables false
attribute [local go_sem] arr8

/-- Another plate's calls turn this one not. -/
theorem St.other {w w1 w2 : World} {q : PLoc} {P : Pl} (h : St w w1 q P) {R : List Nat} (ho : Only R w1 w2) (hd : ∀ b ∈ q.R, b ∉ R) (hR : ∀ r ∈ R, w.heap.size ≤ r) (hk : P.keep = []) : St w w2 q P :=
  ⟨h.pl.bare ho hd hk, Only.below h.be ho hR (Nat.le_refl _), h.ge⟩
theorem ws_none {P : Pl} (h : P.waits = fun _ => none) : wsD P = [] := by
  unfold wsD Pl.ws
  rw [h]
  split
  · rfl
  · simp
abbrev yes8 : List Bool := [true, true, true, true, true, true, true, true]
set_option maxRecDepth 20000 in
set_option maxHeartbeats 4000000 in
theorem plateAll_walk (a : Option Addr) (cap : Nat) (l : List PutL) (w : World) (hL : Puts w a l) :
    Calls Try.prog 4 #[.slice a l.length cap] w fun e w' => e = .returned (.bool true) ∧ Below w.heap.size w w' := by
  obtain ⟨n, hn⟩ : ∃ n, n = l.length := ⟨_, rfl⟩
  rw [← hn]
  obtain ⟨f, hf⟩ : ∃ f, f = (wasis (l.take 60)).1 := ⟨_, rfl⟩
  obtain ⟨g, hg⟩ : ∃ g, g = (wasis (l.take 60)).2 := ⟨_, rfl⟩
  have HPl : Hid (∀ (w1 : World) (q : PLoc) (P : Pl), St w w1 q P → PInv P (fun _ => 0) (fun _ => 0) → Calls Try.prog 15 #[pv q, .slice a n cap] w1 fun e w2 => ∃ P', e = .returned (.tuple #[.agg (arr8 f), .agg (arr8 g)]) ∧ St w w2 q P' ∧ PInv P' f g ∧ Only q.R w1 w2) := Lib.hid (by
    intro w1 q P h1 h2
    rw [hf, hg]
    exact puts_any h1 h2 hn.symm hL)
  clear hL hn hf hg
  go_enter Try.func4, Try.ntmps4
  go_wp2_with fail
  refine Calls.mono (s_new 8 (by decide) (by decide) w w (Below.refl _ _)) ?_
  rintro e w1 ⟨q, rfl, hS, _, _⟩
  have HS := Lib.hid hS
  clear hS
  go_wp2_with fail
  refine Calls.mono (s_new 8 (by decide) (by decide) w w1 HS.out.be) ?_
  rintro e w2 ⟨r, rfl, hT, hb2, hr⟩
  have HX := Lib.hid (show ∀ b ∈ r.R, b ∉ q.R from fun b h1 h2 => by have := hr b h1; have := HS.out.pl.lt b h2; omega)
  have HX' := Lib.hid (show ∀ b ∈ q.R, b ∉ r.R from fun b h1 h2 => HX.out b h2 h1)
  have hS := HS.out.below hb2
  have HT := Lib.hid hT
  clear HS hT hb2 hr
  have HS := Lib.hid hS
  clear hS
  go_wp2_with fail
  refine Calls.mono (HPl.out _ _ _ HS.out pinv_made) ?_
  rintro e w3 ⟨P, rfl, hS, hI, ho⟩
  have hT := HT.out.other ho HX.out HS.out.ge rfl
  clear HS HT ho
  have HS := Lib.hid hS
  have HT := Lib.hid hT
  have HI := Lib.hid hI
  clear hS hT hI
  go_wp2_with fail
  obtain ⟨w4, hW⟩ : ∃ x, x = (w3.alloc (.cells (arr8 f) 28)).alloc (.cells (arr8 g) 28) := ⟨_, rfl⟩
  have hbw : Below w3.heap.size w3 w4 := by rw [hW]; exact Below.step (Below.new _ _) (Below.new _ _)
  have k7 : Box8 w4 w3.heap.size f := by rw [hW]; exact Only.box (R := []) (Box8.new w3 f 28) (Only.of_below (Below.new _ _)) (by simp)
  have k8 : Box8 w4 (w3.heap.size + 1) g := by
    have h := Box8.new (w3.alloc (.cells (arr8 f) 28)) g 28
    rw [hW]
    simpa using h
  have NB7 := Lib.hid (show w3.heap.size ∉ q.R ∧ w3.heap.size ∉ r.R from ⟨fun hm => Nat.lt_irrefl _ (HS.out.pl.lt _ hm), fun hm => Nat.lt_irrefl _ (HT.out.pl.lt _ hm)⟩)
  have NB8 := Lib.hid (show w3.heap.size + 1 ∉ q.R ∧ w3.heap.size + 1 ∉ r.R from ⟨fun hm => by have := HS.out.pl.lt _ hm; omega, fun hm => by have := HT.out.pl.lt _ hm; omega⟩)
  unfold arr8 at hW
  rw [← hW]
  have K7 := Lib.hid k7
  have K8 := Lib.hid k8
  have hS := HS.out.below hbw
  have hT := HT.out.below hbw
  clear hW hbw k7 k8 HS HT
  have HS := Lib.hid hS
  have HT := Lib.hid hT
  clear hS hT
  refine Calls.mono (HPl.out _ _ _ HT.out pinv_made) ?_
  rintro e w5 ⟨Q, rfl, hT, hJ, ho⟩
  have hS := HS.out.other ho HX'.out HT.out.ge HI.out.keep
  have K7 := Lib.hid (Only.box K7.out ho NB7.out.2)
  have K8 := Lib.hid (Only.box K8.out ho NB8.out.2)
  clear HS HT ho
  have HS := Lib.hid hS
  have HT := Lib.hid hT
  have HJ := Lib.hid hJ
  clear hS hT hJ
  go_wp2_with fail
  have hb5 : Below w5.heap.size w5 (w5.alloc (.cells #[.bool true, .bool true, .bool true, .bool true, .bool true, .bool true, .bool true, .bool true] 4)) := Below.new _ _
  refine Calls.mono (s_crash (P' := P.gone yes8) (l := yes8) rfl (HS.out.below hb5) (bools_new w5 yes8 (by decide) 4) (fun _ ad e hm => by cases e; exact Nat.lt_irrefl _ (HS.out.pl.lt _ hm)) (z := 0) (may_live HI.out.live) (HI.out.crash _)) ?_
  rintro e w6 ⟨rfl, hS, ho⟩
  have hT := (HT.out.below hb5).other ho HX.out HS.out.ge HJ.out.keep
  have K7 := Lib.hid (Only.box K7.out ((Only.of_below hb5).trans ho) NB7.out.1)
  have K8 := Lib.hid (Only.box K8.out ((Only.of_below hb5).trans ho) NB8.out.1)
  clear HS HT ho hb5
  have HS := Lib.hid hS
  have HT := Lib.hid hT
  clear hS hT
  go_wp2_with fail
  refine Calls.mono (s_crash (P' := Q.gone []) (l := []) rfl HT.out (Bools.nil _ none) (fun h0 => absurd rfl h0) (z := 0) (may_live HJ.out.live) (HJ.out.crash _)) ?_
  rintro e w7 ⟨rfl, hT, ho⟩
  have hS := HS.out.other ho HX'.out HT.out.ge HI.out.keep
  have K7 := Lib.hid (Only.box K7.out ho NB7.out.2)
  have K8 := Lib.hid (Only.box K8.out ho NB8.out.2)
  clear HS HT ho
  have HS := Lib.hid hS
  have HT := Lib.hid hT
  clear hS hT
  go_wp2_with fail
  refine Calls.mono (s_boot (P' := (P.gone yes8).boot) HS.out rfl) ?_
  rintro e w8 ⟨rfl, hS, ho⟩
  have hT := HT.out.other ho HX.out HS.out.ge HJ.out.keep
  have K7 := Lib.hid (Only.box K7.out ho NB7.out.1)
  have K8 := Lib.hid (Only.box K8.out ho NB8.out.1)
  clear HS HT ho
  have HS := Lib.hid hS
  have HT := Lib.hid hT
  clear hS hT
  go_wp2_with fail
  refine Calls.mono (s_boot (P' := (Q.gone []).boot) HT.out rfl) ?_
  rintro e w9 ⟨rfl, hT, ho⟩
  have hS := HS.out.other ho HX'.out HT.out.ge HI.out.keep
  have K7 := Lib.hid (Only.box K7.out ho NB7.out.2)
  have K8 := Lib.hid (Only.box K8.out ho NB8.out.2)
  clear HS HT ho
  have HS := Lib.hid hS
  have HT := Lib.hid hT
  clear hS hT
  have HF1 := Lib.hid (show ∀ k : Nat, k < 8 → hasB (P.gone yes8).boot k (g k) = true from fun k hk => HI.out.fallAll hk)
  have HF2 := Lib.hid (show ∀ k : Nat, k < 8 → hasB (Q.gone []).boot k (f k) = true from fun k hk => HJ.out.fallNone hk)
  go_wp2_with fail
  go_loopw [9] (fun i wr => ∃ j : Nat, j ≤ 8 ∧ i = .int .i64 j ∧ Hid (Below w9.heap.size w9 wr)) (fun i _ => 8 - (RowKit.intOf i).toNat)
  case atStart => exact ⟨0, by omega, rfl, Lib.hid (Below.refl _ _)⟩
  case round =>
    obtain ⟨j, hj8, rfl, HR⟩ := hrel
    by_cases hlt : j < 8
    · have x8 := (Only.box (R := []) K8.out (Only.of_below HR.out) (by simp)).1 j hlt
      have HA := Lib.hid (HF1.out j hlt)
      have HC := Lib.hid (HF2.out j hlt)
      go_wp2_with fail
      refine Calls.mono (s_has (b := g j) rfl (HS.out.below HR.out) HA.out) ?_
      rintro e wa ⟨rfl, _, hba⟩
      have HRa := Lib.hid (Below.step HR.out hba)
      have x7 := (Only.box (R := []) K7.out (Only.of_below HRa.out) (by simp)).1 j hlt
      clear hba
      go_wp2_with fail
      refine Calls.mono (s_has (b := f j) rfl (HT.out.below HRa.out) HC.out) ?_
      rintro e wb ⟨rfl, _, hbb⟩
      have HRb := Lib.hid (Below.step HRa.out hbb)
      clear hbb
      go_wp2
      go_roundw
      case rel => exact ⟨j + 1, by omega, by go_num, HRb⟩
      case measure => simp [RowKit.intOf]; omega
    · go_wp2_with fail
      refine Calls.mono (s_waits (l := []) (HS.out.below HR.out) (ws_none rfl) rfl) ?_
      rintro e wa ⟨aa, ca, rfl, _, _, hba⟩
      have HRa := Lib.hid (Below.step HR.out hba)
      clear hba
      go_wp2_with fail
      refine Calls.mono (s_waits (l := []) (HT.out.below HRa.out) (ws_none rfl) rfl) ?_
      rintro e wb ⟨ab, cb, rfl, _, _, hbb⟩
      have HRb := Lib.hid (Below.step HRa.out hbb)
      clear hbb
      go_wp2_with fail
      refine Calls.mono (awake_any _) ?_
      rintro e wc9 ⟨rfl, hbc⟩
      have HBc := Lib.hid hbc
      clear hbc
      go_wp2
      go_ret
      exact ⟨rfl, Below.step (Below.step HS.out.be HRb.out) HBc.out⟩
end Go.Proofs.Ytdhidcoglioalaa.Walks
