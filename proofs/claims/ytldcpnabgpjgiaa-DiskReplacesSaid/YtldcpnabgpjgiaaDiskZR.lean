/-
  The walk of the law DiskReplaces.
-/
import Derived.Test.YtldcpnabgpjgiaaDiskZA
import Derived.Test.YtldcpnabgpjgiaaDiskW
namespace Go.Proofs.Ytldcpnabgpjgiaa.Walks
open Go.RowKit Plain
set_option linter.unusedVariables false
attribute [local go_sem] isPV_mk adV_mk cells_agg cells_agg' held_drew room_drew cellsAt_drew isA4_mk isSl_mk isI_mk intOf_mk
attribute [local go_sem ↓] exec_load88 exec_store88 exec_load81 exec_store81 exec_load90 exec_store90 Go.wp_at_zero Go.wp_at_succ exec_alloc81 exec_build81r exec_build81s exec_bs69 exec_alloc90 exec_build90n
attribute [local irreducible] out0

theorem stew_fits (old new : Int) (ans : Int → Option An) (h : ∀ k a, ans k = some a → k ∈ dirL) : Fits (stewC old new ans) :=
  ⟨(by decide : goodC 1 dirL = true), (by decide : (0 : Int) ≤ 1 ∧ (1 : Int) ≤ 1000000), (Wf.of (by decide) (by decide) : Wf 2), (Wf.of (by decide) (by decide) : Wf 2), h, (fun m hm => by
    have hm' : (none : Option (List Int × Int)) = some m := hm
    cases hm'), fun h => absurd h (show ¬ (3 : Int) = 2 by decide)⟩
theorem one_keys (k : Int) (A : An) {l : List Int} (hk : k ∈ l) : ∀ x a, oneF k A x = some a → x ∈ l := by
  intro x a h
  unfold oneF upF at h
  split at h
  · rename_i e; rw [e]; exact hk
  · cases h
theorem replaceW_is (old new : Int) : beginC (newC 34 2) (replaceW 2 old new) = stewC old new (fun _ => none) ∧ beginO (newC 34 2) (replaceW 2 old new) = againO (stewC old new (fun _ => none)) (beganO (callR old new)) := ⟨rfl, rfl⟩
theorem take_stew (B p N : Nat) (old new : Int) (ans : Int → Option An) (fr : Int) (hf : fr = 3 ∨ fr = 4) (c' : Cl) (o' : Ou) (hc : takeC (stewC old new ans) (replyN fr (callR old new) (epA 1)) = c') (ho : takeO (stewC old new ans) (replyN fr (callR old new) (epA 1)) = o') (hk : ∀ k a, ans k = some a → k ∈ dirL) (w : World) (hN1 : N + 1 < 1000000) (h : Sys B w p N (stewC old new ans)) :
    Calls Try.prog 52 #[.pointer (some ⟨p, 0, none⟩), .agg (noteL 2 fr (callR old new).group (callR old new).epoch (.slice none 0 0) (ansL (epA 1) none 0 none 0) (callR old new).stamp (callR old new).client).toArray] w (GiveS B p (N + 2) c' o' 0 w) := by
  have h1 := take_sys B p N (stewC old new ans) (replyN fr (callR old new) (epA 1)) none 0 none 0 w h (stew_fits old new ans hk) (heard_stew old new ans fr (epA 1) hf) hN1 (BL.nil _ _) (fun _ => rfl) (TL.nil _ _) (fun _ => rfl)
  rw [hc, ho] at h1
  exact h1
theorem repl_bad {old new : Int} (h : replOK (newC 34 2) 2 old new = false) : old < 1 ∨ (¬ old < 1 ∧ 28 < old) ∨ (¬ old < 1 ∧ ¬ 28 < old ∧ new < 1) ∨ (¬ old < 1 ∧ ¬ 28 < old ∧ ¬ new < 1 ∧ 28 < new) ∨ (¬ old < 1 ∧ ¬ 28 < old ∧ old = new) := by
  by_cases h1 : old < 1
  · exact .inl h1
  by_cases h2 : 28 < old
  · exact .inr (.inl ⟨h1, h2⟩)
  by_cases h3 : new < 1
  · exact .inr (.inr (.inl ⟨h1, h2, h3⟩))
  by_cases h4 : 28 < new
  · exact .inr (.inr (.inr (.inl ⟨h1, h2, h3, h4⟩)))
  by_cases h5 : old = new
  · exact .inr (.inr (.inr (.inr ⟨h1, h2, h5⟩)))
  exfalso
  have a1 : 1 ≤ old := by omega
  have a2 : old ≤ 28 := by omega
  have a3 : 1 ≤ new := by omega
  have a4 : new ≤ 28 := by omega
  have : replOK (newC 34 2) 2 old new = true := by simp [replOK, newC, a1, a2, a3, a4, h5]
  rw [h] at this
  cases this
theorem repl_good {old new : Int} (h : replOK (newC 34 2) 2 old new = true) : ¬ old < 1 ∧ ¬ 28 < old ∧ ¬ new < 1 ∧ ¬ 28 < new ∧ ¬ old = new := by
  simp [replOK, newC] at h
  omega
set_option maxRecDepth 100000 in
set_option maxHeartbeats 4000000 in
theorem diskReplaces_walk (old new : Int) (w : World) : Calls Try.prog 11 #[.int .i64 old, .int .i64 new] w fun e w' => e = .returned (.bool true) ∧ Below w.heap.size w w' := by
  go_enter Try.func11, Try.ntmps11
  go_wp2_with fail
  refine Calls.mono (works_is w) ?_
  rintro en w1 ⟨rfl, hb⟩
  have HB1 := Lib.hid hb
  clear hb
  go_wp2_with fail
  refine Calls.mono (directory_any _) ?_
  rintro en w2 ⟨a, rfl, hI, hb⟩
  have HB2 := Lib.hid (Below.step HB1.out hb)
  have HI := Lib.hid hI
  clear hI hb
  go_wp2_with fail
  refine Calls.mono (new_is 34 2 (some a) 4 w2 HI.out (fun h => by cases h) (by decide) (by decide)) ?_
  rintro en w3 ⟨p, r1, rfl, hp, hr1, hC, hb⟩
  have hz := HB2.out.size
  have HP : Hid (w.heap.size ≤ p ∧ w.heap.size ≤ r1) := Lib.hid (by omega)
  have HC := Lib.hid (hC r1)
  have HP3 : Hid (Stp w.heap.size w w3) := Lib.hid (Stp.of_below (Below.step HB2.out hb) (Nat.le_refl _))
  clear hp hr1 hC hb hz
  go_wp2_with fail
  cases hok : replOK (newC 34 2) 2 old new
  · refine Calls.mono (replace_bad p r1 r1 0 (newC 34 2) 2 old new w3 HC.out hok) ?_
    rintro en w4 ⟨l, r2, rfl, hr2, q1, q2, q3⟩
    obtain ⟨e1, e2, hb5, hG5, hV5⟩ := put_out q2
    have HC5 := Lib.hid (q1.below hb5)
    have HL : Hid (Below w.heap.size w _) := Lib.hid (Below.step (Only.below HP3.out.low q3 (by have := HP.out; simp; omega) (Nat.le_refl _)) hb5)
    clear hb5 hG5 hV5 q1 q2 q3 hr2
    rcases repl_bad hok with h1 | ⟨h1, h2⟩ | ⟨h1, h2, h3⟩ | ⟨h1, h2, h3, h4⟩ | ⟨h1, h2, rfl⟩
    all_goals
      clear hok
      go_wp2_with fail
      refine Calls.mono (busy_is p r1 r2 0 (newC 34 2) _ HC5.out) ?_
      rintro en w5 ⟨rfl, rfl⟩
      go_wp2_with fail
      go_ret
      exact ⟨rfl, HL.out⟩
  · refine Calls.mono (replace_is p r1 r1 0 (newC 34 2) 2 old new w3 HC.out hok (by decide) rfl (by decide) (by decide) (fun m hm => by cases hm)) ?_
    rintro en w4 ⟨l, r2, rfl, hr2, q1, q2, q3⟩
    rw [(replaceW_is old new).1] at q1
    rw [(replaceW_is old new).2] at q2
    obtain ⟨e1, e2, hb5, hG5, hV5⟩ := put_out q2
    have hz := HP3.out.size
    have HS5 : Hid (Sys w.heap.size _ p 0 (stewC old new fun _ => none)) := Lib.hid ⟨r1, r2, q1.below hb5, HP.out.1, HP.out.2, by have := HP.out.2; omega⟩
    have HT5 : Hid (Stp w.heap.size w _) := Lib.hid ((HP3.out.trans ⟨Only.below (Below.refl _ _) q3 (by have := HP.out; simp; omega) hz, Stays.of_only1 q3 HC.out⟩).then hb5 (Nat.le_refl _))
    have HG5 := Lib.hid hG5
    have HV5 := Lib.hid hV5
    obtain ⟨h1, h2, h3, h4, h5⟩ := repl_good hok
    have hk : (old == new) = false := by simpa using h5
    clear hb5 hG5 hV5 q1 q2 q3 hr2 hok h5 hz
    go_upto_region 7 with (fail)
    obtain ⟨w5, hw5⟩ : ∃ x, x = (w4.alloc (.cells out0.toArray 90)).setCells w4.heap.size 0 l := ⟨_, rfl⟩
    rw [← hw5] at HS5 HT5 HG5 HV5 ⊢
    obtain ⟨x5, hx5⟩ : ∃ x, x = w4.heap.size := ⟨_, rfl⟩
    rw [← hx5] at HG5 ⊢
    clear hw5 hx5 e1 e2
    obtain ⟨g1, g2⟩ := out_at HG5.out HV5.out.len (Below.refl _ _)
    have e2 := HV5.out.agg
    go_wp2_with fail
    refine Calls.mono (says_is l (againO (stewC old new fun _ => none) (beganO (callR old new))) 1 (callR old new) dirL (some ⟨w5.heap.size, 0, none⟩) 4 4 none 0 _ (HV5.out.below (Below.new _ _)) rfl rfl rfl rfl (il_four _ _ _ _ _) (BL.nil _ _)) ?_
    rintro en w6 ⟨rfl, hb6⟩
    have hS := Below.step (Below.new w5 (.cells #[.int .i64 1, .int .i64 2, .int .i64 3, .int .i64 4] 3)) hb6
    have HS6 := Lib.hid (HS5.out.below hS)
    have HT6 := Lib.hid (HT5.out.then hS (Nat.le_refl _))
    have hG6 := HG5.out.below hS
    obtain ⟨nl, ca, cc, hN, _, _, ⟨f1, f2⟩, _⟩ := out_open hG6 (HV5.out.below hS)
    obtain ⟨g, wa, wq, rfl, hgb, _⟩ := hN
    have HGB := Lib.hid hgb
    have HF := Lib.hid f1
    have HG6 := Lib.hid hG6
    have HL6 := Lib.hid HV5.out.len
    clear hS hb6 hG6 hgb g1 g2 e2
    go_wp2_with fail
    refine Calls.mono (reply_any 3 1 34 (callR old new) g wa wq (epA 1) none 0 none 0 w6 HGB.out) ?_
    rintro en w7 ⟨rfl, hb7⟩
    have HT7 := Lib.hid (HT6.out.then hb7 (Nat.le_refl _))
    have HG7 := Lib.hid (HG6.out.below hb7)
    have HGB7 := Lib.hid (HGB.out.below hb7)
    have hS7 := HS6.out.below hb7
    obtain ⟨f3, f4⟩ := note_at HG6.out (by rw [HL6.out]; decide) HF.out hb7
    have HF7 := Lib.hid f3
    clear f1 f2 f3 f4 hb7
    go_wp2_with fail
    refine Calls.mono (take_stew w.heap.size p 0 old new (fun _ => none) 3 (.inl rfl) _ _ (take_stew1 old new).1 (take_stew1 old new).2 (fun k a h => by cases h) w7 (by decide) hS7) ?_
    rintro en w8 ⟨l8, rfl, q1, q2, q3⟩
    obtain ⟨e1, e2, hb9, hG9, hV9⟩ := put_out q2
    have HS9 := Lib.hid (q1.below hb9)
    have HT9 := Lib.hid ((HT7.out.trans q3).then hb9 (Nat.le_refl _))
    have hX9 := (q3.blk HG7.out (by decide)).below hb9
    have HX9 := Lib.hid hX9
    have HGB9 := Lib.hid ((q3.blk HGB7.out (by decide)).below hb9)
    have HG9 := Lib.hid hG9
    have HV9 := Lib.hid hV9
    clear hb9 hX9 hG9 hV9 q1 q2 q3 hS7
    go_upto_region 12 with (fail)
    obtain ⟨w9, hw9⟩ : ∃ x, x = (w8.alloc (.cells out0.toArray 90)).setCells w8.heap.size 0 l8 := ⟨_, rfl⟩
    rw [← hw9] at HS9 HT9 HG9 HV9 HX9 HGB9 ⊢
    obtain ⟨x9, hx9⟩ : ∃ x, x = w8.heap.size := ⟨_, rfl⟩
    rw [← hx9] at HG9 ⊢
    clear hw9 hx9 e1 e2
    have HF9 : Hid (cellsAt w9 ⟨x5, 1, none⟩ 58 = noteL 1 34 (callR old new).group (callR old new).epoch (.slice (some ⟨g, 0, none⟩) 1 1) zeroA 0 0) := Lib.hid (by rw [HX9.out.cells (by rw [HL6.out]; decide), ← HG7.out.cells (by rw [HL6.out]; decide)]; exact HF7.out)
    obtain ⟨f1, f2⟩ := note_at HX9.out (by rw [HL6.out]; decide) HF9.out (Below.refl _ _)
    go_wp2_with fail
    refine Calls.mono (reply_any 4 1 34 (callR old new) g wa wq (epA 1) none 0 none 0 w9 HGB9.out) ?_
    rintro en wA ⟨rfl, hbA⟩
    have HTA := Lib.hid (HT9.out.then hbA (Nat.le_refl _))
    have HGA := Lib.hid (HG9.out.below hbA)
    have HVA := Lib.hid (HV9.out.below hbA)
    have hSA := HS9.out.below hbA
    clear f1 f2 hbA
    go_wp2_with fail
    refine Calls.mono (take_stew w.heap.size p 2 old new (oneF 3 (epA 1)) 4 (.inr rfl) _ _ (take_stew2 old new).1 (take_stew2 old new).2 (one_keys 3 (epA 1) (by decide)) wA (by decide) hSA) ?_
    rintro en wB ⟨lB, rfl, q1, q2, q3⟩
    obtain ⟨e1, e2, hbC, hGC, hVC⟩ := put_out q2
    have HTC := Lib.hid ((HTA.out.trans q3).then hbC (Nat.le_refl _))
    have HXC := Lib.hid ((q3.blk HGA.out (by decide)).below hbC)
    have HYC := Lib.hid ((q3.outv HVA.out).below hbC)
    have HGC := Lib.hid hGC
    have HVC := Lib.hid hVC
    clear hbC hGC hVC q1 q2 q3 hSA
    go_upto_region 13 with (fail)
    obtain ⟨wC, hwC⟩ : ∃ x, x = (wB.alloc (.cells out0.toArray 90)).setCells wB.heap.size 0 lB := ⟨_, rfl⟩
    rw [← hwC] at HTC HGC HVC HXC HYC ⊢
    obtain ⟨xC, hxC⟩ : ∃ x, x = wB.heap.size := ⟨_, rfl⟩
    rw [← hxC] at HGC ⊢
    clear hwC hxC e1 e2
    obtain ⟨g1, g2⟩ := out_at HXC.out HYC.out.len (Below.refl _ _)
    go_wp2_with fail
    refine Calls.mono (quiet_is l8 Ou.zero wC HYC.out rfl rfl rfl) ?_
    rintro en wD ⟨rfl, hbD⟩
    obtain ⟨da0, dc0, na0, nc0, ⟨P60, P62, P66, P68, P69⟩, ⟨P71, P72, P73, P74⟩, hX0, hY0⟩ := HVC.out.parts
    replace P60 : lB[60]? = some (.bool true) := P60
    replace P68 : lB[68]? = some (.int .i64 old) := P68
    replace P69 : lB[69]? = some (.int .i64 new) := P69
    replace P73 : lB[73]? = some (.int .i64 1) := P73
    have k60 := (HGC.out.below hbD).cell P60
    have k68 := (HGC.out.below hbD).cell P68
    have k69 := (HGC.out.below hbD).cell P69
    have k73 := (HGC.out.below hbD).cell P73
    have HZ : Hid (Below w.heap.size w wD) := Lib.hid (HTC.out.then hbD (Nat.le_refl _)).low
    clear g1 g2 P60 P62 P66 P68 P69 P71 P72 P73 P74 hX0 hY0 hbD
    go_wp2_with fail
    go_ret
    exact ⟨rfl, HZ.out⟩
end Go.Proofs.Ytldcpnabgpjgiaa.Walks
