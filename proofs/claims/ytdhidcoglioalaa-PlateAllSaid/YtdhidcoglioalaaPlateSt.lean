/-
  The walk of PlateStays.
-/
import Derived.Test.YtdhidcoglioalaaPlayW
namespace Go.Proofs.Ytdhidcoglioalaa.Walks
open Go.RowKit Plain
set_option linter.unusedVariables false
attribute [local go_sem] arr8

theorem s_play {w w1 : World} {q : PLoc} {P : Pl} (h : St w w1 q P) (hP : PInv P (fun _ => 0) (fun _ => 0)) {a : Option Addr} {cap n : Nat} {l : List PutL} (hn : l.length = n) (hL : Puts w1 a l) (hdis : l ≠ [] → ∀ ad, a = some ad → ad.block ∉ q.R) :
    Calls Try.prog 15 #[pv q, .slice a n cap] w1 fun e w2 => ∃ P', e = .returned (.tuple #[.agg (arr8 (wasis (l.take 60)).1), .agg (arr8 (wasis (l.take 60)).2)]) ∧ St w w2 q P' ∧ PInv P' (wasis (l.take 60)).1 (wasis (l.take 60)).2 ∧ Only q.R w1 w2 := by
  rw [← hn]
  refine Calls.mono (play_any w1 q P h.pl hP a cap l hL hdis) ?_
  rintro e w2 ⟨P', rfl, hp, hi, ho⟩
  exact ⟨P', rfl, h.only hp ho, hi, ho⟩
theorem puts_dis {w : World} {q : PLoc} {a : Option Addr} {l : List PutL} (hL : Puts w a l) (hR : ∀ b ∈ q.R, w.heap.size ≤ b) (h0 : l ≠ []) : ∀ ad, a = some ad → ad.block ∉ q.R := by
  intro ad e hm
  have h1 := hR _ hm
  rcases hL.2 with h | ⟨b, off, rfl, hc⟩
  · exact h0 h
  · cases e
    have := block_lt_of_cell (hc 0 (List.length_pos_iff.2 h0)).1
    simp only at this h1
    omega
theorem bools_dis {w : World} {q : PLoc} {a : Option Addr} {l : List Bool} (hL : Bools w a l) (hR : ∀ b ∈ q.R, w.heap.size ≤ b) (h0 : l ≠ []) : ∀ ad, a = some ad → ad.block ∉ q.R := by
  intro ad e hm
  have h1 := hR _ hm
  rcases hL.2 with h | ⟨b, off, rfl, hc⟩
  · exact h0 h
  · cases e
    have := block_lt_of_cell (hc 0 (List.length_pos_iff.2 h0))
    simp only at this h1
    omega
/-- Puts that are none may lie anywhere. -/
theorem puts_any {w w1 : World} {q : PLoc} {P : Pl} (h : St w w1 q P) (hP : PInv P (fun _ => 0) (fun _ => 0)) {a : Option Addr} {cap n : Nat} {l : List PutL} (hn : l.length = n) (hL : Puts w a l) :
    Calls Try.prog 15 #[pv q, .slice a n cap] w1 fun e w2 => ∃ P', e = .returned (.tuple #[.agg (arr8 (wasis (l.take 60)).1), .agg (arr8 (wasis (l.take 60)).2)]) ∧ St w w2 q P' ∧ PInv P' (wasis (l.take 60)).1 (wasis (l.take 60)).2 ∧ Only q.R w1 w2 :=
  s_play h hP hn (hL.below h.be) (fun h0 => puts_dis hL h.ge h0)
theorem s_waits2 {w w1 : World} {q : PLoc} {P : Pl} (h : St w w1 q P) (hd : P.dead = false) : Calls Try.prog 16 #[pv q] w1 fun e w2 => ∃ a cap, e = .returned (.slice a P.ws.length cap) ∧ IntsN w2 a P.ws ∧ (∀ ad, a = some ad → ad.block ∉ q.R) ∧ St w w2 q P ∧ Below w1.heap.size w1 w2 := by
  have e : wsD P = P.ws := by unfold wsD; rw [if_neg (by rw [hd]; simp)]
  refine Calls.mono (waits_any w1 q P h.pl) ?_
  rintro e w2 ⟨a, cap, rfl, hI, hf, hb⟩
  rw [e] at hI ⊢
  exact ⟨a, cap, rfl, hI, fun ad e hm => by have h1 := hf ad e; have h2 := h.pl.lt _ hm; omega, h.below hb, hb⟩
theorem IntsN.only {w w' : World} {R : List Nat} {a : Option Addr} {l : List Nat} (h : IntsN w a l) (ho : Only R w w') (hn : ∀ ad, a = some ad → ad.block ∉ R) : IntsN w' a l := by
  refine ⟨h.1, ?_⟩
  rcases h.2 with h0 | ⟨b, off, rfl, hc⟩
  · exact .inl h0
  · exact .inr ⟨b, off, rfl, fun i hi => ho.cell (hn ⟨b, off, none⟩ rfl) (hc i hi)⟩
set_option maxRecDepth 20000 in
set_option maxHeartbeats 4000000 in
theorem plateStays_walk (a : Option Addr) (cap : Nat) (l : List PutL) (ak : Option Addr) (ck : Nat) (keep : List Bool) (w : World) (hL : Puts w a l) (hB : Bools w ak keep) (_ : ak = none → ck = 0) :
    Calls Try.prog 3 #[.slice a l.length cap, .slice ak keep.length ck] w fun e w' => e = .returned (.bool true) ∧ Below w.heap.size w w' := by
  obtain ⟨n, hn⟩ : ∃ n, n = l.length := ⟨_, rfl⟩
  obtain ⟨m, hm⟩ : ∃ m, m = keep.length := ⟨_, rfl⟩
  have hmm : m ≤ 140737488355328 := by have := hB.1; omega
  rw [← hn, ← hm]
  have HN := Lib.hid hn.symm
  have HM := Lib.hid hm.symm
  have HL := Lib.hid hL
  have HB := Lib.hid hB
  obtain ⟨f, hf⟩ : ∃ f, f = (wasis (l.take 60)).1 := ⟨_, rfl⟩
  obtain ⟨g, hg⟩ : ∃ g, g = (wasis (l.take 60)).2 := ⟨_, rfl⟩
  have HPl : Hid (∀ (w1 : World) (q : PLoc) (P : Pl), St w w1 q P → PInv P (fun _ => 0) (fun _ => 0) → Calls Try.prog 15 #[pv q, .slice a n cap] w1 fun e w2 => ∃ P', e = .returned (.tuple #[.agg (arr8 f), .agg (arr8 g)]) ∧ St w w2 q P' ∧ PInv P' f g ∧ Only q.R w1 w2) := Lib.hid (by
    intro w1 q P h1 h2
    rw [hf, hg]
    exact puts_any h1 h2 hn.symm hL)
  clear hL hB hn hm hf hg
  go_enter Try.func3, Try.ntmps3
  go_wp2_with fail
  refine Calls.mono (s_new 8 (by decide) (by decide) w w (Below.refl _ _)) ?_
  rintro e w1 ⟨q, rfl, hS, _, _⟩
  have HS := Lib.hid hS
  clear hS
  go_wp2_with fail
  refine Calls.mono (HPl.out _ _ _ HS.out pinv_made) ?_
  rintro e w2 ⟨P, rfl, hS, hI, _⟩
  clear HS
  have HS := Lib.hid hS
  have HI := Lib.hid hI
  clear hS hI
  go_wp2_with fail
  obtain ⟨w3, hW⟩ : ∃ x, x = (w2.alloc (.cells (arr8 f) 28)).alloc (.cells (arr8 g) 28) := ⟨_, rfl⟩
  have hbw : Below w2.heap.size w2 w3 := by rw [hW]; exact Below.step (Below.new _ _) (Below.new _ _)
  have k7 : Box8 w3 w2.heap.size f := by rw [hW]; exact Only.box (R := []) (Box8.new w2 f 28) (Only.of_below (Below.new _ _)) (by simp)
  have k8 : Box8 w3 (w2.heap.size + 1) g := by
    have h := Box8.new (w2.alloc (.cells (arr8 f) 28)) g 28
    rw [hW]
    simpa using h
  have hS := HS.out.below hbw
  have hge : w.heap.size ≤ w2.heap.size := HS.out.be.size
  have hnb7 : w2.heap.size ∉ q.R := fun hm => Nat.lt_irrefl _ (HS.out.pl.lt _ hm)
  have hnb8 : w2.heap.size + 1 ∉ q.R := fun hm => by have := HS.out.pl.lt _ hm; omega
  have NB7 := Lib.hid hnb7
  have NB8 := Lib.hid hnb8
  unfold arr8 at hW
  rw [← hW]
  have K7 := Lib.hid k7
  have K8 := Lib.hid k8
  clear hW hbw k7 k8 hge hnb7 hnb8
  clear HS
  have HS := Lib.hid hS
  clear hS
  refine Calls.mono (s_waits2 HS.out HI.out.live) ?_
  rintro e w4 ⟨a4, c4, rfl, hW4, hd4, hS, hb4⟩
  obtain ⟨m4, hm4⟩ : ∃ m4, m4 = P.ws.length := ⟨_, rfl⟩
  rw [← hm4]
  have HM4 := Lib.hid hm4
  have HW4 := Lib.hid hW4
  have HD4 := Lib.hid hd4
  have K7 := Lib.hid (Only.box (R := []) K7.out (Only.of_below hb4) (by simp))
  have K8 := Lib.hid (Only.box (R := []) K8.out (Only.of_below hb4) (by simp))
  have hmm4 : m4 ≤ 8 := by
    have h1 : P.ws.length ≤ (List.range P.n).length := List.length_filter_le _ _
    rw [List.length_range, HI.out.n] at h1
    omega
  clear hm4 hW4 hb4 hd4
  clear HS
  have HS := Lib.hid hS
  clear hS
  go_wp2_with fail
  refine Calls.mono (s_crash (P' := P.gone keep) (l := keep) HM.out HS.out (HB.out.below HS.out.be) (fun h0 => bools_dis HB.out HS.out.ge h0) (z := 0) (may_live HI.out.live) (HI.out.crash keep)) ?_
  rintro e w5 ⟨rfl, hS, ho5⟩
  have HOk := Lib.hid HS.out.pl.ok
  have HW4 := Lib.hid (HW4.out.only ho5 HD4.out)
  have K7 := Lib.hid (Only.box K7.out ho5 NB7.out)
  have K8 := Lib.hid (Only.box K8.out ho5 NB8.out)
  clear ho5
  clear HS
  have HS := Lib.hid hS
  clear hS
  go_wp2_with fail
  refine Calls.mono (s_boot (P' := (P.gone keep).boot) HS.out rfl) ?_
  rintro e w6 ⟨rfl, hS, ho6⟩
  have HW6 := Lib.hid (HW4.out.only ho6 HD4.out)
  have K7 := Lib.hid (Only.box K7.out ho6 NB7.out)
  have K8 := Lib.hid (Only.box K8.out ho6 NB8.out)
  clear ho6 HW4
  clear HS
  have HS := Lib.hid hS
  clear hS
  have HB6 := Lib.hid (HB.out.below HS.out.be)
  obtain ⟨Q, hQ⟩ : ∃ Q, Q = (P.gone keep).boot := ⟨_, rfl⟩
  have HF : Hid (∀ k : Nat, k < 8 → hasB Q k (f k) = true ∨ hasB Q k (g k) = true) := Lib.hid (fun k hk => by rw [hQ]; exact HI.out.fall keep hk)
  have HTo : Hid (∀ j (hj : j < P.ws.length), P.ws[j] < 8 ∧ hasB Q (P.ws[j] : Nat) (if keep.getD j false then g P.ws[j] else f P.ws[j]) = true) := Lib.hid (fun j hj => by rw [hQ]; exact HI.out.told HOk.out keep hj)
  rw [← hQ] at HS
  clear hQ
  go_wp2_with fail
  go_loopw [10] (fun i wr => ∃ j : Nat, j ≤ 8 ∧ i = .int .i64 j ∧ Hid (Below w6.heap.size w6 wr)) (fun i _ => 8 - (RowKit.intOf i).toNat)
  case atStart => exact ⟨0, by omega, rfl, Lib.hid (Below.refl _ _)⟩
  case round =>
    obtain ⟨j, hj8, rfl, HR⟩ := hrel
    by_cases hlt : j < 8
    · have x7 := (Only.box (R := []) K7.out (Only.of_below HR.out) (by simp)).1 j hlt
      go_wp2_with fail
      cases hr : hasB Q j (f j) with
      | true =>
        have HRr := Lib.hid hr
        clear hr
        refine Calls.mono (s_has (b := f j) rfl (HS.out.below HR.out) HRr.out) ?_
        rintro e w7 ⟨rfl, _, hb7⟩
        have HR7 := Lib.hid (Below.step HR.out hb7)
        clear hb7
        go_wp2
        go_roundw
        case rel => exact ⟨j + 1, by omega, by go_num, HR7⟩
        case measure => simp [RowKit.intOf]; omega
      | false =>
        have hr2 : hasB Q j (g j) = true := by
          rcases HF.out j hlt with h | h
          · rw [hr] at h; cases h
          · exact h
        have HRr := Lib.hid hr
        have HRr2 := Lib.hid hr2
        clear hr hr2
        refine Calls.mono (s_has (b := f j) rfl (HS.out.below HR.out) HRr.out) ?_
        rintro e w7 ⟨rfl, _, hb7⟩
        have HR7 := Lib.hid (Below.step HR.out hb7)
        have x8 := (Only.box (R := []) K8.out (Only.of_below HR7.out) (by simp)).1 j hlt
        clear hb7
        go_wp2_with fail
        refine Calls.mono (s_has (b := g j) rfl (HS.out.below HR7.out) HRr2.out) ?_
        rintro e w8 ⟨rfl, _, hb8⟩
        have HR8 := Lib.hid (Below.step HR7.out hb8)
        clear hb8
        go_wp2
        go_roundw
        case rel => exact ⟨j + 1, by omega, by go_num, HR8⟩
        case measure => simp [RowKit.intOf]; omega
    · go_wp2_with fail
      clear hlt hj8
      go_loopw [11] (fun i wr' => ∃ j : Nat, j ≤ m4 ∧ i = .int .i64 j ∧ Hid (Below w6.heap.size w6 wr')) (fun i _ => m4 - (RowKit.intOf i).toNat)
      case atStart => exact ⟨0, by omega, rfl, HR⟩
      case round =>
        obtain ⟨i, hi8, rfl, HR2⟩ := hrel
        by_cases hlt : i < m4
        · have hiw : i < P.ws.length := by have := HM4.out; omega
          obtain ⟨htn, hto⟩ := HTo.out i hiw
          obtain ⟨t, ht⟩ : ∃ t, t = P.ws[i] := ⟨_, rfl⟩
          obtain ⟨b, off, rfl, hb0, hc⟩ := HW6.out.at_lt (k := i) (by simpa using hiw)
          have hcell := keepc HR2.out (hc i (by simpa using hiw))
          rw [List.getElem_map, ← ht] at hcell
          rw [← ht] at htn hto
          have x7 := (Only.box (R := []) K7.out (Only.of_below HR2.out) (by simp)).1 t htn
          have x8 := (Only.box (R := []) K8.out (Only.of_below HR2.out) (by simp)).1 t htn
          have hbr : (t : Int) % 8 = t := by omega
          have HBr := Lib.hid (bring_any (t : Int) 8)
          rw [hbr] at HBr
          have HTo' := Lib.hid hto
          clear ht hc hbr hto hiw
          go_wp2_with fail
          refine Calls.mono (HBr.out _ (by decide) (by decide)) ?_
          rintro e w7 ⟨rfl, rfl⟩
          by_cases him : i < m
          · have him' : i < keep.length := by have := HM.out; omega
            obtain ⟨b', off', rfl, _, hc'⟩ := HB6.out.at_lt him'
            obtain ⟨v, hv⟩ : ∃ v, v = keep[i] := ⟨_, rfl⟩
            have hkc := keepc HR2.out (hc' i him')
            rw [← hv] at hkc
            have hgt : keep.getD i false = v := by rw [hv, List.getD_eq_getElem?_getD, List.getElem?_eq_getElem him']; rfl
            rw [hgt] at HTo'
            clear hc' hv hgt him'
            cases v
            · have HQ := Lib.hid (show hasB Q (t : Nat) (f t) = true from HTo'.out)
              clear HTo'
              go_wp2_with fail
              refine Calls.mono (s_has (b := f t) rfl (HS.out.below HR2.out) HQ.out) ?_
              rintro e w8 ⟨rfl, _, hb8⟩
              have HR8 := Lib.hid (Below.step HR2.out hb8)
              clear hb8
              go_wp2
              go_roundw
              case rel => exact ⟨i + 1, by omega, by go_num, HR8⟩
              case measure => simp [RowKit.intOf]; omega
            · have HQ := Lib.hid (show hasB Q (t : Nat) (g t) = true from HTo'.out)
              clear HTo'
              go_wp2_with fail
              refine Calls.mono (HBr.out _ (by decide) (by decide)) ?_
              rintro e w7 ⟨rfl, rfl⟩
              go_wp2_with fail
              refine Calls.mono (s_has (b := g t) rfl (HS.out.below HR2.out) HQ.out) ?_
              rintro e w8 ⟨rfl, _, hb8⟩
              have HR8 := Lib.hid (Below.step HR2.out hb8)
              clear hb8
              go_wp2
              go_roundw
              case rel => exact ⟨i + 1, by omega, by go_num, HR8⟩
              case measure => simp [RowKit.intOf]; omega
          · have hgt : keep.getD i false = false := by
              rw [List.getD_eq_getElem?_getD, List.getElem?_eq_none (by have := HM.out; omega)]; rfl
            rw [hgt] at HTo'
            have HQ := Lib.hid (show hasB Q (t : Nat) (f t) = true from HTo'.out)
            clear HTo' hgt
            go_wp2_with fail
            refine Calls.mono (s_has (b := f t) rfl (HS.out.below HR2.out) HQ.out) ?_
            rintro e w8 ⟨rfl, _, hb8⟩
            have HR8 := Lib.hid (Below.step HR2.out hb8)
            clear hb8
            go_wp2
            go_roundw
            case rel => exact ⟨i + 1, by omega, by go_num, HR8⟩
            case measure => simp [RowKit.intOf]; omega
        · go_wp2_with fail
          refine Calls.mono (awake_any _) ?_
          rintro e w9 ⟨rfl, hb9⟩
          have HB9 := Lib.hid hb9
          clear hb9
          go_wp2
          go_ret
          exact ⟨rfl, Below.step (Below.step HS.out.be HR2.out) HB9.out⟩
end Go.Proofs.Ytdhidcoglioalaa.Walks
