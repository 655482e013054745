/-
  The walk of PlateFails.
-/
import Derived.Test.YtdhidcoglioalaaPlateJ
namespace Go.Proofs.Ytdhidcoglioalaa.Walks
open Go.RowKit Plain
set_option linter.unusedVariables false

abbrev L7 : List Byte := bytesOf (oneS 7)
def Fp (k : Nat) : Nat → Pl
  | 0 => (Pl.made 64).fail k [true]
  | i + 1 => (Fp k i).write i L7
def Fl (k i : Nat) : Pl := ⟨64, fun _ => zeroS, fun j => if j < i then some (secOf L7) else none, false, true, (k : Int) - i, [true]⟩
theorem l7_len : L7.length = 64 := bytesOf_length _
theorem Fl_has (k i : Nat) (h : i < 64) : (Fl k i).has i = 0 := by
  unfold Pl.has
  show (if (false = true) then 50 else if (i : Int) < 0 ∨ (64 : Int) ≤ i then 9 else 0) = (0 : Int)
  rw [if_neg (by simp), if_neg (by omega)]
theorem Fl_goes (k i : Nat) : (Fl k i).goes = decide (k ≤ i) := by
  unfold Pl.goes
  show (true && !decide (0 < (k : Int) - i)) = _
  by_cases h : k ≤ i
  · rw [decide_eq_true h, decide_eq_false (by omega)]; rfl
  · rw [decide_eq_false h, decide_eq_true (by omega)]; rfl
theorem Fl_step {k i : Nat} (h : i < k) (hk : k ≤ 40) : (Fl k i).write i L7 = Fl k (i + 1) ∧ (Fl k i).writeE i L7 = 0 := by
  have h0 := Fl_has k i (by omega)
  have hg : (Fl k i).goes = false := by rw [Fl_goes]; exact decide_eq_false (by omega)
  constructor
  · unfold Pl.write
    rw [if_neg (by rw [h0]; simp), if_neg (by rw [l7_len]; simp), hg]
    have hd : (Fl k i).did = { Fl k i with left := (Fl k i).left - 1 } := by
      unfold Pl.did
      rw [if_pos (show (Fl k i).fails = true from rfl), if_pos (show 0 < (Fl k i).left by show (0 : Int) < (k : Int) - i; omega)]
    rw [hd]
    show (⟨64, _, _, _, _, _, _⟩ : Pl) = ⟨64, _, _, _, _, _, _⟩
    have e1 : upd (fun j => if j < i then some (secOf L7) else none) (Int.toNat i) (some (secOf L7)) = fun j => if j < i + 1 then some (secOf L7) else none := by
      funext j
      unfold upd
      rw [Int.toNat_natCast]
      by_cases e : j = i
      · rw [if_pos e, if_pos (by omega)]
      · rw [if_neg e]
        show (if j < i then some (secOf L7) else none) = _
        by_cases hj : j < i
        · rw [if_pos hj, if_pos (by omega)]
        · rw [if_neg hj, if_neg (by omega)]
    have e2 : (k : Int) - i - 1 = (k : Int) - ((i + 1 : Nat) : Int) := by omega
    show (⟨64, fun _ => zeroS, upd (fun j => if j < i then some (secOf L7) else none) (Int.toNat i) (some (secOf L7)), false, true, (k : Int) - i - 1, [true]⟩ : Pl) = Fl k (i + 1)
    rw [e1, e2]
    rfl
  · unfold Pl.writeE
    rw [if_neg (by rw [h0]; simp), if_neg (by rw [l7_len]; simp), hg]
    rfl
def Gp (k : Nat) : Pl := (Fl k k).gone [true]
theorem Fl_last {k : Nat} (hk : k ≤ 40) : (Fl k k).write k L7 = Gp k ∧ (Fl k k).writeE k L7 = 50 := by
  have h0 := Fl_has k k (by omega)
  have hg : (Fl k k).goes = true := by rw [Fl_goes]; exact decide_eq_true (Nat.le_refl _)
  constructor
  · unfold Pl.write
    rw [if_neg (by rw [h0]; simp), if_neg (by rw [l7_len]; simp), hg]
    show (Fl k k).did = Gp k
    unfold Pl.did
    rw [if_pos (show (Fl k k).fails = true from rfl), if_neg (show ¬ 0 < (Fl k k).left by show ¬ (0 : Int) < (k : Int) - k; omega)]
    rfl
  · unfold Pl.writeE
    rw [if_neg (by rw [h0]; simp), if_neg (by rw [l7_len]; simp), hg]
    rfl
theorem Gp_step (k i : Nat) : (Gp k).write i L7 = Gp k ∧ (Gp k).writeE i L7 = 50 := by
  have h0 : (Gp k).has i = 50 := rfl
  constructor
  · unfold Pl.write
    rw [if_pos (by rw [h0]; simp)]
  · unfold Pl.writeE
    rw [if_pos (by rw [h0]; simp), h0]
theorem Fp_live {k : Nat} (hk : k ≤ 40) : ∀ i, i ≤ k → Fp k i = Fl k i
  | 0, _ => by
    show (Pl.made 64).fail k [true] = Fl k 0
    unfold Pl.fail
    rw [if_neg (by simp [Pl.made])]
    unfold Pl.failed Fl
    have e : decide ((0 : Int) ≤ (k : Int)) = true := decide_eq_true (by omega)
    have e2 : (k : Int) - ((0 : Nat) : Int) = k := by omega
    simp only [e, e2, Pl.made]
    congr 1
  | i + 1, h => by
    show (Fp k i).write i L7 = _
    rw [Fp_live hk i (by omega)]
    exact (Fl_step (by omega) hk).1
theorem Fp_dead {k : Nat} (hk : k ≤ 40) : ∀ d, Fp k (k + 1 + d) = Gp k
  | 0 => by
    show (Fp k k).write k L7 = _
    rw [Fp_live hk k (Nat.le_refl _)]
    exact (Fl_last hk).1
  | d + 1 => by
    show (Fp k (k + 1 + d)).write _ L7 = _
    rw [Fp_dead hk d]
    exact (Gp_step k _).1
theorem Fp_E {k i : Nat} (hk : k ≤ 40) : (Fp k i).writeE i L7 = if i < k then 0 else 50 := by
  by_cases h : i < k
  · rw [if_pos h, Fp_live hk i (by omega)]
    exact (Fl_step h hk).2
  · rw [if_neg h]
    by_cases e : i = k
    · subst e
      rw [Fp_live hk i (Nat.le_refl _)]
      exact (Fl_last hk).2
    · obtain ⟨d, rfl⟩ : ∃ d, i = k + 1 + d := ⟨i - k - 1, by omega⟩
      rw [Fp_dead hk d]
      exact (Gp_step k _).2
theorem Fp_isDead {k i : Nat} (hk : k ≤ 40) : (Fp k (i + 1)).dead = decide (k ≤ i) := by
  by_cases h : i < k
  · rw [decide_eq_false (by omega), Fp_live hk (i + 1) (by omega)]
    rfl
  · rw [decide_eq_true (by omega)]
    obtain ⟨d, hd⟩ : ∃ d, i + 1 = k + 1 + d := ⟨i - k, by omega⟩
    rw [hd, Fp_dead hk d]
    rfl
theorem sec7 : bytesOf (secOf L7) = L7 := by
  unfold L7 bytesOf
  refine List.map_congr_left fun j hj => ?_
  have := List.mem_range.1 hj
  simp [secOf, List.getD_eq_getElem?_getD, this]
theorem Gp_has7 (k : Nat) : hasB (Gp k).boot 0 7 = decide (0 < k) := by
  have h0 : (Gp k).boot.has 0 = 0 := rfl
  unfold hasB
  rw [decide_eq_true h0, Bool.true_and]
  have hs : (Gp k).boot.seen (Int.toNat 0) = if 0 < k then secOf L7 else zeroS := by
    show (Fl k k).goneAt [true] 0 = _
    unfold Pl.goneAt
    show (match (if 0 < k then some (secOf L7) else none) with | some x => if [true].getD ((Fl k k).rank 0) false = true then x else zeroS | none => zeroS) = _
    by_cases h : 0 < k
    · simp only [if_pos h]
      rfl
    · simp only [if_neg h]
  rw [hs]
  by_cases h : 0 < k
  · rw [if_pos h, decide_eq_true h]
    exact decide_eq_true sec7
  · rw [if_neg h, decide_eq_false h]
    rfl
theorem Gp_has1 (k : Nat) : hasB (Gp k).boot 1 0 = true := by
  have h0 : (Gp k).boot.has 1 = 0 := rfl
  unfold hasB
  rw [decide_eq_true h0, Bool.true_and]
  have hs : (Gp k).boot.seen (Int.toNat 1) = zeroS := by
    show (Fl k k).goneAt [true] 1 = _
    unfold Pl.goneAt
    show (match (if 1 < k then some (secOf L7) else none) with | some x => if [true].getD ((Fl k k).rank 1) false = true then x else zeroS | none => zeroS) = _
    by_cases h : 1 < k
    · simp only [if_pos h]
      have : (Fl k k).rank 1 = 1 := by
        unfold Pl.rank
        show ((List.range 1).filter fun j => (if j < k then some (secOf L7) else none).isSome).length = 1
        have : (0 : Nat) < k := by omega
        simp [List.range_succ, this]
      rw [this]
      rfl
    · simp only [if_neg h]
  rw [hs]
  rfl
set_option maxRecDepth 20000 in
set_option maxHeartbeats 4000000 in
theorem plateFails_walk (n : Int) (w : World) : Calls Try.prog 5 #[.int .i64 n] w fun e w' => e = .returned (.bool true) ∧ Below w.heap.size w w' := by
  obtain ⟨k, hk⟩ : ∃ k : Nat, n % 41 = k := ⟨(n % 41).toNat, by omega⟩
  have hk40 : k ≤ 40 := by omega
  have hbr := bring_any n 41
  go_enter Try.func5, Try.ntmps5
  go_wp2_with fail
  refine Calls.mono (s_new 64 (by decide) (by decide) w w (Below.refl _ _)) ?_
  rintro e w1 ⟨q, rfl, hS, _, _⟩
  have HS := Lib.hid hS
  clear hS
  go_wp2_with fail
  refine Calls.mono (hbr _ (by decide) (by decide)) ?_
  rintro e w2 ⟨rfl, rfl⟩
  rw [hk]
  have HK := Lib.hid hk40
  clear hk hbr hk40
  go_wp2_with fail
  refine Calls.mono (s_fail (P' := Fp k 0) (l := [true]) rfl (by have := HK.out; omega) (HS.out.below (Below.new _ (.cells #[.bool true] 4))) (bools_new w1 [true] (by decide) 4) (fun e => by cases e) (z := 0) rfl rfl) ?_
  rintro e w3 ⟨rfl, hS, _⟩
  clear HS
  have HS := Lib.hid hS
  clear hS
  go_wp2_with fail
  go_loopw [6] (fun i wr => ∃ j : Nat, j ≤ 50 ∧ i = .int .i64 j ∧ Hid (St w wr q (Fp k j))) (fun i _ => 50 - (RowKit.intOf i).toNat)
  case atStart => exact ⟨0, by omega, rfl, HS⟩
  case round =>
    obtain ⟨j, hj, rfl, HW⟩ := hrel
    by_cases hlt : j < 50
    · go_wp2_with fail
      refine Calls.mono (s_full (b := 7) rfl _) ?_
      rintro e w4 ⟨rfl, rfl⟩
      go_wp2_with fail
      by_cases hjk : j < k
      · have hz : (Fp k j).writeE j L7 = 0 := by rw [Fp_E HK.out, if_pos hjk]
        have hd : (Fp k (j + 1)).dead = false := by rw [Fp_isDead HK.out]; exact decide_eq_false (by omega)
        have HZ := Lib.hid hz
        have HD := Lib.hid hd
        have h1 : (j : Int) < k := by omega
        clear hz hd
        refine Calls.mono (s_put (P' := Fp k (j + 1)) HW.out HZ.out rfl) ?_
        rintro e w5 ⟨rfl, hS, _⟩
        have HS5 := Lib.hid hS
        clear hS
        go_wp2_with fail
        refine Calls.mono (s_dead HS5.out HD.out) ?_
        rintro e w6 ⟨rfl, rfl⟩
        go_wp2
        go_roundw
        case rel => exact ⟨j + 1, by omega, by go_num, HS5⟩
        case measure => simp [RowKit.intOf]; omega
      · have hz : (Fp k j).writeE j L7 = 50 := by rw [Fp_E HK.out, if_neg hjk]
        have hd : (Fp k (j + 1)).dead = true := by rw [Fp_isDead HK.out]; exact decide_eq_true (by omega)
        have HZ := Lib.hid hz
        have HD := Lib.hid hd
        have h1 : (k : Int) ≤ j := by omega
        clear hz hd
        refine Calls.mono (s_put (P' := Fp k (j + 1)) HW.out HZ.out rfl) ?_
        rintro e w5 ⟨rfl, hS, _⟩
        have HS5 := Lib.hid hS
        clear hS
        go_wp2_with fail
        refine Calls.mono (s_dead HS5.out HD.out) ?_
        rintro e w6 ⟨rfl, rfl⟩
        go_wp2
        go_roundw
        case rel => exact ⟨j + 1, by omega, by go_num, HS5⟩
        case measure => simp [RowKit.intOf]; omega
    · obtain rfl : j = 50 := by omega
      have e1 : Fp k 50 = Gp k := by
        have hk := HK.out
        obtain ⟨d, hd⟩ : ∃ d, 50 = k + 1 + d := ⟨49 - k, by omega⟩
        rw [hd]
        exact Fp_dead hk d
      rw [e1] at HW
      clear e1
      go_wp2_with fail
      refine Calls.mono (s_flush (P' := Gp k) (z := 50) HW.out rfl rfl) ?_
      rintro e w4 ⟨rfl, hS, _⟩
      have HS4 := Lib.hid hS
      clear hS HW
      go_wp2_with fail
      refine Calls.mono (s_waits (l := []) HS4.out rfl rfl) ?_
      rintro e w5 ⟨a5, c5, rfl, _, hS, _⟩
      have HS5 := Lib.hid hS
      clear hS HS4
      go_wp2_with fail
      refine Calls.mono (s_boot (P' := (Gp k).boot) HS5.out rfl) ?_
      rintro e w6 ⟨rfl, hS, _⟩
      have HS6 := Lib.hid hS
      clear hS HS5
      go_wp2_with fail
      refine Calls.mono (s_has (b := 7) rfl HS6.out (Gp_has7 k)) ?_
      rintro e w7 ⟨rfl, hS, _⟩
      have HS7 := Lib.hid hS
      clear hS HS6
      have hq : decide (0 < k) = decide ((0 : Int) < (k : Int)) := by simp
      go_wp2_with fail
      refine Calls.mono (s_has (b := 0) rfl HS7.out (Gp_has1 k)) ?_
      rintro e w8 ⟨rfl, hS, _⟩
      have HS8 := Lib.hid hS
      clear hS HS7
      go_wp2_with fail
      refine Calls.mono (s_flush (P' := (Gp k).boot.flush) (z := 0) HS8.out rfl rfl) ?_
      rintro e w9 ⟨rfl, hS, _⟩
      have HS9 := Lib.hid hS
      clear hS HS8
      go_wp2_with fail
      refine Calls.mono (awake_any _) ?_
      rintro e w10 ⟨rfl, hb⟩
      have HB := Lib.hid hb
      clear hb
      go_wp2
      go_ret
      exact ⟨rfl, Below.step HS9.out.be HB.out⟩
end Go.Proofs.Ytdhidcoglioalaa.Walks
