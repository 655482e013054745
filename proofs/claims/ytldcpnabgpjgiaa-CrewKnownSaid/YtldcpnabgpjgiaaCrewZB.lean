/-
  The walk of the law CrewRanked.
-/
import Derived.Test.YtldcpnabgpjgiaaCrewQ
namespace Go.Proofs.Ytldcpnabgpjgiaa.Walks
open Go.RowKit Plain
set_option linter.unusedVariables false

theorem rank_n {f : Int} {l r : List Int} {many V E : Int} (h : rankV f l r many = V ∧ rankE f l r many = E) (n : Nat) (hr : r.length = n) (a : Option Addr) (cap : Nat) (a2 : Option Addr) (cap2 : Nat) (w : World) (hI : Ints w a l) (hR : Ints w a2 r) (hn : a2 = none → cap2 = 0) :
    Calls Try.prog 84 #[.agg #[.int .i64 f, .slice a l.length cap], .slice a2 n cap2, .int .i64 many] w fun e w' => e = .returned (.tuple #[.int .i64 V, .int .i64 E]) ∧ Below w.heap.size w w' := by
  subst hr; exact rank_is h a cap a2 cap2 w hI hR hn
theorem rank_fine {f : Int} {l r : List Int} {many : Nat} (hg : goodC f l = true) (hl : r.length = l.length) (h1 : 1 ≤ many) (h2 : many ≤ r.length) : rankV f l r (many : Int) = rankC r many ∧ rankE f l r (many : Int) = 0 := by
  have h : rankOk f l r (many : Int) = true := by simp [rankOk, hl]; omega
  exact ⟨(rankE_ok hg h).2.trans (by simp), (rankE_ok hg h).1⟩
/-- The first of an array's numbers. -/
theorem ints_arr {w : World} {g : Nat} {ys : List Int} (h : ∀ j, j < ys.length → w.cell? ⟨g, j, none⟩ = some (.int .i64 (ys.getD j 0))) (hm : ys.length ≤ 9223372036854775807) (n : Nat) : Ints w (some ⟨g, 0, none⟩) (ys.take n) :=
  ⟨by rw [List.length_take]; omega, .inr ⟨g, 0, rfl, fun i hi => by
    rw [List.length_take] at hi
    rw [Nat.zero_add, h i (by omega), List.getElem_take]
    simp [List.getD, List.getElem?_eq_getElem (show i < ys.length by omega)]⟩⟩

set_option maxRecDepth 100000 in
set_option maxHeartbeats 4000000 in
theorem crewRanked_walk (x0 x1 x2 x3 x4 x5 x6 x7 : Int) (y0 y1 y2 y3 y4 y5 y6 : Int) (pm : Int) (w : World) : Calls Try.prog 25 #[.agg #[.int .i64 x0, .int .i64 x1, .int .i64 x2, .int .i64 x3, .int .i64 x4, .int .i64 x5, .int .i64 x6, .int .i64 x7], .agg #[.int .i64 y0, .int .i64 y1, .int .i64 y2, .int .i64 y3, .int .i64 y4, .int .i64 y5, .int .i64 y6], .int .i64 pm] w fun e w' => e = .returned (.bool true) ∧ Below w.heap.size w w' := by
  go_enter Try.func25, Try.ntmps25
  go_wp2_with fail
  obtain ⟨wb, hwb⟩ : ∃ wb : World, wb = ((w.alloc (.cells #[.int .i64 x0, .int .i64 x1, .int .i64 x2, .int .i64 x3, .int .i64 x4, .int .i64 x5, .int .i64 x6, .int .i64 x7] 128)).alloc (.cells #[.int .i64 y0, .int .i64 y1, .int .i64 y2, .int .i64 y3, .int .i64 y4, .int .i64 y5, .int .i64 y6] 135)) := ⟨_, rfl⟩
  have hbb : Below w.heap.size w wb := by
    rw [hwb]; exact (Below.new w _).alloc (by simp) _
  have hh0 : wb.heap[w.heap.size]? = some (.cells #[.int .i64 x0, .int .i64 x1, .int .i64 x2, .int .i64 x3, .int .i64 x4, .int .i64 x5, .int .i64 x6, .int .i64 x7] 128 (0, 0)) := by
    rw [hwb, heap_alloc_lt (by simp; try omega)]
    have := heap_alloc_new w (.cells #[.int .i64 x0, .int .i64 x1, .int .i64 x2, .int .i64 x3, .int .i64 x4, .int .i64 x5, .int .i64 x6, .int .i64 x7] 128)
    simpa using this
  have hh1 : wb.heap[w.heap.size + 1]? = some (.cells #[.int .i64 y0, .int .i64 y1, .int .i64 y2, .int .i64 y3, .int .i64 y4, .int .i64 y5, .int .i64 y6] 135 (0, 0)) := by
    rw [hwb]
    have := heap_alloc_new (w.alloc (.cells #[.int .i64 x0, .int .i64 x1, .int .i64 x2, .int .i64 x3, .int .i64 x4, .int .i64 x5, .int .i64 x6, .int .i64 x7] 128)) (.cells #[.int .i64 y0, .int .i64 y1, .int .i64 y2, .int .i64 y3, .int .i64 y4, .int .i64 y5, .int .i64 y6] 135)
    simpa using this
  rw [← hwb]
  clear hwb
  refine Calls.mono (works_any _) ?_
  rintro e w1 ⟨rfl, hb1⟩
  have q0 : w1.cell? ⟨w.heap.size, 0, none⟩ = some (.int .i64 x0) := keepc hb1 (cell_of_row _ _ 0 _ _ _ hh0)
  have q1 : w1.cell? ⟨w.heap.size, 1, none⟩ = some (.int .i64 x1) := keepc hb1 (cell_of_row _ _ 1 _ _ _ hh0)
  have q2 : w1.cell? ⟨w.heap.size, 2, none⟩ = some (.int .i64 x2) := keepc hb1 (cell_of_row _ _ 2 _ _ _ hh0)
  have q3 : w1.cell? ⟨w.heap.size, 3, none⟩ = some (.int .i64 x3) := keepc hb1 (cell_of_row _ _ 3 _ _ _ hh0)
  have q4 : w1.cell? ⟨w.heap.size, 4, none⟩ = some (.int .i64 x4) := keepc hb1 (cell_of_row _ _ 4 _ _ _ hh0)
  have q5 : w1.cell? ⟨w.heap.size, 5, none⟩ = some (.int .i64 x5) := keepc hb1 (cell_of_row _ _ 5 _ _ _ hh0)
  have q6 : w1.cell? ⟨w.heap.size, 6, none⟩ = some (.int .i64 x6) := keepc hb1 (cell_of_row _ _ 6 _ _ _ hh0)
  have q7 : w1.cell? ⟨w.heap.size, 7, none⟩ = some (.int .i64 x7) := keepc hb1 (cell_of_row _ _ 7 _ _ _ hh0)
  have HY0 : Hid (∀ j, j < [y0, y1, y2, y3, y4, y5, y6].length → w1.cell? ⟨w.heap.size + 1, j, none⟩ = some (.int .i64 ([y0, y1, y2, y3, y4, y5, y6].getD j 0))) := Lib.hid (by
    intro j hj
    refine keepc hb1 ?_
    rw [cell_of_row _ _ _ _ _ _ hh1]
    match j, hj with
    | 0, _ => rfl
    | 1, _ => rfl
    | 2, _ => rfl
    | 3, _ => rfl
    | 4, _ => rfl
    | 5, _ => rfl
    | 6, _ => rfl)
  have hys : [y0, y1, y2, y3, y4, y5, y6].length = 7 := rfl
  generalize [y0, y1, y2, y3, y4, y5, y6] = ys at *
  have HYS := Lib.hid hys
  clear hys
  go_wp2_with fail
  refine Calls.mono (mk_good x0 x1 x2 x3 x4 x5 x6 x7 _) ?_
  rintro e w2 ⟨F, L, a, cap, HG, rfl, hO, hb2⟩
  have hlen := goodC_len HG.out
  have hf0 := hlen.1
  have hf2 := hlen.2.1
  have hl7 : L.length ≤ 7 := by have := hlen.2.2; omega
  have hl1 : 1 ≤ L.length := by have := hlen.2.2; omega
  obtain ⟨c0, c1⟩ := crew_box (w := w2) (F := F) (v := .slice a L.length cap)
  have HI := Lib.hid ((Own.ints hO (by omega)).alloc (.cells #[.int .i64 F, .slice a L.length cap] 24))
  have HN := Lib.hid (Own.nocap hO)
  have HB := Lib.hid (Below.step (Below.step (Below.step hbb hb1) hb2) (Below.new w2 (.cells #[.int .i64 F, .slice a L.length cap] 24)))
  have hb23 := Below.step hb2 (Below.new w2 (.cells #[.int .i64 F, .slice a L.length cap] 24))
  have HY : Hid (∀ j, j < ys.length → (w2.alloc (.cells #[.int .i64 F, .slice a L.length cap] 24)).cell? ⟨w.heap.size + 1, j, none⟩ = some (.int .i64 (ys.getD j 0))) := Lib.hid fun j hj => keepc hb23 (HY0.out j hj)
  clear hb23 HY0
  clear hh1 hlen hO hb1 hb2 hbb hh0 q0 q1 q2 q3 q4 q5 q6 q7
  go_wp2_with fail
  generalize (w2.alloc (.cells #[.int .i64 F, .slice a L.length cap] 24)) = w3 at *
  have hv0 := bringI_nonneg pm L.length
  have hv1 := bringI_lt pm (n := L.length) (by omega)
  refine Calls.mono (bring_any pm L.length _ (by omega) (by omega)) ?_
  rintro e w' ⟨rfl, rfl⟩
  obtain ⟨v, hv⟩ := Int.eq_ofNat_of_zero_le hv0
  rw [hv] at hv1 ⊢
  clear hv hv0
  have hR : (ys.take L.length).length = L.length := by rw [List.length_take, HYS.out]; omega
  have HIR := Lib.hid (ints_arr HY.out (by rw [HYS.out]; omega) L.length)
  obtain ⟨R, hRR⟩ : ∃ R, R = ys.take L.length := ⟨_, rfl⟩
  rw [← hRR] at hR HIR
  have HRY : Hid (∀ i (h : i < R.length), ys.getD i 0 = R[i]) := Lib.hid (by
    intro i hi
    subst hRR
    rw [List.getElem_take]
    have := HYS.out
    simp [List.getD, List.getElem?_eq_getElem (show i < ys.length by rw [List.length_take] at hi; omega)])
  have HR := Lib.hid hR
  have hfine := rank_fine (many := 1 + v) HG.out hR (by omega) (by omega)
  have hlaw := ranked_law R (1 + v) (by omega) (by omega)
  obtain ⟨V, hV⟩ : ∃ V, V = rankC R (1 + v) := ⟨_, rfl⟩
  rw [← hV] at hfine hlaw
  have HP : Hid (rankV F L R (1 + (v : Int)) = V ∧ rankE F L R (1 + (v : Int)) = 0) := Lib.hid (by simpa using hfine)
  have HL := Lib.hid hlaw
  have hl7' : (L.length : Int) ≤ 7 := by omega
  have hl0' : (0 : Int) ≤ (L.length : Int) := by omega
  clear hR hRR hfine hlaw hV
  go_wp2_with fail
  have hS : Below w3.heap.size w3 w3 := Below.refl _ _
  go_region_held3 (fun w' => w'.cell? ⟨w2.heap.size, 0, none⟩ = some (.int .i64 F) ∧ w'.cell? ⟨w2.heap.size, 1, none⟩ = some (.slice a L.length cap))
    (first
      | go_keep | assumption | exact ⟨keepc hS c0, keepc hS c1⟩ | exact ⟨keepc (Below.step hS (Below.new _ _)) c0, keepc (Below.step hS (Below.new _ _)) c1⟩)
    ((first
      | (go_at_call 84; (with_reducible refine Calls.mono (rank_n HP.out L.length HR.out a cap _ _ _ ?hI ?hJ ?hN) ?_); (case hI => exact (Ints.below HI.out (by first | exact hS | exact hS.drew | exact Below.step hS (Below.new _ _)))); (case hJ => exact (Ints.below HIR.out (by first | exact hS | exact hS.drew | exact Below.step hS (Below.new _ _)))); (case hN => exact (by intro h; cases h)); rintro e wc ⟨rfl, hb⟩; have hS : Below w3.heap.size w3 wc := (by first | exact Below.step hS hb | exact Below.stepD hS hb | exact Below.step (Below.step hS (Below.new _ _)) hb))))
  have HY := Lib.hid (fun j hj => keepc hS (HY.out j hj))
  have HB := Lib.hid (Below.step HB.out hS)
  clear hS
  go_wp2_with fail
  go_loop [11, 12, 13] (fun av bv i => ∃ k p q : Nat, k ≤ L.length ∧ p ≤ k ∧ q ≤ k ∧ i = .int .i64 k ∧ av = .int .i64 p ∧ bv = .int .i64 q ∧ Hid (p = cge (R.take k) V ∧ q = cgt (R.take k) V)) (fun _ _ i => L.length - (intOf i).toNat)
  case atStart => exact ⟨0, 0, 0, by omega, by omega, by omega, rfl, rfl, rfl, Lib.hid (by simp [cge, cgt])⟩
  case round =>
    obtain ⟨k, p, q, hk, hp, hq, rfl, rfl, rfl, HPQ⟩ := hrel
    by_cases hlt : k < L.length
    · have hcell := HY.out k (by rw [HYS.out]; omega)
      have hkr : k < R.length := by rw [HR.out]; exact hlt
      obtain ⟨y, hy⟩ : ∃ y, y = ys.getD k 0 := ⟨_, rfl⟩
      rw [← hy] at hcell
      have hyR : y = R[k] := by rw [hy]; exact HRY.out k hkr
      have H1 : Hid (cge (R.take (k + 1)) V = p + (if V ≤ y then 1 else 0)) := Lib.hid (by rw [hyR, HPQ.out.1]; exact cge_take_succ hkr)
      have H2 : Hid (cgt (R.take (k + 1)) V = q + (if V < y then 1 else 0)) := Lib.hid (by rw [hyR, HPQ.out.2]; exact cgt_take_succ hkr)
      have hk7 : (k : Int) < 7 := by omega
      clear hy hyR hkr
      by_cases h1 : V < y
      · have h2 : V ≤ y := by omega
        go_wp2
        go_round
        case rel => exact ⟨k + 1, p + 1, q + 1, by omega, by omega, by omega, by go_num, by go_num, by go_num, Lib.hid ⟨by rw [H1.out, if_pos h2], by rw [H2.out, if_pos h1]⟩⟩
        case measure => simp [intOf]; omega
      · by_cases h2 : V ≤ y
        · go_wp2
          go_round
          case rel => exact ⟨k + 1, p + 1, q, by omega, by omega, by omega, by go_num, by go_num, by go_num, Lib.hid ⟨by rw [H1.out, if_pos h2], by rw [H2.out, if_neg (by omega)]; rfl⟩⟩
          case measure => simp [intOf]; omega
        · go_wp2
          go_round
          case rel => exact ⟨k + 1, p, q, by omega, by omega, by omega, by go_num, by go_num, by go_num, Lib.hid ⟨by rw [H1.out, if_neg (by omega)]; rfl, by rw [H2.out, if_neg (by omega)]; rfl⟩⟩
          case measure => simp [intOf]; omega
    · have hpq := HPQ.out
      rw [List.take_of_length_le (by rw [HR.out]; omega)] at hpq
      have h1 : (1 : Int) + v ≤ p := by have := HL.out.1; omega
      have h2 : (q : Int) < 1 + v := by have := HL.out.2; omega
      clear hpq
      go_wp2
      go_ret
      exact ⟨rfl, HB.out⟩
end Go.Proofs.Ytldcpnabgpjgiaa.Walks
