/-
  The walks of Bring, and of what the outright laws of crews make: chapter, some, of.
-/
import Derived.Test.YtldcpnabgpjgiaaCrewK
import Derived.Test.YtldcpnabgpjgiaaPlainC
namespace Go.Proofs.Ytldcpnabgpjgiaa.Walks
open Go.RowKit Plain
set_option linter.unusedVariables false

theorem bring_eq (i : Int) {n : Int} (h : 0 < n) : (if i.tmod n < 0 then i.tmod n + n else i.tmod n) = bringI i n := by
  have e : bringI i n = i % n := by unfold bringI; rw [if_neg (by omega)]
  rw [e]
  have h1 : i % n = (i.tmod n) % n := by
    conv => lhs; rw [← Int.tmod_add_mul_tdiv i n]
    rw [Int.add_mul_emod_self_left]
  have h2 : i.tmod n < n := Int.tmod_lt_of_pos _ h
  have h3 : -n < i.tmod n := by
    have := Int.tmod_lt_of_pos (-i) h
    rw [Int.neg_tmod] at this
    omega
  rw [h1]
  split
  · have : (i.tmod n + n) % n = i.tmod n % n := Int.add_emod_right _ _
    rw [← this, Int.emod_eq_of_lt (by omega) (by omega)]
  · rw [Int.emod_eq_of_lt (by omega) (by omega)]

set_option maxHeartbeats 400000 in
theorem bring_any (i n : Int) (w : World) (h0 : 0 < n) (h1 : n ≤ 4611686018427387904) :
    Calls Try.prog 32 #[.int .i64 i, .int .i64 n] w fun e w' => e = .returned (.int .i64 (bringI i n)) ∧ w = w' := by
  have q1 : ¬ n ≤ 0 := by omega
  have q2 : i.tmod n < n := Int.tmod_lt_of_pos _ h0
  have q3 : -n < i.tmod n := by
    have := Int.tmod_lt_of_pos (-i) h0
    rw [Int.neg_tmod] at this
    omega
  have HE := Lib.hid (bring_eq i h0)
  by_cases hs : i.tmod n < 0
  · go_enter Try.func32, Try.ntmps32
    go_wp2
    all_goals
      go_ret
      exact ⟨ret_int (by rw [← HE.out]; omega), rfl⟩
  · go_enter Try.func32, Try.ntmps32
    go_wp2
    all_goals
      go_ret
      exact ⟨ret_int (by rw [← HE.out]; omega), rfl⟩


theorem chapter_any (w : World) : Calls Try.prog 90 #[] w fun e w' => ∃ a' cap', e = .returned (.agg #[.int .i64 1, .slice a' 4 cap']) ∧ Own w' w.heap.size a' [2, 3, 5, 7] cap' ∧ Below w.heap.size w w' := by
  go_enter Try.func90, Try.ntmps90
  go_wp2
  have h1 := heap_alloc2_old w (.cells #[.int .i64 1, .slice (some ⟨w.heap.size + 1, 0, none⟩) 4 4] 24) (.cells #[.int .i64 2, .int .i64 3, .int .i64 5, .int .i64 7] 3)
  have h2 := heap_alloc2_new w (.cells #[.int .i64 1, .slice (some ⟨w.heap.size + 1, 0, none⟩) 4 4] 24) (.cells #[.int .i64 2, .int .i64 3, .int .i64 5, .int .i64 7] 3)
  have r1 := load24 (cell_of_row _ _ 0 _ _ _ h1) (cell_of_row _ _ 1 _ _ _ h1)
  refine bodyPost_ret (v := .agg #[.int .i64 1, .slice (some ⟨w.heap.size + 1, 0, none⟩) 4 4]) (by simp [results, Try.results90, asAddr, r1]) rfl ?_
  exact ⟨_, _, rfl, ⟨rfl, .inr ⟨w.heap.size + 1, 4, _, rfl, by omega, h2, Nat.le_refl _, by decide, rfl, rfl⟩⟩, (Below.new w _).alloc (by simp) _⟩

set_option maxHeartbeats 1000000 in
theorem mk_any (x0 x1 x2 x3 x4 x5 x6 x7 : Int) (w : World) : Calls Try.prog 88 #[.agg #[.int .i64 x0, .int .i64 x1, .int .i64 x2, .int .i64 x3, .int .i64 x4, .int .i64 x5, .int .i64 x6, .int .i64 x7]] w
    fun e w' => ∃ a' cap', e = .returned (.agg #[.int .i64 (someF [x0, x1, x2, x3, x4, x5, x6, x7]), .slice a' (someL [x0, x1, x2, x3, x4, x5, x6, x7]).length cap']) ∧ Own w' w.heap.size a' (someL [x0, x1, x2, x3, x4, x5, x6, x7]) cap' ∧ Below w.heap.size w w' := by
  have HF : Hid (bringI x0 3 = someF [x0, x1, x2, x3, x4, x5, x6, x7]) := Lib.hid rfl
  obtain ⟨xs, hxs⟩ : ∃ xs, xs = [x0, x1, x2, x3, x4, x5, x6, x7] := ⟨_, rfl⟩
  have HXS := Lib.hid hxs
  have hfb := someF_bd xs
  rw [← hxs] at HF ⊢
  clear hxs
  go_enter Try.func88, Try.ntmps88
  go_wp2_with fail
  refine Calls.mono (bring_any x0 3 _ (by omega) (by omega)) ?_
  rintro e w' ⟨rfl, rfl⟩
  rw [HF.out]
  generalize hF : someF xs = F at *
  have HF2 := Lib.hid hF
  clear hF
  go_wp2_with fail
  obtain ⟨wa, hwa⟩ : ∃ wa, wa = ((w.alloc (.cells #[.int .i64 x0, .int .i64 x1, .int .i64 x2, .int .i64 x3, .int .i64 x4, .int .i64 x5, .int .i64 x6, .int .i64 x7] 128)).alloc (.cells #[.int .i64 0, .slice none 0 0] 24)).alloc (.cells #[.int .i64 F, .slice none 0 0] 24) := ⟨_, rfl⟩
  have hb : Below w.heap.size w wa := by
    rw [hwa]; exact ((Below.new w _).alloc (by simp) _).alloc (by simp; omega) _
  have hsz : wa.heap.size = w.heap.size + 3 := by rw [hwa]; simp
  have h2 : wa.heap[w.heap.size + 1 + 1]? = some (.cells #[.int .i64 F, .slice none 0 0] 24 (0, 0)) := by
    rw [hwa]
    have := heap_alloc_new ((w.alloc (.cells #[.int .i64 x0, .int .i64 x1, .int .i64 x2, .int .i64 x3, .int .i64 x4, .int .i64 x5, .int .i64 x6, .int .i64 x7] 128)).alloc (.cells #[.int .i64 0, .slice none 0 0] 24)) (.cells #[.int .i64 F, .slice none 0 0] 24)
    simpa using this
  have h1 : wa.heap[w.heap.size + 1]? = some (.cells #[.int .i64 0, .slice none 0 0] 24 (0, 0)) := by
    rw [hwa, heap_alloc_lt (by simp)]
    exact heap_alloc2_new _ _ _
  have h0 : wa.heap[w.heap.size]? = some (.cells #[.int .i64 x0, .int .i64 x1, .int .i64 x2, .int .i64 x3, .int .i64 x4, .int .i64 x5, .int .i64 x6, .int .i64 x7] 128 (0, 0)) := by
    rw [hwa, heap_alloc_lt (by simp; omega)]
    exact heap_alloc2_old _ _ _
  rw [← hwa]
  clear hwa
  have e0 := cell_of_row _ _ 0 _ _ _ h1
  have e1 := cell_of_row _ _ 1 _ _ _ h1
  have e2 := cell_of_row _ _ 0 _ _ _ h2
  have e3 := cell_of_row _ _ 1 _ _ _ h2
  have z0 := frozen_of_row _ _ 0 _ _ h1
  have z1 := frozen_of_row _ _ 1 _ _ h1
  have z3 := frozen_of_row _ _ 1 _ _ h2
  have HA : Hid (∀ j, j < 8 → wa.cell? ⟨w.heap.size, j, none⟩ = some (.int .i64 (xs.getD j 0))) := Lib.hid (by
    intro j hj
    rw [cell_of_row _ _ _ _ _ _ h0, HXS.out]
    match j, hj with
    | 0, _ => rfl
    | 1, _ => rfl
    | 2, _ => rfl
    | 3, _ => rfl
    | 4, _ => rfl
    | 5, _ => rfl
    | 6, _ => rfl
    | 7, _ => rfl)
  have HB := Lib.hid hb
  have HSZ := Lib.hid hsz
  clear h0 h1 h2 hb hsz
  go_loopw [5, 6] (fun sv i wr => ∃ (k : Nat) (m : List Int) (a' : Option Addr) (cap' : Nat) (s : Int), (k : Int) ≤ 3 * F + 1 ∧ (k : Int) ≤ s ∧ s ≤ 4 * k ∧ i = .int .i64 k ∧ sv = .int .i64 s ∧ Hid (s = sumTo xs k) ∧ Hid (m = someTo xs k) ∧ Hid (Own wr (w.heap.size + 3) a' m cap') ∧ Hid (Below w.heap.size w wr) ∧ w.heap.size + 3 ≤ wr.heap.size ∧
    Hid (∀ j, j < 8 → wr.cell? ⟨w.heap.size, j, none⟩ = some (.int .i64 (xs.getD j 0))) ∧
    wr.cell? ⟨w.heap.size + 1, 0, none⟩ = some (.int .i64 0) ∧ wr.cell? ⟨w.heap.size + 1, 1, none⟩ = some (.slice none 0 0) ∧ wr.cell? ⟨w.heap.size + 1 + 1, 0, none⟩ = some (.int .i64 F) ∧ wr.cell? ⟨w.heap.size + 1 + 1, 1, none⟩ = some (.slice a' m.length cap') ∧
    wr.frozen? ⟨w.heap.size + 1, 0, none⟩ = false ∧ wr.frozen? ⟨w.heap.size + 1, 1, none⟩ = false ∧ wr.frozen? ⟨w.heap.size + 1 + 1, 1, none⟩ = false) (fun _ i _ => 8 - (intOf i).toNat)
  case atStart => exact ⟨0, [], none, 0, 0, by omega, by omega, by omega, rfl, rfl, Lib.hid rfl, Lib.hid rfl, Lib.hid (World.ownsRow_nil _ _ _ _), HB, Nat.le_of_eq HSZ.out.symm, HA, by simpa using e0, by simpa using e1, by simpa using e2, by simpa using e3, z0, z1, z3⟩
  case round =>
    obtain ⟨k, m, a', cap', s, hk, hs1, hs2, rfl, rfl, HS, HM, HO, HBr, hsr, HAr, e0, e1, e2, e3, z0, z1, z3⟩ := hrel
    clear HA HB HSZ
    by_cases hlt : (k : Int) < 3 * F + 1
    · have hcell := HAr.out (1 + k) (by omega)
      obtain ⟨y, hy⟩ : ∃ y, y = xs.getD (1 + k) 0 := ⟨_, rfl⟩
      rw [← hy] at hcell
      have HSS : Hid (sumTo xs (k + 1) = s + 1 + bringI y 4) := Lib.hid (by rw [hy, HS.out, Nat.add_comm 1 k]; rfl)
      have HMM : Hid (someTo xs (k + 1) = m ++ [s + 1 + bringI y 4]) := Lib.hid (by rw [someTo_succ, HM.out, HSS.out])
      have hd0 := bringI_nonneg y 4
      have hd1 := bringI_lt y (n := 4) (by omega)
      have hml : m.length = k := by rw [HM.out, someTo_len]
      have HML := Lib.hid hml
      clear hy hml
      go_wp2_with fail
      refine Calls.mono (bring_any y 4 _ (by omega) (by omega)) ?_
      rintro e w1 ⟨rfl, rfl⟩
      generalize bringI y 4 = d at *
      go_wp2_with (first | (at_builtin; go_loud (refine wp_append_ints rfl (.tmp 28) (.tmp 30) rfl (w.heap.size + 3) (.slice a' m.length cap') m rfl (ownsRow_below HO.out (Below.new _ _)) _ 1 [s + 1 + d] 1 rfl rfl (ints_one_new wr (s + 1 + d)) (by intro h; cases h) (by simp; have := HML.out; omega) (by simp; omega) ?_)))
      intro a2 cap2 w2 hown hgr _
      have hb2 := ((Below.refl (w.heap.size + 3) wr).alloc hsr (.cells #[.int .i64 (s + 1 + d)] 3)).grown hgr (by simp; omega) (by
            intro g hg
            rcases Option.eq_none_or_eq_some a' with h | ⟨ad, h⟩
            · subst h; cases hg
            · subst h; cases hg; exact Own.base_le HO.out rfl)
      have g0 := keepb hb2 (by simp) e0
      have g1 := keepb hb2 (by simp) e1
      have g2 := keepb hb2 (by simp) e2
      have g3 := keepb hb2 (by simp) e3
      have y0 := keepf hb2 (by simp) z0
      have y1 := keepf hb2 (by simp) z1
      have y3 := keepf hb2 (by simp) z3
      have HA2 : Hid (∀ j, j < 8 → w2.cell? ⟨w.heap.size, j, none⟩ = some (.int .i64 (xs.getD j 0))) := Lib.hid fun j hj => keepb hb2 (by simp) (HAr.out j hj)
      have HO2 : Hid (Own w2 (w.heap.size + 3) a2 (m ++ [s + 1 + d]) cap2) := Lib.hid hown
      have HB2 := Lib.hid (HBr.out.trans (hb2.mono (by omega)))
      have hs2 := Nat.le_trans hsr hb2.size
      clear hown hgr hb2 e0 e1 e2 e3 z0 z1 z3
      go_wp2
      go_roundw
      case rel =>
        refine ⟨k + 1, m ++ [s + 1 + d], a2, cap2, s + 1 + d, by omega, by omega, by omega, by go_num, rfl, Lib.hid HSS.out.symm, Lib.hid HMM.out.symm, Lib.hid (ownsRow_setCell_below HO2.out (by simp) _), Lib.hid (HB2.out.setCell (by have := hs2; show w.heap.size ≤ w.heap.size + 1 + 1; omega) _), by simpa [World.setCell] using hs2, Lib.hid fun j hj => ?_, ?_, ?_, ?_, ?_, ?_, ?_, ?_⟩
        · rw [World.cell?_setCell_other _ _ _ _ (by simp)]; exact HA2.out j hj
        · rw [World.cell?_setCell_other _ _ _ _ (by simp)]; exact g0
        · rw [World.cell?_setCell_other _ _ _ _ (by simp)]; exact g1
        · rw [World.cell?_setCell_other _ _ _ _ (by simp)]; exact g2
        · rw [World.cell?_setCell_same _ _ _ g3]; simp
        all_goals simp [y0, y1, y3]
      case measure => simp [intOf]; omega
    · have hkn : (k : Int) = 3 * F + 1 := by omega
      have HKN := Lib.hid hkn
      clear hkn
      go_wp2
      have hm : m = someL xs := by
        rw [HM.out, someL]
        congr 1
        have := someN_is xs
        rw [HF2.out] at this
        have := HKN.out
        omega
      have r1 := put2_load (x := .int .i64 F) (y := .slice a' m.length cap') e0 e1
      refine bodyPost_ret (v := .agg #[.int .i64 F, .slice a' m.length cap']) (by simp [results, Try.results88, asAddr, r1]) rfl ?_
      have hown := ownsRow_setCell_below (ownsRow_setCell_below HO.out (a := ⟨w.heap.size + 1, 0, none⟩) (by simp) (.int .i64 F)) (a := ⟨w.heap.size + 1, 1, none⟩) (by simp) (.slice a' m.length cap')
      rw [← hm, HF2.out]
      exact ⟨a', cap', rfl, ownsRow_base (by omega) hown, put2_below HBr.out (by omega)⟩
/-- Is a number's bit set? -/
def bitP (b : Int) (i : Nat) : Bool := bits .and .i64 (b / 2 ^ i) 1 == 1

set_option maxHeartbeats 1000000 in
theorem pick_any (f : Int) (a : Option Addr) (cap : Nat) (l : List Int) (b : Int) (w : World) (hI : Ints w a l) (hr : l.length ≤ 7) :
    Calls Try.prog 89 #[.agg #[.int .i64 f, .slice a l.length cap], .int .i64 b] w fun e w' => ∃ a' cap', e = .returned (.slice a' (pick (bitP b) l).length cap') ∧ Own w' w.heap.size a' (pick (bitP b) l) cap' ∧ Below w.heap.size w w' := by
  have HI := Lib.hid hI
  clear hI
  go_enter Try.func89, Try.ntmps89
  go_wp2_with fail
  obtain ⟨c0, c1, hb1⟩ := boxed_crew (Below.refl _ (w.alloc (.cells #[.int .i64 f, .slice a l.length cap] 24)))
  have hsz : (w.alloc (.cells #[.int .i64 f, .slice a l.length cap] 24)).heap.size = w.heap.size + 1 := by simp
  generalize (w.alloc (.cells #[.int .i64 f, .slice a l.length cap] 24)) = wa at *
  have HB1 := Lib.hid hb1
  have HSZ := Lib.hid hsz
  clear hb1 hsz
  go_loopw [5, 6] (fun mv i wr => ∃ (k : Nat) (m : List Int) (a' : Option Addr) (cap' : Nat), k ≤ l.length ∧ i = .int .i64 k ∧ mv = .slice a' m.length cap' ∧ Hid (m = pick (bitP b) (l.take k)) ∧ Hid (Own wr wa.heap.size a' m cap') ∧ Below wa.heap.size wa wr) (fun _ i _ => l.length - (intOf i).toNat)
  case atStart => exact ⟨0, [], none, 0, by omega, rfl, rfl, Lib.hid (by simp [pick]), Lib.hid (World.ownsRow_nil _ _ _ _), Below.refl _ _⟩
  case round =>
    obtain ⟨k, m, a', cap', hk, rfl, rfl, HM, HO, hbr⟩ := hrel
    have d0 : wr.cell? ⟨w.heap.size, 0, none⟩ = some (.int .i64 f) := keepc hbr c0
    have d1 : wr.cell? ⟨w.heap.size, 1, none⟩ = some (.slice a l.length cap) := keepc hbr c1
    by_cases hlt : k < l.length
    · obtain ⟨bb, off, rfl, hbb, hc⟩ := (HI.out.below (Below.step HB1.out hbr)).at_lt hlt
      have hcell := hc k hlt
      clear hc
      obtain ⟨n, hn⟩ : ∃ n, n = l[k] := ⟨_, rfl⟩
      rw [← hn] at hcell
      have HN : Hid (pick (bitP b) (l.take (k + 1)) = m ++ (if bitP b k then [n] else [])) := Lib.hid (by rw [HM.out, hn]; exact pick_take_succ _ hlt)
      have hml : m.length ≤ k := by rw [HM.out]; exact Nat.le_trans (pick_len _ _) (List.length_take_le _ _)
      clear hn
      cases hq : bitP b k with
      | true =>
        have HQ := Lib.hid hq
        have hq' : (bits .and .i64 (b / 2 ^ k) 1 == 1) = true := hq
        clear hq
        go_wp2_with (first | (at_builtin; go_loud (refine wp_append_ints rfl (.tmp 19) (.tmp 25) rfl wa.heap.size (.slice a' m.length cap') m rfl (ownsRow_below HO.out (Below.new _ _)) _ 1 [n] 1 rfl rfl (ints_one_new wr n) (by intro h; cases h) (by simp; omega) (by simp; have := hbr.size; omega) ?_)))
        intro a2 cap2 w2 hown hgr _
        have HO2 := Lib.hid hown
        have HG2 := Lib.hid hgr
        have hs1 := hbr.size
        clear hown hgr
        go_wp2
        go_roundw
        case rel =>
          refine ⟨k + 1, m ++ [n], a2, cap2, by omega, by go_num, by simp, Lib.hid (by rw [HN.out, HQ.out]; rfl), HO2, ?_⟩
          exact (hbr.alloc hs1 _).grown HG2.out (by simp; omega) (by
            intro g hg
            rcases Option.eq_none_or_eq_some a' with h | ⟨ad, h⟩
            · subst h; cases hg
            · subst h; cases hg; exact Own.base_le HO.out rfl)
        case measure => simp [intOf]; omega
      | false =>
        have HQ := Lib.hid hq
        have hq' : (bits .and .i64 (b / 2 ^ k) 1 == 1) = false := hq
        clear hq
        go_wp2
        go_roundw
        case rel => exact ⟨k + 1, m, a', cap', by omega, by go_num, rfl, Lib.hid (by rw [HN.out, HQ.out]; simp), HO, hbr⟩
        case measure => simp [intOf]; omega
    · go_wp2
      go_ret
      have ho : pick (bitP b) l = m := by
        have h1 := HM.out
        rw [List.take_of_length_le (by omega)] at h1
        exact h1.symm
      rw [ho]
      exact ⟨a', cap', rfl, ownsRow_base (by have := HSZ.out; omega) HO.out, Below.step HB1.out hbr⟩
end Go.Proofs.Ytldcpnabgpjgiaa.Walks
