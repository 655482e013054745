/-
  The log is cleared.
-/
import Derived.Test.YtdhidcoglioalaaJK
import Derived.Test.YtdhidcoglioalaaJrnC
namespace Go.Proofs.Ytdhidcoglioalaa.Walks
open Go.RowKit Plain Jn
set_option linter.unusedVariables false
attribute [local go_sem ↓] exec_load116 exec_store116 exec_alloc116 exec_load112 exec_store112 exec_alloc112 exec_build3 exec_build4 Go.wp_at_zero Go.wp_at_succ exec_load112T exec_store116T exec_load116T
attribute [local go_sem] isPt_mk adOf_mk isI_mk iOf_mk cellsV_mk sctL_length blkL_length setCells_drew oneN_sct oneN_blk oneN_fields roomN_new isRow_new cellL_new alloc_setN roomN_past isRow_past cellL_past roomN_drew isRow_drew cellL_drew setCells_size setCells_past

theorem build023 (k n : Int) (f : Nat → Value) (w : World) : (Instr.build 116 #[(0, .int .i64 k), (2, .int .i64 n), (3, .agg ((List.range 48).map f).toArray)]).run Try.prog w = .ok (.agg (.int .i64 k :: .int .i64 0 :: .int .i64 n :: (List.range 48).map f).toArray) w := by
  kernel_rfl
section
variable {ρ : Operand → Value} {d : Option Tmp} {x z u : Operand} {t : TypeId} {p : String} {af : Array Edge} {gd : Option (Nat × Bool)} {w : World}
theorem exec_build023 (h1 : isI (ρ x) = true) (h3 : isI (ρ z) = true) (h4 : OneN 48 (ρ u)) : (execOp ρ ⟨d, .build 116 #[(0, x), (2, z), (3, u)], t, p, af, gd⟩).run Try.prog w = .ok (.value (.agg (.int .i64 (iOf (ρ x)) :: .int .i64 0 :: .int .i64 (iOf (ρ z)) :: cellsV (ρ u)).toArray)) w := by
  have e1 := isI_eq h1
  have e3 := isI_eq h3
  obtain ⟨vs, hn, _, e4⟩ := h4
  have e5 : vs = (List.range 48).map fun j => vs.getD j undef := by
    apply List.ext_getElem?
    intro j
    by_cases hj : j < 48
    · simp [hj, List.getD_eq_getElem?_getD, List.getElem?_eq_getElem (show j < vs.length by omega)]
    · rw [List.getElem?_eq_none (by omega), List.getElem?_eq_none (by simp; omega)]
  have hb := build023 (iOf (ρ x)) (iOf (ρ z)) (fun j => vs.getD j undef) w
  rw [← e5, ← e4, ← e1, ← e3] at hb
  simp only [execOp, List.map_toArray, List.map_cons, List.map_nil]
  simp only [Sem.run_bind, hb, Result.andThen_ok, Sem.run_pure]
  rw [← e1, ← e3]
  conv => rhs; rw [e4, cellsV_mk]
end
attribute [local go_sem ↓] exec_build023
section
variable {w w' : World} {j : JLoc} {q : PLoc} {J J' : Jn} {P P' : Pl}
def homeW (J : Jn) (n : Nat) : List Wk := (J.keys n).map fun i => Wk.wr (2 + J.log + i) (packS (homeSct i ((J.pend i).getD zeroB)))
theorem clearW_home (J : Jn) (n : Nat) : J.clearW n = homeW J n ++ [.fl, .wr (J.head % 2) (packS (headSct (J.head + 1) J.log J.at_ J.turn)), .fl] := rfl
theorem ints_home {i : Nat} {b : Blk} (hi : i ≤ 8192) : Sct.Ints (homeSct i b) := ⟨by show (-9223372036854775808 : Int) ≤ 4 ∧ (4 : Int) ≤ _; omega, by show (-9223372036854775808 : Int) ≤ 0 ∧ (0 : Int) ≤ _; omega, by show (-9223372036854775808 : Int) ≤ i ∧ (i : Int) ≤ _; omega⟩
theorem ints_head {h l a t : Nat} (hh : h ≤ 9223372036854775807) (hl : l ≤ 8192) : Sct.Ints (headSct h l a t) := ⟨by show (-9223372036854775808 : Int) ≤ 1 ∧ (1 : Int) ≤ _; omega, by show (-9223372036854775808 : Int) ≤ h ∧ (h : Int) ≤ _; omega, by show (-9223372036854775808 : Int) ≤ l ∧ (l : Int) ≤ _; omega⟩
theorem write72z (h : JP w j q J P) (z : Int) (i : Nat) (hz : z = i) (k t n : Int) (b : Blk) (hs : Sct.Ints ⟨k, t, n, b⟩) : Calls Try.prog 72 #[jv j, .int .i64 z, .agg (.int .i64 k :: .int .i64 t :: .int .i64 n :: blkL b).toArray] w fun e w' => ∃ cp, e = .returned (.func (.func 93) #[] cp) ∧ WkV w' j q (.wr i (packS ⟨k, t, n, b⟩)) (.func (.func 93) #[] cp) ∧ Below w.heap.size w w' := by
  rw [hz]
  refine Calls.mono (write72 h i ⟨k, t, n, b⟩ hs) ?_
  rintro e w' ⟨v, rfl, _, hw, hb⟩
  have key : ∀ x v, WkV w' j q x v → (∃ i s, x = .wr i s) → ∃ cp, v = .func (.func 93) #[] cp := by
    intro x v hx hi
    cases hx with
    | fl => obtain ⟨_, _, e⟩ := hi; cases e
    | wr h1 h2 h3 h4 h5 h6 h7 => exact ⟨_, rfl⟩
  obtain ⟨cp, rfl⟩ := key _ _ hw ⟨_, _, rfl⟩
  exact ⟨cp, rfl, hw, hb⟩
theorem below_base {w w1 w2 : World} {B : Nat} (h : Below B w w1) (hB : B ≤ w1.heap.size) (h2 : Below w1.heap.size w1 w2) : Below B w w2 := h.trans (h2.mono hB)
theorem three_wk {s : Sec} {i : Nat} {cp : Array Value} (h : WkV w j q (.wr i s) (.func (.func 93) #[] cp)) (k : Nat) (x : Wk) (u : Value) (hx : [Wk.fl, Wk.wr i s, Wk.fl][k]? = some x) (hu : [Value.func (.func 26) #[pv q] #[], .func (.func 93) #[] cp, .func (.func 26) #[pv q] #[]][k]? = some u) : WkV w j q x u := by
  match k with
  | 0 => simp only [List.getElem?_cons_zero, Option.some.injEq] at hx hu; subst hx hu; exact .fl
  | 1 => simp only [List.getElem?_cons_succ, List.getElem?_cons_zero, Option.some.injEq] at hx hu; subst hx hu; exact h
  | 2 => simp only [List.getElem?_cons_succ, List.getElem?_cons_zero, Option.some.injEq] at hx hu; subst hx hu; exact .fl
  | k + 3 => simp at hx
set_option maxRecDepth 10000 in
set_option maxHeartbeats 4000000 in
theorem clear_any (h : JP w j q J P) (hh : J.head < 4611686018427387904) : Calls Try.prog 40 #[jv j] w fun e w' => e = .returned (.int .i64 (clearE P J)) ∧ JP w' j q (clearJ P J) (clearP P J) ∧ Only (j.R q) w w' := by
  have hm := jmay_any h
  unfold jmay at hm
  unfold clearE clearP clearJ
  cases hb : J.broken
  · rw [hb] at hm
    simp only [Bool.false_eq_true, if_false] at hm ⊢
    have HM := Lib.hid hm
    have HS := Lib.hid (sortedJ h)
    have HK71 := Lib.hid (keys71 w (some j.m))
    have c6 := h.jn.c6
    have HBr := Lib.hid hb
    obtain ⟨n, hn⟩ : ∃ n, n = (J.keys P.n).length := ⟨_, rfl⟩
    have hn4 : n ≤ 4096 := by have := keys_len J P.n; have := h.pl.ok.most; omega
    rw [← hn] at HS
    have HN := Lib.hid hn
    have H := Lib.hid h
    have hhd := hh
    clear hm h hb hn
    go_enter Try.func40, Try.ntmps40
    go_wp2_with fail
    refine Calls.mono HM.out ?_
    rintro e w' ⟨rfl, rfl⟩
    go_wp2_with fail
    refine Calls.mono HK71.out ?_
    rintro e w' ⟨rfl, rfl⟩
    go_wp2_with fail
    refine Calls.mono HS.out ?_
    rintro e w1 ⟨a, cap, rfl, hI, hb1⟩
    have HJ := Lib.hid (H.out.below hb1)
    have HB1 := Lib.hid hb1
    have HI := Lib.hid hI
    clear hI hb1 c6
    go_wp2_with fail
    go_loopw [4, 20] (fun v i wr => ∃ k : Nat, k ≤ n ∧ i = .int .i64 k ∧ ∃ a' c', v = .slice a' k c' ∧ Hid (OwnW wr j q w1.heap.size (.slice a' k c') ((homeW J P.n).take k)) ∧ Hid (Below w1.heap.size w1 wr)) (fun _ i _ => n - (RowKit.intOf i).toNat)
    case atStart => exact ⟨0, Nat.zero_le _, rfl, none, 0, rfl, Lib.hid (OwnW.nil _ _ _ _), Lib.hid (Below.refl _ _)⟩
    case round =>
      obtain ⟨k, hk, rfl, a', c', rfl, HOw, HBw⟩ := hrel
      by_cases hlt : k < n
      · have hkl : k < (J.keys P.n).length := by have := HN.out; omega
        obtain ⟨b, off, rfl, _, hc⟩ := (HI.out.below HBw.out).at_lt (k := k) (by rw [List.length_map]; exact hkl)
        have hcell := hc k (by rw [List.length_map]; exact hkl)
        rw [List.getElem_map] at hcell
        obtain ⟨i, hi⟩ : ∃ i, i = (J.keys P.n)[k] := ⟨_, rfl⟩
        rw [← hi] at hcell
        obtain ⟨hib, hsome⟩ := keys_mem.1 (hi ▸ List.getElem_mem hkl : i ∈ J.keys P.n)
        obtain ⟨x, hx⟩ := Option.isSome_iff_exists.1 hsome
        have hj := HJ.out.below HBw.out
        have hi4 : i ≤ 4096 := by have := hj.pl.ok.most; omega
        have hL4 : J.log ≤ 4096 := by have := hj.pl.ok.most; have := hj.ok.logn; omega
        obtain ⟨L, hL⟩ : ∃ L, L = J.log := ⟨_, rfl⟩
        rw [← hL] at hL4
        have s1 := IntWalk.i64_in (n := 2 + (L : Int)) (by omega)
        have s2 := IntWalk.i64_in (n := 2 + (L : Int) + (i : Int)) (by omega)
        have MK : Hid (∀ w', Below w1.heap.size w1 w' → w'.cell? ⟨j.p, 1, none⟩ = some (.int .i64 L) ∧ w'.cell? ⟨j.p, 6, none⟩ = some (.map (some j.m)) ∧ (Instr.lookup 106 (.map (some j.m)) (.int .i64 (i : Int)) false).run Try.prog w' = .ok (.agg (blkL x).toArray) w') := Lib.hid fun w' hb => by
          have h2 := HJ.out.below hb
          have hl := h2.jn.mp.look (t := 106) (e := 112) false Try.underlying106 (zero112 _) (x := (i : Int)) (Wf.of (by omega) (by omega))
          rw [pmap_nat, hx] at hl
          exact ⟨by rw [hL]; exact h2.jn.c1, h2.jn.c6, hl⟩
        have HWr : Hid (∀ w', Below w1.heap.size w1 w' → Calls Try.prog 72 #[jv j, .int .i64 (2 + (L : Int) + (i : Int)), .agg (.int .i64 4 :: .int .i64 0 :: .int .i64 (i : Int) :: blkL x).toArray] w' fun e w'' => ∃ cp, e = .returned (.func (.func 93) #[] cp) ∧ WkV w'' j q (.wr (2 + L + i) (packS (homeSct i x))) (.func (.func 93) #[] cp) ∧ Below w'.heap.size w' w'') := Lib.hid fun w' hb =>
          write72z (HJ.out.below hb) _ (2 + L + i) (by omega) 4 0 i x (ints_home (by omega))
        have HTk : Hid ((homeW J P.n).take (k + 1) = (homeW J P.n).take k ++ [Wk.wr (2 + L + i) (packS (homeSct i x))]) := Lib.hid (by
          unfold homeW
          rw [List.take_succ_eq_append_getElem (by rw [List.length_map]; exact hkl), List.getElem_map, ← hi, hx, hL]
          rfl)
        have HLen : Hid (((homeW J P.n).take k).length = k) := Lib.hid (by unfold homeW; rw [List.length_take, List.length_map]; omega)
        obtain ⟨ws, hws⟩ : ∃ ws, ws = (homeW J P.n).take k := ⟨_, rfl⟩
        rw [← hws] at HOw HTk HLen
        have hS : Below w1.heap.size w1 wr := HBw.out
        obtain ⟨S0, S1, S2⟩ := MK.out wr hS
        clear hc hi hsome hib hx hj hL hkl hws
        go_wp2_with fail
        go_region_held_law (fun w' => w'.cell? ⟨j.p, 1, none⟩ = some (.int .i64 L) ∧ w'.cell? ⟨j.p, 6, none⟩ = some (.map (some j.m)) ∧ (Instr.lookup 106 (.map (some j.m)) (.int .i64 (i : Int)) false).run Try.prog w' = .ok (.agg (blkL x).toArray) w')
          (first | with_reducible exact MK.out _ hS | with_reducible exact MK.out _ hS.drew | with_reducible exact MK.out _ (below_base hS hS.size (Below.new _ _)))
          ((first
          | ((try go_simp); go_at_call 72; ((with_reducible refine Calls.mono (HWr.out _ ?_) ?_); (first | with_reducible exact hS | with_reducible exact hS.drew); rintro e w2 ⟨cp, rfl, hwk, hbe⟩; have hS0 := hS; have hS : Below w1.heap.size w1 w2 := (by first | exact below_base hS0 hS0.size hbe | exact below_base hS0.drew hS0.size hbe); have HOw2 : Hid (OwnW w2 j q w1.heap.size (.slice a' k c') ws) := Lib.hid (by first | exact HOw.out.below hbe | exact HOw.out.below ((Below.refl _ _).drew.trans hbe)); have HWk := Lib.hid hwk; clear hwk hbe))
          | (refine step_append_wk (by rfl) _ _ (by rfl) w1.heap.size (.slice a' k c') ws k HLen.out (by rfl) (HOw2.out.below (by first | exact Below.new _ _ | exact (Below.new _ _).drew | exact (Below.refl _ _).drew.alloc (Nat.le_refl _) _)) w2.heap.size 1 [.func (.func 93) #[] cp] [Wk.wr (2 + L + i) (packS (homeSct i x))] (by rfl) (heap_alloc_new _ _) rfl rfl (by decide) (by intro k0 x0 u0 e1 e2; cases k0 with | zero => (simp only [List.getElem?_cons_zero, Option.some.injEq] at e1 e2; subst e1 e2; exact HWk.out.below (Below.new _ _)) | succ k0 => (simp at e1)) (by intro u hu; simp only [List.mem_singleton] at hu; subst hu; rfl) (by have := HLen.out; omega) (by have := hS.size; simp; omega) ?_; rintro v5 w5 ⟨g5, c5, rfl⟩ hown5 hb5 _; have hS0 := hS; have hS : Below w1.heap.size w1 w5 := (by first | exact (below_base hS0 hS0.size (Below.new _ _)).trans hb5 | exact (below_base hS0 hS0.size (Below.new _ _)).drew.trans hb5 | exact (below_base hS0.drew hS0.size (Below.new _ _)).trans hb5); have HO5 := Lib.hid hown5; clear hown5 hb5)))
        all_goals
          go_wp2_with fail
          go_roundw
          case rel => exact ⟨k + 1, by omega, by go_num, _, _, rfl, Lib.hid (by rw [HTk.out]; exact HO5.out), Lib.hid hS⟩
          case measure => simp [RowKit.intOf]; omega
      · obtain rfl : k = n := by omega
        have hj := HJ.out.below HBw.out
        have hL4 : J.log ≤ 4096 := by have := hj.pl.ok.most; have := hj.ok.logn; omega
        have hA4 : J.at_ ≤ 4096 := by have := hj.ok.at_; omega
        have hT4 := hj.ok.turn
        have HTk : Hid ((homeW J P.n).take k = homeW J P.n) := Lib.hid (List.take_of_length_le (by unfold homeW; rw [List.length_map]; have := HN.out; omega))
        rw [HTk.out] at HOw
        have HLen : Hid ((homeW J P.n).length = k) := Lib.hid (by unfold homeW; rw [List.length_map]; exact HN.out.symm)
        obtain ⟨L, hL⟩ : ∃ L, L = J.log := ⟨_, rfl⟩
        obtain ⟨hd, hhe⟩ : ∃ hd, hd = J.head := ⟨_, rfl⟩
        obtain ⟨at_, hat⟩ : ∃ at_, at_ = J.at_ := ⟨_, rfl⟩
        obtain ⟨tn, htn⟩ : ∃ tn, tn = J.turn := ⟨_, rfl⟩
        rw [← hL] at hL4
        rw [← hhe] at hhd
        rw [← hat] at hA4
        rw [← htn] at hT4
        have MK : Hid (∀ w', Below w1.heap.size w1 w' → w'.cell? ⟨j.p, 0, none⟩ = some (pv q) ∧ w'.cell? ⟨j.p, 1, none⟩ = some (.int .i64 L) ∧ w'.cell? ⟨j.p, 2, none⟩ = some (.int .i64 hd) ∧ w'.cell? ⟨j.p, 3, none⟩ = some (.int .i64 at_) ∧ w'.cell? ⟨j.p, 5, none⟩ = some (.int .i64 tn)) := Lib.hid fun w' hb => by
          have h2 := (HJ.out.below hb).jn
          exact ⟨h2.c0, by rw [hL]; exact h2.c1, by rw [hhe]; exact h2.c2, by rw [hat]; exact h2.c3, by rw [htn]; exact h2.c5⟩
        obtain ⟨s, hs⟩ : ∃ s, s = headSct (hd + 1) L at_ tn := ⟨_, rfl⟩
        have HHd : Hid (∀ w', Calls Try.prog 73 #[.int .i64 ((hd : Int) + 1), .int .i64 L, .int .i64 at_, .int .i64 tn] w' fun e w'' => e = .returned (.agg (sctL s).toArray) ∧ Below w'.heap.size w' w'') := Lib.hid fun w' => by
          have := headOf_any w' (hd + 1) L at_ tn (by omega) (by omega)
          rw [← hs] at this
          exact this
        have HWr : Hid (∀ w', Below w1.heap.size w1 w' → Calls Try.prog 72 #[jv j, .int .i64 ((hd : Int).tmod 2), .agg (sctL s).toArray] w' fun e w'' => ∃ cp, e = .returned (.func (.func 93) #[] cp) ∧ WkV w'' j q (.wr (hd % 2) (packS s)) (.func (.func 93) #[] cp) ∧ Below w'.heap.size w' w'') := Lib.hid fun w' hb =>
          write72z (HJ.out.below hb) _ (hd % 2) (by rw [Int.tmod_eq_emod_of_nonneg (by omega)]; omega) s.kind s.turn s.number s.data (by rw [hs]; exact ints_head (by omega) (by omega))
        have HWs : Hid (homeW J P.n ++ [.fl, .wr (hd % 2) (packS s), .fl] = J.clearW P.n) := Lib.hid (by rw [clearW_home, hs, hL, hhe, hat, htn])
        have HhE := Lib.hid hhe
        have hmf : ∀ (fn : Fn) (first cap : Array Value) (w : World), (Instr.makeFunc fn first cap).run Try.prog w = .ok (.func fn first cap) w := fun _ _ _ _ => rfl
        have hS : Below w1.heap.size w1 wr := HBw.out
        have s1 := IntWalk.i64_in (n := (hd : Int) + 1) (by omega)
        obtain ⟨S0, S1, S2, S3, S4⟩ := MK.out wr hS
        obtain ⟨ws, hws⟩ : ∃ ws, ws = homeW J P.n := ⟨_, rfl⟩
        rw [← hws] at HOw HLen HWs
        clear hj hL hhe hat htn hs hws
        go_upto_region 10 with (fail)
        go_cut [4] from 45 to 82 (fun v4 wx => ∃ g5 c5, v4 = .slice (some ⟨g5, 0, none⟩) (k + 3) c5 ∧ Hid (OwnW wx j q w1.heap.size v4 (J.clearW P.n)) ∧ Hid (Below w1.heap.size w1 wx))
        case first =>
          have HK4 : Hid (k ≤ 4096) := Lib.hid hn4
          clear HM HS HK71 HI H HB1 HN HBw HTk hk hlt hn4
          go_region_held_law (fun w' => w'.cell? ⟨j.p, 0, none⟩ = some (pv q) ∧ w'.cell? ⟨j.p, 1, none⟩ = some (.int .i64 L) ∧ w'.cell? ⟨j.p, 2, none⟩ = some (.int .i64 hd) ∧ w'.cell? ⟨j.p, 3, none⟩ = some (.int .i64 at_) ∧ w'.cell? ⟨j.p, 5, none⟩ = some (.int .i64 tn))
            (first | with_reducible exact MK.out _ hS | with_reducible exact MK.out _ hS.drew | with_reducible exact MK.out _ (below_base hS hS.size (Below.new _ _)))
            ((first
            | ((try go_simp); go_at_call 73; ((with_reducible refine Calls.mono (HHd.out _) ?_); rintro e w2 ⟨rfl, hbe⟩; have hS0 := hS; have hS : Below w1.heap.size w1 w2 := (by first | exact below_base hS0 hS0.size hbe | exact below_base hS0.drew hS0.size hbe); have HOw1 : Hid (OwnW w2 j q w1.heap.size (.slice a' k c') ws) := Lib.hid (by first | exact HOw.out.below hbe | exact HOw.out.below ((Below.refl _ _).drew.trans hbe)); clear hbe))
            | ((try go_simp); go_at_call 72; ((with_reducible refine Calls.mono (HWr.out _ ?_) ?_); (first | with_reducible exact hS | with_reducible exact hS.drew); rintro e w3 ⟨cp, rfl, hwk, hbe⟩; have hS0 := hS; have hS : Below w1.heap.size w1 w3 := (by first | exact below_base hS0 hS0.size hbe | exact below_base hS0.drew hS0.size hbe); have HOw2 : Hid (OwnW w3 j q w1.heap.size (.slice a' k c') ws) := Lib.hid (by first | exact HOw1.out.below hbe | exact HOw1.out.below ((Below.refl _ _).drew.trans hbe)); have HWk := Lib.hid hwk; clear hwk hbe))
            | (refine step_append_wk (by rfl) _ _ (by rfl) w1.heap.size (.slice a' k c') ws k HLen.out (by rfl) (HOw2.out.below (by first | exact Below.new _ _ | exact (Below.new _ _).drew | exact (Below.refl _ _).drew.alloc (Nat.le_refl _) _)) w3.heap.size 3 [.func (.func 26) #[pv q] #[], .func (.func 93) #[] cp, .func (.func 26) #[pv q] #[]] [.fl, Wk.wr (hd % 2) (packS s), .fl] (by rfl) (heap_alloc_new _ _) rfl rfl (by decide) (three_wk (HWk.out.below (Below.new _ _))) (by intro u hu; simp only [List.mem_cons, List.not_mem_nil, or_false] at hu; rcases hu with rfl | rfl | rfl <;> rfl) (by have := HLen.out; have := HK4.out; omega) (by have := hS.size; simp; omega) ?_; rintro v5 w5 ⟨g5, c5, rfl⟩ hown5 hb5 _; have hS0 := hS; have hS : Below w1.heap.size w1 w5 := (by first | exact (below_base hS0 hS0.size (Below.new _ _)).trans hb5 | exact (below_base hS0 hS0.size (Below.new _ _)).drew.trans hb5 | exact (below_base hS0.drew hS0.size (Below.new _ _)).trans hb5); have HO5 := Lib.hid hown5; clear hown5 hb5)))
          all_goals
            simp only [List.getElem_toArray, List.getElem_cons_succ, List.getElem_cons_zero, List.setIfInBounds_toArray, List.set_cons_zero, List.set_cons_succ]
            go_wp2_with fail
            go_meet
            exact ⟨_, _, rfl, Lib.hid (by rw [← HWs.out]; exact HO5.out), Lib.hid hS⟩
        case rest =>
          obtain ⟨g5, c5, rfl, HO5, HB5⟩ := hcut
          have HJ5 := Lib.hid (HJ.out.below HB5.out)
          obtain ⟨hlen5, hwk5⟩ := HO5.out.wks (fun b hb => HJ.out.ltw hb) (by rw [← HWs.out]; have := HLen.out; simp; omega)
          have HW74 := Lib.hid (works_any HJ5.out HBr.out (some ⟨g5, 0, none⟩) (J.clearW P.n) (k + 3) c5 hlen5.symm hwk5)
          clear S0 S1 S2 S3 S4 hS hlen5 hwk5 s1 hmf
          unfold worksJ at HW74
          by_cases he : runE (J.clearW P.n) P = 0
          · rw [he] at HW74
            simp only [ne_eq, not_true_eq_false, if_false] at HW74
            obtain ⟨Q, hQ⟩ : ∃ Q, Q = runP (J.clearW P.n) P := ⟨_, rfl⟩
            rw [← hQ] at HW74
            have HE := Lib.hid he
            have HQ := Lib.hid hQ
            clear hQ he
            go_wp2_with fail
            refine Calls.mono HW74.out ?_
            rintro e w6 ⟨rfl, hj6, ho6⟩
            have c2 := hj6.jn.c2
            have f2 := hj6.jn.fz 2
            rw [← HhE.out] at c2
            have c4 := hj6.jn.c4
            have f4 := hj6.jn.fz 4
            have c6 := hj6.jn.c6
            have s1 := IntWalk.i64_in (n := (hd : Int) + 1) (by omega)
            have hO := hj6.ok
            have k1 := hj6.setCell (i := 2) (v := .int .i64 ((hd : Int) + 1)) (J' := { J with head := J.head + 1 }) ⟨hO.log2, hO.logn, hO.at_, hO.used, hO.turn, by show J.head + 1 ≤ _; have := HhE.out; omega, by show 0 < J.head + 1; omega, hO.pend, hO.flat⟩ (by simp) (by simp [HhE.out]) (by simp) (by simp) (by simp) (by simp) (by simp) (by simp) rfl
            have k2 := k1.setCell (i := 4) (v := .int .i64 0) (J' := { J with head := J.head + 1, used := 0 }) ⟨hO.log2, hO.logn, hO.at_, Nat.zero_le _, hO.turn, k1.ok.head, k1.ok.head0, hO.pend, hO.flat⟩ (by simp) (by simp) (by simp) (by simp) (by simp) (by simp) (by simp) (by simp) rfl
            obtain ⟨w7, hcl, hm7, hg7, hz7⟩ := k2.jn.mp.clear (t := 106) (e := 112) Try.underlying106 0
            have hJ7 : JP w7 j q J.cleared Q := k2.setMap (Only.of_grown hg7 (by simp)) (f := fun _ => none) (by rw [pmap_none]; exact hm7) ⟨hO.log2, hO.logn, hO.at_, Nat.zero_le _, hO.turn, k1.ok.head, k1.ok.head0, fun _ _ => rfl, fun _ _ e => by cases e⟩
            have hO7 : Only (j.R q) w6 w7 := ((((Only.refl _ w6).setCell JLoc.inP _).setCell JLoc.inP _)).trans (Only.of_grown hg7 JLoc.inM)
            have H7 := Lib.hid hJ7
            have HO7 := Lib.hid ((((Only.of_below HB1.out).trans (Only.of_below HB5.out)).trans ho6).trans hO7)
            clear hj6 ho6 k1 k2 hm7 hg7 hz7 hJ7 hO7 hO
            go_wp2
            go_ret
            exact ⟨by rw [HE.out]; rfl, by rw [← HQ.out]; exact H7.out, HO7.out⟩
          · obtain ⟨z, hz⟩ : ∃ z, z = runE (J.clearW P.n) P := ⟨_, rfl⟩
            have hzq : (z != 0) = true := ne_zero_bne (hz ▸ he)
            rw [if_pos he] at HW74
            rw [← hz] at HW74
            obtain ⟨Q, hQ⟩ : ∃ Q, Q = runP (J.clearW P.n) P := ⟨_, rfl⟩
            rw [← hQ] at HW74
            have HQ := Lib.hid hQ
            have HZ := Lib.hid hz
            clear hQ hz
            go_wp2_with fail
            refine Calls.mono HW74.out ?_
            rintro e w6 ⟨rfl, hj6, ho6⟩
            have H6 := Lib.hid hj6
            have HO6 := Lib.hid (((Only.of_below HB1.out).trans (Only.of_below HB5.out)).trans ho6)
            clear hj6 ho6
            go_wp2
            go_ret
            exact ⟨by rw [HZ.out]; rfl, by rw [← HQ.out]; exact H6.out, HO6.out⟩
  · rw [hb] at hm
    simp only [if_true] at hm ⊢
    have HM := Lib.hid hm
    have H := Lib.hid h
    clear hm h hb
    go_enter Try.func40, Try.ntmps40
    go_wp2_with fail
    refine Calls.mono HM.out ?_
    rintro e w' ⟨rfl, rfl⟩
    go_wp2
    go_ret
    exact ⟨rfl, H.out, Only.refl _ _⟩
end
end Go.Proofs.Ytdhidcoglioalaa.Walks
