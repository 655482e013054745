/-
  The document's journal: a head is looked at.
  Read, whatever it answers.
-/
import Derived.Test.YtdhidcoglioalaaGreatM27
import Derived.Test.YtdhidcoglioalaaGreatM07
import Derived.Test.YtdhidcoglioalaaGreatM22
namespace Go.Proofs.YtdhidcoglioalaaGreat.Walks
open Go.RowKit Plain Jn
set_option linter.unusedVariables false
set_option maxRecDepth 10000 in
theorem ry_read (w : World) (r : RLoc) (P : Pl) (h : RefAt w r P) (k : Nat) (hk : k < P.n) (hd : P.dead = false) : Calls Tryz.prog 92 #[rv r, .int .i64 k] w fun e w' => ∃ g c, e = .returned (.tuple #[.slice (some ⟨g, 0, none⟩) 64 c, .int .i64 0]) ∧ 64 ≤ c ∧ c ≤ maxLen ∧ w.heap.size ≤ g ∧ Bys w' (some ⟨g, 0, none⟩) (bytesOf (P.seen k)) ∧ (∀ j, w'.frozen? ⟨g, j, none⟩ = false) ∧ Below w.heap.size w w' := by
  have c3 := h.x.c3
  obtain ⟨x1, c1⟩ := h.x.c1
  have ht := rf_there w r P h k
  have e0 : thereB P k = true := by unfold thereB; simp; omega
  rw [e0] at ht
  rw [hd] at c3
  obtain ⟨nf, nv, nc, g, o, c, rfl, hr, hg⟩ := h.x.sn k hk
  have hcp := ry_copy w (some ⟨g, o, none⟩) 64 c (bytesOf (P.seen k)) (bytesOf_length _) (RowV.bys (R := r.R) (c := c) hr) (fun e => by cases e) (by omega)
  have HT := Lib.hid ht
  have HC : Hid (Calls Tryz.prog 64 #[.slice (some ⟨g, o, none⟩) 64 c] w fun e w' => ∃ g' c', e = .returned (.slice (some ⟨g', 0, none⟩) 64 c') ∧ 64 ≤ c' ∧ c' ≤ maxLen ∧ w.heap.size ≤ g' ∧ Bys w' (some ⟨g', 0, none⟩) (bytesOf (P.seen k)) ∧ (∀ j, w'.frozen? ⟨g', j, none⟩ = false) ∧ Below w.heap.size w w') := Lib.hid (by
    refine Calls.mono hcp ?_
    rintro e w' ⟨u, rfl, ho, hb⟩
    obtain ⟨g', c', rfl, h1, h2, h3, h4, h5, h6⟩ := ho.at_ (by rw [bytesOf_length]; omega) (by rw [bytesOf_length]; omega)
    rw [bytesOf_length] at h1 ⊢
    exact ⟨g', c', rfl, h1, h2, h3, h5, h6, hb⟩)
  obtain ⟨n, hn⟩ : ∃ n, n = P.n := ⟨_, rfl⟩
  rw [← hn] at c1
  have hkn : k < n := by omega
  clear h hk hd ht e0 hr hg hcp hn nf
  go_enter Tryz.func92, Tryz.ntmps92
  go_wp2_with fail
  refine Calls.mono HT.out ?_
  rintro e w' ⟨rfl, rfl⟩
  go_wp2_with fail
  refine Calls.mono HC.out ?_
  rintro e w' ⟨g', c', rfl, k1, k2, k3, hB, hf, hb⟩
  have HB := Lib.hid hB
  have HBe := Lib.hid hb
  have HF := Lib.hid hf
  clear hB hb hf
  go_wp2
  refine bodyPost_ret (results_tmp2 rfl _ _ _) rfl ?_
  exact ⟨g', c', rfl, k1, k2, k3, HB.out, HF.out, HBe.out⟩
/-- A sector's bytes are written. -/
theorem ry_wr {w : World} {r : RLoc} {P : Pl} (h : RefAt w r P) (i : Nat) (s : Sct) (g c : Nat) (hB : Bys w (some ⟨g, 0, none⟩) (packL s)) (hg : g ∉ r.R) :
    Calls Tryz.prog 78 #[rv r, .int .i64 i, .slice (some ⟨g, 0, none⟩) 64 c] w fun e w' => e = .returned (.int .i64 ((Wk.wr i (packS s)).err P)) ∧ RefAt w' r ((Wk.wr i (packS s)).act P) ∧ Only r.R w w' := by
  have := rf_write w r P h i (some ⟨g, 0, none⟩) (packL s) c hB (fun e => by cases e) (fun _ ad e => by cases e; exact hg)
  rw [packL_length] at this
  have e : bytesOf (packS s) = packL s := bytesOf_secOf (packL_length s)
  simp only [Wk.err, Wk.act, e]
  exact this
theorem ry_fl {w : World} {r : RLoc} {P : Pl} (h : RefAt w r P) : Calls Tryz.prog 109 #[rv r] w fun e w' => e = .returned (.int .i64 (Wk.fl.err P)) ∧ RefAt w' r (Wk.fl.act P) ∧ Only r.R w w' := rf_flush w r P h
/-! ### Some of some bytes -/
theorem Bys.sub {w : World} {g o : Nat} {l : List Byte} (h : Bys w (some ⟨g, o, none⟩) l) (i n : Nat) (hi : i + n ≤ l.length) : Bys w (some ⟨g, o + i, none⟩) ((l.drop i).take n) := by
  refine ⟨by have := h.1; simp; omega, ?_⟩
  by_cases hn : n = 0
  · left; simp [hn]
  · right
    refine ⟨g, o + i, rfl, fun j hj => ?_⟩
    have hj' : j < n := by simp at hj; omega
    obtain ⟨b, off, e, _, hc⟩ := h.at_lt (i := i + j) (by omega)
    cases e
    have := hc (i + j) (by omega)
    rw [← Nat.add_assoc] at this
    rw [this]
    simp
theorem cutS_sub (b : Sec) (k i n : Nat) (m : Nat) (h : i + n ≤ m) : ((cutS b k m).drop i).take n = cutS b (k + i) n := by
  apply List.ext_getElem?
  intro j
  by_cases hj : j < n
  · rw [List.getElem?_take_of_lt hj, List.getElem?_drop]
    simp [cutS, hj, show i + j < m by omega, Nat.add_assoc]
  · rw [List.getElem?_eq_none (by simp [cutS]; omega), List.getElem?_eq_none (by rw [cutS_length]; omega)]
theorem z168 : (Tryz.prog.info? 168).map (·.size) = some 4 := by kernel_rfl
theorem res127 {W : World} {v0 v1 v2 v3 : Value} {ok : Bool} {g : Nat} {tmps : Array Value} (h2 : tmps.getD 4 undef = .pointer (some ⟨g, 0, none⟩)) (h3 : tmps.getD 5 undef = .bool ok) (h : Cells4 W g v0 v1 v2 v3) :
    (results Tryz.f127 tmps).run Tryz.prog W = .ok (.tuple #[.agg #[v0, v1, v2, v3], .bool ok]) W := by
  have hr : (loadVar 168 ⟨g, 0, none⟩).run Tryz.prog W = .ok (.agg #[v0, v1, v2, v3]) W := run_loadVar_mid W g 0 168 [v0, v1, v2, v3] _ h.range Tryz.underlying168 rfl z168
  rw [Array.getD_eq_getD_getElem?] at h2 h3
  simp [results, Tryz.results127, asAddr, h2, h3, hr, Result.andThen]
/-- What a head's look-up answers. -/
def HeadR (w w' : World) (P : Pl) (i : Nat) (e : Ending) : Prop := ∃ a b c d : Nat, (e = .returned (.tuple #[.agg #[.int .i64 (a : Int), .int .i64 (b : Int), .int .i64 (c : Int), .int .i64 (d : Int)], .bool (headAt P i).isSome]) ∧ (∀ x, headAt P i = some x → x = ⟨a, b, c, d⟩)) ∧ Below w.heap.size w w'
set_option maxRecDepth 10000 in
set_option maxHeartbeats 1000000 in
theorem rj_headNo (w : World) (r : RLoc) (P : Pl) (h : RefAt w r P) (i : Nat) (h0 : P.has i ≠ 0) : Calls Tryz.prog 127 #[rv r, .int .i64 i] w fun e w' => HeadR w w' P i e := by
  have hn : headAt P i = none := by unfold headAt; rw [if_neg fun h => h0 h.1]
  obtain ⟨w1, hw1⟩ : ∃ x, x = w.alloc (.cells #[.int .i64 0, .int .i64 0, .int .i64 0, .int .i64 0] 168) := ⟨_, rfl⟩
  have hb1 : Below w.heap.size w w1 := by rw [hw1]; exact Below.new _ _
  have HRd := Lib.hid (rf_readNo w1 r P ⟨h.x.below hb1, h.ok⟩ i h0)
  have f : ∀ k, w1.frozen? ⟨w.heap.size, k, none⟩ = false := fun k => by rw [hw1]; exact frozen_new _ _ _ _
  have f0 := f 0
  have f1 := f 1
  have f2 := f 2
  have f3 := f 3
  have q0 : w1.cell? ⟨w.heap.size, 0, none⟩ = some (.int .i64 0) := by rw [hw1, cell_new]; rfl
  have q1 : w1.cell? ⟨w.heap.size, 1, none⟩ = some (.int .i64 0) := by rw [hw1, cell_new]; rfl
  have q2 : w1.cell? ⟨w.heap.size, 2, none⟩ = some (.int .i64 0) := by rw [hw1, cell_new]; rfl
  have q3 : w1.cell? ⟨w.heap.size, 3, none⟩ = some (.int .i64 0) := by rw [hw1, cell_new]; rfl
  have HN := Lib.hid hn
  have HB1 := Lib.hid hb1
  obtain ⟨z, hz⟩ : ∃ z, z = P.has i := ⟨_, rfl⟩
  rw [← hz] at HRd h0
  have hz0 : (z != 0) = true := by simpa using h0
  clear h hn hb1 hz h0 f
  go_enter Tryz.func127, Tryz.ntmps127
  go_wp2_with fail
  rw [← hw1]
  clear hw1
  refine Calls.mono HRd.out ?_
  rintro e w' ⟨rfl, rfl⟩
  go_wp2_with fail
  have hO : Only [w.heap.size] w1 (set4 w1 w.heap.size (.int .i64 0) (.int .i64 0) (.int .i64 0) (.int .i64 0)) := set4_only _ _ _ _ _ _
  refine bodyPost_ret (v := .tuple #[.agg #[.int .i64 0, .int .i64 0, .int .i64 0, .int .i64 0], .bool false]) (res127 (g := w.heap.size) rfl rfl (set4_cells fun i hi => by
    match i, hi with
    | 0, _ => rw [q0]; rfl
    | 1, _ => rw [q1]; rfl
    | 2, _ => rw [q2]; rfl
    | 3, _ => rw [q3]; rfl)) rfl ⟨0, 0, 0, 0, ⟨by rw [HN.out]; rfl, fun x hx => by rw [HN.out] at hx; cases hx⟩, ?_⟩
  exact hO.below HB1.out (by simp) (Nat.le_refl _)
theorem zeroL_all15 (b : Sec) : zeroL (cutS b 15 41) = (cutS b 15 41).all (· == 0) := rfl
set_option maxRecDepth 10000 in
set_option maxHeartbeats 4000000 in
theorem rj_headYes (w : World) (r : RLoc) (P : Pl) (h : RefAt w r P) (i : Nat) (h0 : P.has i = 0) : Calls Tryz.prog 127 #[rv r, .int .i64 i] w fun e w' => HeadR w w' P i e := by
  obtain ⟨hdl, hin⟩ := Pl.has_zero h0
  obtain ⟨b, hb⟩ : ∃ b, b = P.seen i := ⟨_, rfl⟩
  have hn : headAt P i = if hdOk P.n b = true then some (hdOf b) else none := by
    unfold headAt
    rw [hb]
    by_cases hh : hdOk P.n (P.seen i) = true
    · rw [if_pos ⟨h0, hh⟩, if_pos hh]
    · rw [if_neg fun h => hh h.2, if_neg hh]
  obtain ⟨w1, hw1⟩ : ∃ x, x = w.alloc (.cells #[.int .i64 0, .int .i64 0, .int .i64 0, .int .i64 0] 168) := ⟨_, rfl⟩
  have hb1 : Below w.heap.size w w1 := by rw [hw1]; exact Below.new _ _
  have hrd := ry_read w1 r P ⟨h.x.below hb1, h.ok⟩ i (by omega) hdl
  rw [← hb] at hrd
  have HRd := Lib.hid hrd
  have HF : Hid (∀ w', Below w1.heap.size w1 w' → (∀ k, w'.frozen? ⟨w.heap.size, k, none⟩ = false) ∧ ∀ k, k < 4 → w'.cell? ⟨w.heap.size, k, none⟩ = some (.int .i64 0)) := Lib.hid fun w' hb => by
    have hlt : w.heap.size < w1.heap.size := by rw [hw1]; simp
    refine ⟨fun k => (hb.frozen (p := ⟨w.heap.size, k, none⟩) hlt).trans (by rw [hw1]; exact frozen_new _ _ _ _), fun k hk => (hb.cell (p := ⟨w.heap.size, k, none⟩) hlt).trans ?_⟩
    rw [hw1, cell_new]
    match k, hk with
    | 0, _ => rfl
    | 1, _ => rfl
    | 2, _ => rfl
    | 3, _ => rfl
  have HSz := Lib.hid (fun w' (hb' : Below w1.heap.size w1 w') => rf_size w' r P ⟨(h.x.below hb1).below hb', h.ok⟩)
  have HN := Lib.hid hn
  have HB1 := Lib.hid hb1
  have hpn : P.n ≤ 4096 := h.ok.most
  obtain ⟨n, hnn⟩ : ∃ n, n = P.n := ⟨_, rfl⟩
  rw [← hnn] at HSz HN hpn
  clear h hn hb1 hb h0 hdl hin hrd hnn
  go_enter Tryz.func127, Tryz.ntmps127
  go_wp2_with fail
  rw [← hw1]
  clear hw1
  refine Calls.mono HRd.out ?_
  rintro e w2 ⟨g, c, rfl, hc64, hcm, _, hB, _, hb2⟩
  have HU := Lib.hid (rj_unpack w2 g c b hB hc64 hcm)
  have HB2 := Lib.hid hb2
  clear hB hb2
  go_wp2_with fail
  refine Calls.mono HU.out ?_
  rintro e w3 ⟨da, dc, rfl, ho, hb3⟩
  have HB3 := Lib.hid (Below.step HB2.out hb3)
  obtain ⟨gd, dc', e, hd48, hdm, _, hgd, hBd, _⟩ := OwnV.at_ (v := .slice da 48 dc) (l := cutS b 8 48) ho (by rw [cutS_length]; omega) (by rw [cutS_length]; omega)
  rw [cutS_length] at e hd48
  simp only [Value.slice.injEq] at e
  obtain ⟨rfl, _, rfl⟩ := e
  have HBd := Lib.hid hBd
  obtain ⟨v5, hv5⟩ : ∃ v, v = getN (cutS b 1 5) := ⟨_, rfl⟩
  obtain ⟨v2, hv2⟩ : ∃ v, v = getN (cutS b 6 2) := ⟨_, rfl⟩
  have h5 := getN5_lt b
  have h2 := getN2_lt b
  rw [← hv5] at h5
  rw [← hv2] at h2
  unfold sctD
  rw [← hv5, ← hv2]
  have HV5 := Lib.hid hv5
  have HV2 := Lib.hid hv2
  clear ho hb3 hBd hv5 hv2
  go_upto_region 5 with (fail)
  obtain ⟨w4, hw4⟩ : ∃ x, x = w3.alloc (.cells #[.int .i64 ((b 0).toNat : Int), .int .i64 (v5 : Int), .int .i64 (v2 : Int), .slice (some ⟨gd, 0, none⟩) 48 dc] 153) := ⟨_, rfl⟩
  obtain ⟨g8, hg8⟩ : ∃ x, x = w3.heap.size := ⟨_, rfl⟩
  rw [← hw4, ← hg8]
  have hb4 : Below w3.heap.size w3 w4 := by rw [hw4]; exact Below.new _ _
  have s0 : w4.cell? ⟨g8, 0, none⟩ = some (.int .i64 ((b 0).toNat : Int)) := by rw [hw4, hg8, cell_new]; rfl
  have s1 : w4.cell? ⟨g8, 1, none⟩ = some (.int .i64 (v5 : Int)) := by rw [hw4, hg8, cell_new]; rfl
  have s2 : w4.cell? ⟨g8, 2, none⟩ = some (.int .i64 (v2 : Int)) := by rw [hw4, hg8, cell_new]; rfl
  have s3 : w4.cell? ⟨g8, 3, none⟩ = some (.slice (some ⟨gd, 0, none⟩) 48 dc) := by rw [hw4, hg8, cell_new]; rfl
  have HB4 := Lib.hid (Below.step HB3.out hb4)
  have HBd4 := Lib.hid (HBd.out.below hb4)
  have hg84 : g8 < w4.heap.size := by rw [hw4, hg8]; simp
  obtain ⟨vA, hvA⟩ : ∃ v, v = getN (cutS b 8 2) := ⟨_, rfl⟩
  obtain ⟨vN, hvN⟩ : ∃ v, v = getN (cutS b 10 5) := ⟨_, rfl⟩
  have HCA : Hid (∀ w' cp, Below w4.heap.size w4 w' → Calls Tryz.prog 130 #[.slice (some ⟨gd, 0, none⟩) 2 cp] w' fun e w'' => e = .returned (.int .i64 (vA : Int)) ∧ w' = w'') := Lib.hid fun w' cp hb => by
    have h1 := (HBd4.out.below hb).sub 0 2 (by rw [cutS_length]; omega)
    rw [cutS_sub b 8 0 2 48 (by omega)] at h1
    have := rj_get w' _ _ 2 cp (cutS_length _ _ _) h1
    rw [getV_small (by rw [cutS_length]; omega)] at this
    rw [hvA]
    exact this
  have HCN : Hid (∀ w' cp, Below w4.heap.size w4 w' → Calls Tryz.prog 130 #[.slice (some ⟨gd, 2, none⟩) 5 cp] w' fun e w'' => e = .returned (.int .i64 (vN : Int)) ∧ w' = w'') := Lib.hid fun w' cp hb => by
    have h1 := (HBd4.out.below hb).sub 2 5 (by rw [cutS_length]; omega)
    rw [cutS_sub b 8 2 5 48 (by omega), Nat.zero_add] at h1
    have := rj_get w' _ _ 5 cp (cutS_length _ _ _) h1
    rw [getV_small (by rw [cutS_length]; omega)] at this
    rw [hvN]
    exact this
  have hA2 : vA < 65536 := by rw [hvA]; have := getN_lt (cutS b 8 2); rw [cutS_length] at this; exact this
  have hN5 : vN < 1099511627776 := by rw [hvN]; have := getN_lt (cutS b 10 5); rw [cutS_length] at this; exact this
  have HVA := Lib.hid hvA
  have HVN := Lib.hid hvN
  have MK : Hid (∀ w', Below w4.heap.size w4 w' → w'.cell? ⟨g8, 0, none⟩ = some (.int .i64 ((b 0).toNat : Int)) ∧ w'.cell? ⟨g8, 1, none⟩ = some (.int .i64 (v5 : Int)) ∧ w'.cell? ⟨g8, 2, none⟩ = some (.int .i64 (v2 : Int)) ∧ w'.cell? ⟨g8, 3, none⟩ = some (.slice (some ⟨gd, 0, none⟩) 48 dc)) := Lib.hid fun w' hb => ⟨keepb hb hg84 s0, keepb hb hg84 s1, keepb hb hg84 s2, keepb hb hg84 s3⟩
  have hdm' : dc ≤ 9223372036854775807 := hdm
  have k1 : (2 : Int) ≤ dc := by omega
  have k2 : (7 : Int) ≤ dc := by omega
  have k3 : ¬ dc = 2 := by omega
  have k4 : ¬ dc = 7 := by omega
  have k5 : ¬ (dc : Int) = 2 := by omega
  have k6 : ¬ (dc : Int) = 7 := by omega
  have hS : Below w4.heap.size w4 w4 := Below.refl _ _
  clear hw4 hg8 hb4 hvA hvN s0 s1 s2 s3
  obtain ⟨s0, s1, s2, s3⟩ := MK.out w4 hS
  clear s0
  go_cut [10] from 26 to 38 (fun v10 wx => v10 = .pointer (some ⟨w4.heap.size, 0, none⟩) ∧ Hid (Below w4.heap.size w4 wx) ∧ Hid (Cells4 wx w4.heap.size (.int .i64 (v5 : Int)) (.int .i64 (v2 : Int)) (.int .i64 (vA : Int)) (.int .i64 (vN : Int))))
  case first =>
    go_region_held3 (fun w' => w'.cell? ⟨g8, 1, none⟩ = some (.int .i64 (v5 : Int)) ∧ w'.cell? ⟨g8, 2, none⟩ = some (.int .i64 (v2 : Int)) ∧ w'.cell? ⟨g8, 3, none⟩ = some (.slice (some ⟨gd, 0, none⟩) 48 dc))
      (first | ((with_reducible refine And.right (MK.out _ ?_)); (first | with_reducible exact hS | with_reducible exact Below.drew hS | with_reducible exact Below.step hS (Below.new _ _) | with_reducible exact Below.step (Below.drew hS) (Below.new _ _) | with_reducible exact Below.drew (Below.step hS (Below.new _ _)))))
      ((first
      | (go_at_call 130; ((with_reducible refine Calls.mono (HCA.out _ _ ?_) ?_); (first | with_reducible exact hS | with_reducible exact Below.drew hS | with_reducible exact Below.step hS (Below.new _ _) | with_reducible exact Below.step (Below.drew hS) (Below.new _ _) | with_reducible exact Below.drew (Below.step hS (Below.new _ _))); rintro e w' ⟨rfl, rfl⟩))
      | (go_at_call 130; ((with_reducible refine Calls.mono (HCN.out _ _ ?_) ?_); (first | with_reducible exact hS | with_reducible exact Below.drew hS | with_reducible exact Below.step hS (Below.new _ _) | with_reducible exact Below.step (Below.drew hS) (Below.new _ _) | with_reducible exact Below.drew (Below.step hS (Below.new _ _))); rintro e w' ⟨rfl, rfl⟩))))
    all_goals
      go_wp2_with fail
      go_meet
      refine ⟨rfl, Lib.hid ?_, Lib.hid ⟨?_, ?_, ?_, ?_⟩⟩
      · exact (Below.new _ _).drew
      · exact (cell_new w4 _ 168 0)
      · exact (cell_new w4 _ 168 1)
      · exact (cell_new w4 _ 168 2)
      · exact (cell_new w4 _ 168 3)
  case rest =>
    obtain ⟨rfl, HBC, HCC⟩ := hcut
    obtain ⟨wd, hwd⟩ : ∃ wd, wd = wc := ⟨_, rfl⟩
    subst hwd
    obtain ⟨f0, f1, f2, f3⟩ := HCC.out
    obtain ⟨s0, s1, s2, s3⟩ := MK.out wd HBC.out
    have HSq : Hid (∀ k, Calls Tryz.prog 88 #[rv r] (wd.drewN k) fun e w' => e = .returned (.int .i64 (n : Int)) ∧ wd.drewN k = w') := Lib.hid fun k => HSz.out _ (below_drewN ((HB4.out.trans (HBC.out.mono HB4.out.size))) k)
    have HBk : Hid (∀ k, Calls Tryz.prog 116 #[.slice (some ⟨gd, 7, none⟩) 41 (dc - 7)] (wd.drewN k) fun e w' => e = .returned (.bool (zeroL (cutS b 15 41))) ∧ wd.drewN k = w') := Lib.hid fun k => by
      have h1 := (HBd4.out.below (below_drewN HBC.out k)).sub 7 41 (by rw [cutS_length]; omega)
      rw [cutS_sub b 8 7 41 48 (by omega), Nat.zero_add] at h1
      exact rj_blank _ _ _ 41 _ (cutS_length _ _ _) h1
    have HKd : Hid ((((b 0).toNat : Int) == 1) = (b 0 == 1)) := Lib.hid (by
      rw [Bool.eq_iff_iff, beq_iff_eq, beq_iff_eq]
      constructor
      · intro h; apply BitVec.eq_of_toNat_eq; show (b 0).toNat = 1; omega
      · intro h; rw [h]; rfl)
    have HOK : Hid (hdOk n b = (parseOk b && (b 0 == 1) && decide (0 < v5) && decide (2 ≤ v2 ∧ v2 + 3 ≤ n) && decide (vA < v2) && decide (0 < vN) && zeroL (cutS b 15 41))) := Lib.hid (by
      rw [HV5.out, HV2.out, HVA.out, HVN.out]; rfl)
    clear HCC s1 s2
    obtain ⟨pk, hpk⟩ : ∃ pk, pk = parseOk b := ⟨_, rfl⟩
    rw [← hpk] at HOK ⊢
    obtain ⟨zl, hzl⟩ : ∃ zl, zl = zeroL (cutS b 15 41) := ⟨_, rfl⟩
    rw [← hzl] at HOK HBk
    obtain ⟨kb, hkb⟩ : ∃ kb, kb = (b 0 == 1) := ⟨_, rfl⟩
    rw [← hkb] at HOK HKd
    clear hpk hzl hkb
    go_upto_region 6 with (fail)
    go_cut [11] from 39 to 80 (fun v11 wx => v11 = .bool (hdOk n b) ∧ Hid (Below wd.heap.size wd wx))
    case first =>
      cases pk
      · go_quiet (((first | (go_at_call 88; exact quiet_of_eq (HSq.out _)) | (go_at_call 116; exact quiet_of_eq (HBk.out _)))))
        go_wp2
        go_meet
        exact ⟨by rw [HOK.out]; simp [], Lib.hid (below_drewN (Below.refl _ _) _)⟩
      · by_cases c1 : kb = true
        · have i1 : (((b 0).toNat : Int) == 1) = true := by rw [HKd.out]; exact c1
          by_cases c2 : 0 < v5
          · have i2 : (0 : Int) < (v5 : Int) := by omega
            by_cases c3 : 2 ≤ v2
            · have i3 : (2 : Int) ≤ (v2 : Int) := by omega
              by_cases c4 : v2 + 3 ≤ n
              · have i4 : (v2 : Int) ≤ (n : Int) - 3 := by omega
                by_cases c5 : vA < v2
                · have i5 : (vA : Int) < (v2 : Int) := by omega
                  by_cases c6 : 0 < vN
                  · have i6 : (0 : Int) < (vN : Int) := by omega
                    go_quiet (((first | (go_at_call 88; exact quiet_of_eq (HSq.out _)) | (go_at_call 116; exact quiet_of_eq (HBk.out _)))))
                    go_wp2
                    go_meet
                    exact ⟨by rw [HOK.out]; simp [c1, c2, c3, c4, c5, c6], Lib.hid (below_drewN (Below.refl _ _) _)⟩
                  · have i6 : ¬ (0 : Int) < (vN : Int) := by omega
                    go_quiet (((first | (go_at_call 88; exact quiet_of_eq (HSq.out _)) | (go_at_call 116; exact quiet_of_eq (HBk.out _)))))
                    go_wp2
                    go_meet
                    exact ⟨by rw [HOK.out]; simp [c1, c2, c3, c4, c5, c6], Lib.hid (below_drewN (Below.refl _ _) _)⟩
                · have i5 : ¬ (vA : Int) < (v2 : Int) := by omega
                  go_quiet (((first | (go_at_call 88; exact quiet_of_eq (HSq.out _)) | (go_at_call 116; exact quiet_of_eq (HBk.out _)))))
                  go_wp2
                  go_meet
                  exact ⟨by rw [HOK.out]; simp [c1, c2, c3, c4, c5], Lib.hid (below_drewN (Below.refl _ _) _)⟩
              · have i4 : ¬ (v2 : Int) ≤ (n : Int) - 3 := by omega
                go_quiet (((first | (go_at_call 88; exact quiet_of_eq (HSq.out _)) | (go_at_call 116; exact quiet_of_eq (HBk.out _)))))
                go_wp2
                go_meet
                exact ⟨by rw [HOK.out]; simp [c1, c2, c3, c4], Lib.hid (below_drewN (Below.refl _ _) _)⟩
            · have i3 : ¬ (2 : Int) ≤ (v2 : Int) := by omega
              go_quiet (((first | (go_at_call 88; exact quiet_of_eq (HSq.out _)) | (go_at_call 116; exact quiet_of_eq (HBk.out _)))))
              go_wp2
              go_meet
              exact ⟨by rw [HOK.out]; simp [c1, c2, c3], Lib.hid (below_drewN (Below.refl _ _) _)⟩
          · have i2 : ¬ (0 : Int) < (v5 : Int) := by omega
            go_quiet (((first | (go_at_call 88; exact quiet_of_eq (HSq.out _)) | (go_at_call 116; exact quiet_of_eq (HBk.out _)))))
            go_wp2
            go_meet
            exact ⟨by rw [HOK.out]; simp [c1, c2], Lib.hid (below_drewN (Below.refl _ _) _)⟩
        · have i1 : (((b 0).toNat : Int) == 1) = false := by rw [HKd.out]; simpa using c1
          go_quiet (((first | (go_at_call 88; exact quiet_of_eq (HSq.out _)) | (go_at_call 116; exact quiet_of_eq (HBk.out _)))))
          go_wp2
          go_meet
          exact ⟨by rw [HOK.out]; simp [c1], Lib.hid (below_drewN (Below.refl _ _) _)⟩
    case rest =>
      obtain ⟨rfl, HBC2⟩ := hcut
      have hb7 : Below w1.heap.size w1 wc := (HB4.out.trans (HBC.out.mono HB4.out.size)).trans (HBC2.out.mono (Nat.le_trans HB4.out.size HBC.out.size))
      obtain ⟨hfz, hcl⟩ := HF.out wc hb7
      have q0 := hcl 0 (by omega)
      have q1 := hcl 1 (by omega)
      have q2 := hcl 2 (by omega)
      have q3 := hcl 3 (by omega)
      have e0 := hfz 0
      have e1 := hfz 1
      have e2 := hfz 2
      have e3 := hfz 3
      replace f0 := keepc HBC2.out f0
      replace f1 := keepc HBC2.out f1
      replace f2 := keepc HBC2.out f2
      replace f3 := keepc HBC2.out f3
      have HB7 := Lib.hid hb7
      obtain ⟨ho, hho⟩ : ∃ ho, ho = hdOk n b := ⟨_, rfl⟩
      rw [← hho]
      have HHO := Lib.hid hho
      clear hb7 hfz hcl s0 s3 hho
      go_wp2
      refine bodyPost_ret (v := .tuple #[.agg #[.int .i64 (v5 : Int), .int .i64 (v2 : Int), .int .i64 (vA : Int), .int .i64 (vN : Int)], .bool ho]) (res127 (g := w.heap.size) rfl rfl (set4_cells (w := wc) fun i hi => by
        match i, hi with
        | 0, _ => rw [q0]; rfl
        | 1, _ => rw [q1]; rfl
        | 2, _ => rw [q2]; rfl
        | 3, _ => rw [q3]; rfl)) rfl ⟨v5, v2, vA, vN, ⟨?_, fun x hx => ?_⟩, ?_⟩
      · have e : (headAt P i).isSome = ho := by
          rw [HN.out, HHO.out]
          cases hdOk n b <;> simp
        rw [e]
      · rw [HN.out] at hx
        split at hx
        · cases hx
          rw [HV5.out, HV2.out, HVA.out, HVN.out]
          rfl
        · cases hx
      · exact (set4_only wc w.heap.size _ _ _ _).below (HB1.out.trans (HB7.out.mono HB1.out.size)) (by simp) (Nat.le_refl _)
theorem rj_heads (w : World) (r : RLoc) (P : Pl) (h : RefAt w r P) (i : Nat) : Calls Tryz.prog 127 #[rv r, .int .i64 i] w fun e w' => HeadR w w' P i e := by
  by_cases h0 : P.has i = 0
  · exact rj_headYes w r P h i h0
  · exact rj_headNo w r P h i h0
end Go.Proofs.YtdhidcoglioalaaGreat.Walks
namespace Go.Proofs.YtdhidcoglioalaaGreat.Walks
open Go.RowKit Plain Jn
set_option linter.unusedVariables false
section
variable {w w' : World} {j : JLoc} {q : PLoc} {J J' : Jn} {P P' : Pl}
theorem jread_any (h : JP w j q J P) (i : Int) : Calls Tryz.prog 4 #[jv j, .int .i64 i] w fun e w' => (∃ v, e = .returned (.tuple #[v, .int .i64 (readE P J i)]) ∧ ReadV w w' v (readE P J i) (readB P J i)) ∧ JP w' j q (readJ P J i) P ∧ Only (j.R q) w w' := by
  cases hb : J.broken with
  | true =>
    have e1 : readE P J i = 50 := by unfold readE; rw [hb]; simp
    have e2 : readJ P J i = J := by unfold readJ; rw [hb]; simp
    rw [e1, e2]
    refine Calls.mono (read_broken h i hb) ?_
    rintro e w' ⟨rfl, rfl⟩
    exact ⟨⟨_, rfl, by unfold ReadV; rw [if_neg (by omega)]⟩, h, Only.refl _ _⟩
  | false =>
    by_cases h0 : i < 0
    · have e1 : readE P J i = 9 := by unfold readE; rw [hb]; simp [h0]
      have e2 : readJ P J i = J := by unfold readJ; rw [hb]; simp [h0]
      rw [e1, e2]
      refine Calls.mono (read_neg h i hb h0) ?_
      rintro e w' ⟨rfl, rfl⟩
      exact ⟨⟨_, rfl, by unfold ReadV; rw [if_neg (by omega)]⟩, h, Only.refl _ _⟩
    · by_cases h1 : (J.blocks P.n : Int) ≤ i
      · have e1 : readE P J i = 9 := by unfold readE; rw [hb]; simp [h1]
        have e2 : readJ P J i = J := by unfold readJ; rw [hb]; simp [h1]
        rw [e1, e2]
        refine Calls.mono (read_high h i hb (by omega) h1) ?_
        rintro e w' ⟨rfl, n, rfl⟩
        exact ⟨⟨_, rfl, by unfold ReadV; rw [if_neg (by omega)]⟩, h.drewN n, (Only.refl _ _).drewN n⟩
      · obtain ⟨k, rfl⟩ : ∃ k : Nat, i = k := ⟨i.toNat, by omega⟩
        have hk : k < J.blocks P.n := by omega
        have hno : ¬ ((k : Int) < 0 ∨ (J.blocks P.n : Int) ≤ (k : Int)) := by omega
        have hbl : J.blocks P.n = P.n - 2 - J.log := by unfold Jn.blocks; rw [hb]; simp
        have hhome : J.home k < P.n := by unfold Jn.home; have := h.ok.logn; omega
        cases hp : J.pend k with
        | some b =>
          have e1 : readE P J k = 0 := by unfold readE; rw [hb, if_neg hno, Int.toNat_natCast, hp]; simp
          have e2 : readJ P J k = J := by unfold readJ; rw [hb, if_neg hno, Int.toNat_natCast, hp]; simp
          have e3 : readB P J k = b := by unfold readB; rw [Int.toNat_natCast, hp]
          rw [e1, e2, e3]
          refine Calls.mono (read_pend h k hb hk hp) ?_
          rintro e w' ⟨⟨g, rfl, h2, h3, h4⟩, hj, hbe⟩
          exact ⟨⟨_, rfl, by unfold ReadV; rw [if_pos rfl]; exact ⟨g, 0, rfl, h2, h3, h4⟩⟩, hj, Only.of_below hbe⟩
        | none =>
          have e3 : readB P J k = homeB (P.seen (J.home k)) := by unfold readB; rw [Int.toNat_natCast, hp]
          cases hd : P.dead with
          | true =>
            have hh : P.has (J.home k : Nat) = 50 := by unfold Pl.has; rw [hd]; simp
            have e1 : readE P J k = 50 := by unfold readE; rw [hb, if_neg hno, Int.toNat_natCast, hp]; simp [hh]
            have e2 : readJ P J k = J.brk := by unfold readJ; rw [hb, if_neg hno, Int.toNat_natCast, hp]; simp [hh]
            rw [e1, e2]
            refine Calls.mono (read_dead h k hb hk hp hd) ?_
            rintro e w' ⟨rfl, hj, ho⟩
            exact ⟨⟨_, rfl, by unfold ReadV; rw [if_neg (by omega)]⟩, hj, ho⟩
          | false =>
            have hh : P.has (J.home k : Nat) = 0 := by unfold Pl.has; rw [hd, if_neg (by simp), if_neg (by omega)]
            have e1 : readE P J k = homeE (P.seen (J.home k)) k := by unfold readE; rw [hb, if_neg hno, Int.toNat_natCast, hp]; simp [hh]
            have e2 : readJ P J k = J := by unfold readJ; rw [hb, if_neg hno, Int.toNat_natCast, hp]; simp [hh]
            rw [e1, e2, e3]
            cases hk1 : isBlank (P.seen (J.home k)) with
            | true =>
              have e4 : homeE (P.seen (J.home k)) k = 0 := by unfold homeE; rw [hk1]; simp
              have e5 : homeB (P.seen (J.home k)) = zeroB := by unfold homeB; rw [hk1]; simp
              rw [e4, e5]
              refine Calls.mono (read_blank h k hb hk hp hd hk1) ?_
              rintro e w' ⟨⟨g, rfl, h2, h3, h4⟩, hj, hbe⟩
              exact ⟨⟨_, rfl, by unfold ReadV; rw [if_pos rfl]; exact ⟨g, 0, rfl, h2, h3, h4⟩⟩, hj, Only.of_below hbe⟩
            | false =>
              have e5 : homeB (P.seen (J.home k)) = (parseS (P.seen (J.home k))).data := by unfold homeB; rw [hk1]; simp
              have bad : homeE (P.seen (J.home k)) k = 70 → (Calls Tryz.prog 4 #[jv j, .int .i64 k] w fun e w' => e = .returned (.tuple #[.slice none 0 0, .int .i64 70]) ∧ JP w' j q J P ∧ Below w.heap.size w w') →
                  Calls Tryz.prog 4 #[jv j, .int .i64 k] w fun e w' => (∃ v, e = .returned (.tuple #[v, .int .i64 (homeE (P.seen (J.home k)) k)]) ∧ ReadV w w' v (homeE (P.seen (J.home k)) k) (homeB (P.seen (J.home k)))) ∧ JP w' j q J P ∧ Only (j.R q) w w' := fun e hc => by
                rw [e]
                refine Calls.mono hc ?_
                rintro e w' ⟨rfl, hj, hbe⟩
                exact ⟨⟨_, rfl, by unfold ReadV; rw [if_neg (by omega)]⟩, hj, Only.of_below hbe⟩
              cases hok : parseOk (P.seen (J.home k)) with
              | false => exact bad (by unfold homeE; rw [hk1, hok]; simp) (read_bad1 h k hb hk hp hd hk1 hok)
              | true =>
                cases h2 : ((parseS (P.seen (J.home k))).kind != 4) with
                | true => exact bad (by unfold homeE; rw [hk1, hok, h2]; simp) (read_bad2 h k hb hk hp hd hk1 hok h2)
                | false =>
                  cases h3 : ((parseS (P.seen (J.home k))).turn != 0) with
                  | true => exact bad (by unfold homeE; rw [hk1, hok, h2, h3]; simp) (read_bad3 h k hb hk hp hd hk1 hok h2 h3)
                  | false =>
                    cases h4 : ((parseS (P.seen (J.home k))).number != (k : Int)) with
                    | true => exact bad (by unfold homeE; rw [hk1, hok, h2, h3, h4]; simp) (read_bad4 h k hb hk hp hd hk1 hok h2 h3 h4)
                    | false =>
                      have e4 : homeE (P.seen (J.home k)) k = 0 := by unfold homeE; rw [hk1, hok, h2, h3, h4]; simp
                      rw [e4, e5]
                      refine Calls.mono (read_good h k hb hk hp hd hk1 hok h2 h3 h4) ?_
                      rintro e w' ⟨⟨g, rfl, h2, h3, h4⟩, hj, hbe⟩
                      exact ⟨⟨_, rfl, by unfold ReadV; rw [if_pos rfl]; exact ⟨g, 3, rfl, h2, h3, h4⟩⟩, hj, Only.of_below hbe⟩
end
end Go.Proofs.YtdhidcoglioalaaGreat.Walks
