/-
  The walks of the document's journal: a sector is read, heads.
-/
import Derived.Test.YtdhidcoglioalaaGreatM14
import Derived.Test.YtdhidcoglioalaaGreatM17
import Derived.Test.YtdhidcoglioalaaGreatM18
import Derived.Deep.CutRange
namespace Go.Proofs.YtdhidcoglioalaaGreat.Walks
open Go.RowKit Plain
set_option linter.unusedVariables false

/-- Bytes in a slice of the call's own or in one that was there: what a caller sees. -/
structure ByO (w w' : World) (v : Value) (l : List Byte) : Prop where
  form : ∃ a c, v = .slice a l.length c ∧ Bys w' a l ∧ (∀ ad, a = some ad → w.heap.size ≤ ad.block ∧ ∀ j, w'.frozen? ⟨ad.block, j, none⟩ = false) ∧ (a = none → c = 0)
set_option maxRecDepth 10000 in
set_option maxHeartbeats 1000000 in
theorem rj_head (w : World) (turn log at_ next : Nat) (ht : turn ≤ 9223372036854775807) (hl : log ≤ 9223372036854775807) (ha : at_ ≤ 9223372036854775807) (hn : next ≤ 9223372036854775807) :
    Calls Tryz.prog 110 #[.int .i64 turn, .int .i64 log, .int .i64 at_, .int .i64 next] w fun e w' => ∃ u, e = .returned u ∧ OwnV w' w.heap.size u (packL (headSct turn log at_ next)) ∧ Below w.heap.size w w' := by
  have H2 := Lib.hid (numB_length 2 (at_ : Int))
  have H5 := Lib.hid (numB_length 5 (next : Int))
  go_enter Tryz.func110, Tryz.ntmps110
  go_wp2_with fail
  refine Calls.mono (rj_number _ w.heap.size _ [] at_ 2 (World.ownsRow_nil _ _ _ _) (Nat.le_refl _) (by simp) (by omega) (by omega)) ?_
  rintro e w1 ⟨u1, rfl, ho1, hb1⟩
  obtain ⟨L1, hL1⟩ : ∃ L, L = [] ++ numB 2 (at_ : Int) := ⟨_, rfl⟩
  rw [← hL1] at ho1
  have HO1 := Lib.hid ho1
  have HB1 := Lib.hid hb1
  have HL1 := Lib.hid hL1
  have HZ1 := Lib.hid hb1.size
  have HN1 : Hid (L1.length = 2) := Lib.hid (by rw [hL1]; exact H2.out)
  clear ho1 hb1 hL1
  go_upto_region 2 with (fail)
  go_wp2_with fail
  refine Calls.mono (rj_number _ w.heap.size _ L1 next 5 HO1.out HZ1.out (by have := HN1.out; omega) (by omega) (by omega)) ?_
  rintro e w2 ⟨u2, rfl, ho2, hb2⟩
  obtain ⟨L2, hL2⟩ : ∃ L, L = L1 ++ numB 5 (next : Int) := ⟨_, rfl⟩
  rw [← hL2] at ho2
  have hn2 : L2.length = 7 := by rw [hL2, List.length_append, HN1.out, H5.out]
  obtain ⟨a2, c2, rfl, hB2, hf2, hc2⟩ := ho2.bys (by omega)
  have HB2 := Lib.hid (HB1.out.trans hb2)
  have HL2 := Lib.hid hL2
  have HN2 := Lib.hid hn2
  have HBy := Lib.hid hB2
  have HC2 := Lib.hid hc2
  clear ho2 hb2 hL2 hn2 hB2 hf2 hc2
  go_wp2_with fail
  refine Calls.mono (rj_pack _ 1 turn log a2 c2 L2 _ rfl (by have := HN2.out; omega) HBy.out HC2.out (by omega) (by omega)) ?_
  rintro e w3 ⟨u3, rfl, ho3, hb3⟩
  have HO3 := Lib.hid ho3
  have HB3 := Lib.hid (Below.step HB2.out hb3)
  clear ho3 hb3
  go_wp2
  go_ret
  refine ⟨_, rfl, ?_, HB3.out⟩
  have h1 := OwnV.mono HO3.out HB2.out.size
  rw [HL2.out, HL1.out] at h1
  exact h1
/-! ### A copy of the call's own -/
theorem ry_copy (w : World) (a : Option Addr) (n cap : Nat) (l : List Byte) (hn : l.length = n) (hB : Bys w a l) (hc : a = none → cap = 0) (h4 : n ≤ 4096) :
    Calls Tryz.prog 64 #[.slice a n cap] w fun e w' => ∃ u, e = .returned u ∧ OwnV w' w.heap.size u l ∧ Below w.heap.size w w' := by
  have HB := Lib.hid hB
  have HC := Lib.hid hc
  have HN := Lib.hid hn
  clear hB hc hn
  go_enter Tryz.func64, Tryz.ntmps64
  go_wp2_with (first | (at_builtin; go_loud (refine wp_append_y rfl (.tmp 4) (.tmp 5) rfl w.heap.size (.slice none 0 0) [] rfl (World.ownsRow_nil _ _ _ _) a n cap l HN.out rfl HB.out HC.out (Nat.le_refl _) (by simp; omega) l rfl ?_)))
  intro u' w' h1 hb
  have H1 := Lib.hid h1
  have HBe := Lib.hid hb
  clear h1 hb
  go_wp2
  go_ret
  exact ⟨_, rfl, H1.out, HBe.out⟩
theorem OwnV.at_ {w : World} {base : Nat} {v : Value} {l : List Byte} (h : OwnV w base v l) (h0 : 0 < l.length) (hm : l.length ≤ 4096) : ∃ g c, v = .slice (some ⟨g, 0, none⟩) l.length c ∧ l.length ≤ c ∧ c ≤ maxLen ∧ base ≤ g ∧ g < w.heap.size ∧ Bys w (some ⟨g, 0, none⟩) l ∧ ∀ j, w.frozen? ⟨g, j, none⟩ = false := by
  obtain ⟨a, c, e, hB, hf, _⟩ := h.bys hm
  obtain ⟨_, ⟨_, h1⟩ | ⟨g, cap, cur, e2, hb, hg, hc1, hc2, _⟩⟩ := h
  · omega
  · rw [e] at e2
    simp only [Value.slice.injEq] at e2
    obtain ⟨rfl, _, rfl⟩ := e2
    exact ⟨g, c, e, hc1, hc2, hb, lt_of_heap hg, hB, (hf _ rfl).2⟩
/-- A sector's fields, as the document reads them. -/
abbrev sctD (b : Sec) (da : Option Addr) (dc : Nat) : Array Value := #[.int .i64 ((b 0).toNat : Int), .int .i64 (getN (cutS b 1 5) : Int), .int .i64 (getN (cutS b 6 2) : Int), .slice da 48 dc]
theorem sctOf_parse (b : Sec) : sctOf ((b 0).toNat : Int) (getN (cutS b 1 5) : Int) (getN (cutS b 6 2) : Int) (cutS b 8 48) = parseS b := rfl
theorem cut_one {b : Sec} (h : 0 < (bytesOf b).length) : (bytesOf b)[0] = b 0 := by simp [bytesOf]
theorem z153 : (Tryz.prog.info? 153).map (·.size) = some 4 := by kernel_rfl
/-- Four cells of a struct of the document's. -/
abbrev Cells4 (w : World) (g : Nat) (v0 v1 v2 v3 : Value) : Prop := w.cell? ⟨g, 0, none⟩ = some v0 ∧ w.cell? ⟨g, 1, none⟩ = some v1 ∧ w.cell? ⟨g, 2, none⟩ = some v2 ∧ w.cell? ⟨g, 3, none⟩ = some v3
theorem Cells4.range {w : World} {g : Nat} {v0 v1 v2 v3 : Value} (h : Cells4 w g v0 v1 v2 v3) : w.rangeAt g 0 [v0, v1, v2, v3] := by
  obtain ⟨h0, h1, h2, h3⟩ := h
  intro j v hv
  match j, hv with
  | 0, hv => simp at hv; subst hv; exact h0
  | 1, hv => simp at hv; subst hv; exact h1
  | 2, hv => simp at hv; subst hv; exact h2
  | 3, hv => simp at hv; subst hv; exact h3
  | j + 4, hv => simp at hv
theorem res117 {W : World} {v0 v1 v2 v3 : Value} {ok : Bool} {g : Nat} {tmps : Array Value} (h2 : tmps.getD 2 undef = .pointer (some ⟨g, 0, none⟩)) (h3 : tmps.getD 3 undef = .bool ok) (h : Cells4 W g v0 v1 v2 v3) :
    (results Tryz.f117 tmps).run Tryz.prog W = .ok (.tuple #[.agg #[v0, v1, v2, v3], .bool ok]) W := by
  have hr : (loadVar 153 ⟨g, 0, none⟩).run Tryz.prog W = .ok (.agg #[v0, v1, v2, v3]) W := run_loadVar_mid W g 0 153 [v0, v1, v2, v3] _ h.range Tryz.underlying153 rfl z153
  rw [Array.getD_eq_getD_getElem?] at h2 h3
  simp [results, Tryz.results117, asAddr, h2, h3, hr, Result.andThen]
theorem eqB_n (a a' : Option Addr) (cap cap' n n' : Nat) (l l' : List Byte) (w : World) (hn : l.length = n) (hn' : l'.length = n') (hB : Bys w a l) (hB' : Bys w a' l') :
    Calls Tryz.prog 65 #[.slice a n cap, .slice a' n' cap'] w fun e w' => e = .returned (.bool (decide (l = l'))) ∧ Below w.heap.size w w' := by
  subst hn hn'
  exact eqBytes_any a a' cap cap' l l' w hB hB'
abbrev Z153 : Obj := .cells #[.int .i64 0, .int .i64 0, .int .i64 0, .slice none 0 0] 153
abbrev Four (w2 : World) (g : Nat) : Prop :=
    w2.cell? ⟨g, 0, none⟩ = some (.int .i64 0) ∧ w2.cell? ⟨g, 1, none⟩ = some (.int .i64 0) ∧ w2.cell? ⟨g, 2, none⟩ = some (.int .i64 0) ∧ w2.cell? ⟨g, 3, none⟩ = some (.slice none 0 0) ∧
    w2.frozen? ⟨g, 0, none⟩ = false ∧ w2.frozen? ⟨g, 1, none⟩ = false ∧ w2.frozen? ⟨g, 2, none⟩ = false ∧ w2.frozen? ⟨g, 3, none⟩ = false
theorem four_kept {W w2 : World} (hb : Below (W.alloc Z153).heap.size (W.alloc Z153) w2) : Four w2 W.heap.size := by
  have hf : ∀ i, w2.frozen? ⟨W.heap.size, i, none⟩ = false := fun i => (hb.frozen (p := ⟨W.heap.size, i, none⟩) (by simp)).trans (frozen_new _ _ _ _)
  exact ⟨keepc hb (by rw [cell_new]; rfl), keepc hb (by rw [cell_new]; rfl), keepc hb (by rw [cell_new]; rfl), keepc hb (by rw [cell_new]; rfl), hf 0, hf 1, hf 2, hf 3⟩
abbrev set4 (w : World) (g : Nat) (v0 v1 v2 v3 : Value) : World := (((w.setCell ⟨g, 0, none⟩ v0).setCell ⟨g, 1, none⟩ v1).setCell ⟨g, 2, none⟩ v2).setCell ⟨g, 3, none⟩ v3
theorem set4_only (w : World) (g : Nat) (v0 v1 v2 v3 : Value) : Only [g] w (set4 w g v0 v1 v2 v3) :=
  ((((Only.refl _ _).setCell (by simp) _).setCell (by simp) _).setCell (by simp) _).setCell (by simp) _
theorem set4_cells {w : World} {g : Nat} {v0 v1 v2 v3 : Value} (h : ∀ i, i < 4 → (w.cell? ⟨g, i, none⟩).isSome = true) : Cells4 (set4 w g v0 v1 v2 v3) g v0 v1 v2 v3 := by
  obtain ⟨u0, h0⟩ := Option.isSome_iff_exists.1 (h 0 (by omega))
  obtain ⟨u1, h1⟩ := Option.isSome_iff_exists.1 (h 1 (by omega))
  obtain ⟨u2, h2⟩ := Option.isSome_iff_exists.1 (h 2 (by omega))
  obtain ⟨u3, h3⟩ := Option.isSome_iff_exists.1 (h 3 (by omega))
  have ne : ∀ {i j : Nat}, i ≠ j → (⟨g, i, none⟩ : Addr) ≠ ⟨g, j, none⟩ := fun h e => h (by injection e)
  have o : ∀ {W : World} {i j : Nat} {x y : Value}, i ≠ j → W.cell? ⟨g, j, none⟩ = some y → (W.setCell ⟨g, i, none⟩ x).cell? ⟨g, j, none⟩ = some y := fun h e => by
    rw [World.cell?_setCell_other _ _ _ _ (ne h)]; exact e
  exact ⟨o (by omega) (o (by omega) (o (by omega) (World.cell?_setCell_same _ _ _ h0))), o (by omega) (o (by omega) (World.cell?_setCell_same _ _ _ (o (by omega) h1))),
    o (by omega) (World.cell?_setCell_same _ _ _ (o (by omega) (o (by omega) h2))), World.cell?_setCell_same _ _ _ (o (by omega) (o (by omega) (o (by omega) h3)))⟩
theorem four_some {w : World} {g : Nat} (h : Four w g) : ∀ i, i < 4 → (w.cell? ⟨g, i, none⟩).isSome = true := fun i hi => by
  match i, hi with
  | 0, _ => rw [h.1]; rfl
  | 1, _ => rw [h.2.1]; rfl
  | 2, _ => rw [h.2.2.1]; rfl
  | 3, _ => rw [h.2.2.2.1]; rfl
theorem OwnV.set4 {w : World} {base g : Nat} {v v0 v1 v2 v3 : Value} {l : List Byte} (h : OwnV w base v l) (hg : g < base) : OwnV (set4 w g v0 v1 v2 v3) base v l := by
  refine ⟨h.1, ?_⟩
  rcases h.2 with hn | ⟨b, cap, cur, e, hb0, hgg, rest⟩
  · exact .inl hn
  · refine .inr ⟨b, cap, cur, e, hb0, ?_, rest⟩
    rw [(set4_only w g v0 v1 v2 v3).block b (lt_of_heap hgg) (by simp; omega)]
    exact hgg
theorem OwnV.only {w w' : World} {base : Nat} {R : List Nat} {v : Value} {l : List Byte} (h : OwnV w base v l) (ho : Only R w w') (hR : ∀ b ∈ R, b < base) : OwnV w' base v l := by
  refine ⟨h.1, ?_⟩
  rcases h.2 with hn | ⟨b, cap, cur, e, hb0, hgg, rest⟩
  · exact .inl hn
  · refine .inr ⟨b, cap, cur, e, hb0, ?_, rest⟩
    rw [ho.block b (lt_of_heap hgg) (fun hm => by have := hR b hm; omega)]
    exact hgg
theorem OwnV.setOut {w : World} {base g i : Nat} {v x : Value} {l : List Byte} (h : OwnV w base v l) (hg : g < base) : OwnV (w.setCell ⟨g, i, none⟩ x) base v l := by
  refine ⟨h.1, ?_⟩
  rcases h.2 with hn | ⟨b, cap, cur, e, hb0, hgg, rest⟩
  · exact .inl hn
  · refine .inr ⟨b, cap, cur, e, hb0, ?_, rest⟩
    have ho : Only [g] w (w.setCell ⟨g, i, none⟩ x) := (Only.refl _ _).setCell (by simp) _
    rw [ho.block b (lt_of_heap hgg) (by simp; omega)]
    exact hgg
section
variable {ρ : Operand → Value} {d : Option Tmp} {x y : Operand} {t T : TypeId} {p : String} {af : Array Edge} {gd : Option (Nat × Bool)} {w : World}
theorem exec_load153T (hT : Hid (T = 153)) (h1 : isPt (ρ x) = true) (h2 : IsRow 4 w (adOf (ρ x))) : (execOp ρ ⟨d, .load T x, t, p, af, gd⟩).run Tryz.prog w = .ok (.value (.agg (cellL 4 w (adOf (ρ x))).toArray)) w := by
  rw [hT.out]
  exact exec_loadN Tryz.underlying153 rfl z153 h1 h2
theorem exec_store153T (hT : Hid (T = 153)) (h1 : isPt (ρ x) = true) (h2 : RoomN 4 w (adOf (ρ x))) (h3 : OneN 4 (ρ y)) : (execOp ρ ⟨d, .store T x y, t, p, af, gd⟩).run Tryz.prog w = .ok .skip (w.setCells (adOf (ρ x)).block (adOf (ρ x)).off (cellsV (ρ y))) := by
  rw [hT.out]
  exact exec_storeN z153 h1 h2 h3
end
attribute [local go_sem ↓] exec_load153T exec_store153T
attribute [local go_sem] isPt_mk adOf_mk cellsV_mk cellsV_arr
set_option maxRecDepth 10000 in
set_option maxHeartbeats 4000000 in
theorem rj_unpack (w : World) (g c : Nat) (b : Sec) (hB : Bys w (some ⟨g, 0, none⟩) (bytesOf b)) (hc : 64 ≤ c) (hcm : c ≤ maxLen) :
    Calls Tryz.prog 117 #[.slice (some ⟨g, 0, none⟩) 64 c] w fun e w' => ∃ da dc, e = .returned (.tuple #[.agg (sctD b da dc), .bool (parseOk b)]) ∧ OwnV w' w.heap.size (.slice da 48 dc) (cutS b 8 48) ∧ Below w.heap.size w w' := by
  obtain ⟨b', off', e, hg, hcl⟩ := hB.at_lt (i := 0) (by rw [bytesOf_length]; omega)
  cases e
  obtain ⟨w1, hw1⟩ : ∃ x, x = w.alloc (.cells #[.int .i64 0, .int .i64 0, .int .i64 0, .slice none 0 0] 153) := ⟨_, rfl⟩
  have hb1 : Below w.heap.size w w1 := by rw [hw1]; exact Below.new _ _
  have hz1 : w1.heap.size = w.heap.size + 1 := by rw [hw1]; simp
  have hB1 := hB.below hb1
  have hg1 : g < w1.heap.size := Nat.lt_of_lt_of_le hg hb1.size
  have c0 : w1.cell? ⟨g, 0, none⟩ = some (.int .u8 ((b 0).toNat : Int)) := by
    obtain ⟨b', off', e, _, hc⟩ := hB1.at_lt (i := 0) (by rw [bytesOf_length]; omega)
    cases e
    have := hc 0 (by rw [bytesOf_length]; omega)
    rw [Nat.add_zero] at this
    rw [this]
    simp [bytesOf, byteV]
  obtain ⟨v5, hv5⟩ : ∃ v, v = getV (cutS b 1 5) := ⟨_, rfl⟩
  obtain ⟨v2, hv2⟩ : ∃ v, v = getV (cutS b 6 2) := ⟨_, rfl⟩
  have HC5 : Hid (∀ w' cp, Below w1.heap.size w1 w' → Calls Tryz.prog 130 #[.slice (some ⟨g, 1, none⟩) 5 cp] w' fun e w'' => e = .returned (.int .i64 v5) ∧ w' = w'') := Lib.hid fun w' cp hb => by
    rw [hv5]
    have h1 := hB1.cut 1 5 (by omega)
    rw [Nat.zero_add] at h1
    exact rj_get w' _ _ 5 cp (cutS_length _ _ _) (h1.below hb)
  have HC2 : Hid (∀ w' cp, Below w1.heap.size w1 w' → Calls Tryz.prog 130 #[.slice (some ⟨g, 6, none⟩) 2 cp] w' fun e w'' => e = .returned (.int .i64 v2) ∧ w' = w'') := Lib.hid fun w' cp hb => by
    rw [hv2]
    have h1 := hB1.cut 6 2 (by omega)
    rw [Nat.zero_add] at h1
    exact rj_get w' _ _ 2 cp (cutS_length _ _ _) (h1.below hb)
  have HC8 : Hid (∀ w' cp, Below w1.heap.size w1 w' → Calls Tryz.prog 64 #[.slice (some ⟨g, 8, none⟩) 48 cp] w' fun e w'' => ∃ da dc, e = .returned (.slice da 48 dc) ∧ OwnV w'' w'.heap.size (.slice da 48 dc) (cutS b 8 48) ∧ Below w'.heap.size w' w'') := Lib.hid fun w' cp hb => by
    have h1 := hB1.cut 8 48 (by omega)
    rw [Nat.zero_add] at h1
    refine Calls.mono (ry_copy w' _ 48 cp _ (cutS_length _ _ _) (h1.below hb) (fun e => by cases e) (by omega)) ?_
    rintro e w'' ⟨u, rfl, ho, hb'⟩
    obtain ⟨da, dc, rfl⟩ := ho.form (by rw [cutS_length]; omega)
    rw [cutS_length] at ho ⊢
    exact ⟨da, dc, rfl, ho, hb'⟩
  have hw0 := IntWalk.i64_in (n := ((b 0).toNat : Int)) (by have := (b 0).isLt; omega)
  have HV5 : Hid (v5 = getN (cutS b 1 5)) := Lib.hid (by rw [hv5, getV5])
  have HV2 : Hid (v2 = getN (cutS b 6 2)) := Lib.hid (by rw [hv2, getV2])
  have HB1 := Lib.hid hB1
  have HBW := Lib.hid hb1
  have HZ1 := Lib.hid hz1
  have MK : Hid (∀ w', Below w1.heap.size w1 w' → w'.cell? ⟨g, 0, none⟩ = some (.int .u8 ((b 0).toNat : Int))) := Lib.hid fun w' hb => (hb.cell (p := ⟨g, 0, none⟩) hg1).trans c0
  have MK2 : Hid (∀ w', Below w1.heap.size w1 w' → ∀ v0 v1 v2 v3, (set4 w' w1.heap.size v0 v1 v2 v3).cell? ⟨g, 0, none⟩ = some (.int .u8 ((b 0).toNat : Int))) := Lib.hid fun w' hb v0 v1 v2 v3 =>
    (set4_only _ _ _ _ _ _).cell (by simp; omega) (MK.out w' hb)
  have hS : Below w1.heap.size w1 w1 := Below.refl _ _
  have S0 := MK.out w1 hS
  have hcm' : c ≤ 9223372036854775807 := hcm
  have k1 : (6 : Int) ≤ c := by omega
  have k2 : (8 : Int) ≤ c := by omega
  have k3 : (56 : Int) ≤ c := by omega
  have k4 : ¬ c = 1 := by omega
  have k5 : ¬ c = 6 := by omega
  have k6 : ¬ c = 8 := by omega
  have k7 : ¬ (c : Int) = 1 := by omega
  have k8 : ¬ (c : Int) = 6 := by omega
  have k9 : ¬ (c : Int) = 8 := by omega
  have HZero : Hid (∀ i, w1.frozen? ⟨w.heap.size, i, none⟩ = false) := Lib.hid fun i => by rw [hw1]; exact frozen_new _ _ _ _
  have HThere : Hid (∀ i, i < 4 → ∃ v, w1.cell? ⟨w.heap.size, i, none⟩ = some v) := Lib.hid fun i hi => by
    rw [hw1]
    match i, hi with
    | 0, _ => exact ⟨_, by rw [cell_new]; rfl⟩
    | 1, _ => exact ⟨_, by rw [cell_new]; rfl⟩
    | 2, _ => exact ⟨_, by rw [cell_new]; rfl⟩
    | 3, _ => exact ⟨_, by rw [cell_new]; rfl⟩
  clear hB hcl hB1 hb1 c0 hv5 hv2 hz1
  go_enter Tryz.func117, Tryz.ntmps117
  go_upto_region 1 with (fail)
  rw [← hw1]
  clear hw1
  go_cut [4] from 4 to 18 (fun v4 wx => ∃ g4 da dc, v4 = .pointer (some ⟨g4, 0, none⟩) ∧ Hid (Below w1.heap.size w1 wx) ∧ Hid (Cells4 wx g4 (.int .i64 ((b 0).toNat : Int)) (.int .i64 v5) (.int .i64 v2) (.slice da 48 dc)) ∧ Hid (OwnV wx w1.heap.size (.slice da 48 dc) (cutS b 8 48)) ∧ Hid (g4 ≠ w.heap.size))
  case first =>
    go_region_held3 (fun w' => w'.cell? ⟨g, 0, none⟩ = some (.int .u8 ((b 0).toNat : Int)))
      (first | with_reducible exact MK.out _ hS | with_reducible exact MK.out _ hS.drew | with_reducible exact MK.out _ (Below.step hS (Below.new _ _)) | with_reducible exact MK.out _ (Below.step hS.drew (Below.new _ _)) | with_reducible exact MK2.out _ hS _ _ _ _ | with_reducible exact MK2.out _ hS.drew _ _ _ _)
      ((first
      | (go_at_call 130; ((with_reducible refine Calls.mono (HC5.out _ _ ?_) ?_); (first | with_reducible exact hS | with_reducible exact Below.drew hS | with_reducible exact Below.step hS (Below.new _ _) | with_reducible exact Below.step (Below.drew hS) (Below.new _ _) | with_reducible exact Below.drew (Below.step hS (Below.new _ _))); rintro e w' ⟨rfl, rfl⟩))
      | (go_at_call 130; ((with_reducible refine Calls.mono (HC2.out _ _ ?_) ?_); (first | with_reducible exact hS | with_reducible exact Below.drew hS | with_reducible exact Below.step hS (Below.new _ _) | with_reducible exact Below.step (Below.drew hS) (Below.new _ _) | with_reducible exact Below.drew (Below.step hS (Below.new _ _))); rintro e w' ⟨rfl, rfl⟩))
      | (go_at_call 64; ((with_reducible refine Calls.mono (HC8.out _ _ ?_) ?_); (first | with_reducible exact hS | with_reducible exact Below.drew hS | with_reducible exact Below.step hS (Below.new _ _) | with_reducible exact Below.step (Below.drew hS) (Below.new _ _) | with_reducible exact Below.drew (Below.step hS (Below.new _ _))); rintro e w2 ⟨da, dc, rfl, ho, hb⟩; have hS0 := hS; have hS : Below w1.heap.size w1 w2 := (by first | exact Below.step hS0 hb | exact Below.step hS0.drew hb | exact Below.step (Below.step hS0 (Below.new _ _)) hb | exact Below.step (Below.step hS0.drew (Below.new _ _)) hb); have HOw := Lib.hid ho; (first | (have hq4 : Four w2 w1.heap.size := four_kept (W := w1) hb) | (have hq4 : Four w2 w1.heap.size := four_kept (W := w1.drew) hb) | (have hq4 := trivial)); (first | (obtain ⟨f0, f1, f2, f3, e0, e1, e2, e3⟩ := hq4) | (clear hq4)); have HBc := Lib.hid hb; clear ho hb))))
    all_goals
      go_wp2_with fail
      go_meet
      first
      | (have hf0 := f0; clear hf0
         refine ⟨w1.heap.size, da, dc, rfl, Lib.hid ?_, Lib.hid ?_, Lib.hid ?_, Lib.hid (by have := HZ1.out; omega)⟩
         · exact Only.below hS (set4_only _ _ _ _ _ _) (fun b hb => by simp at hb; omega) (Nat.le_refl _)
         · exact set4_cells (four_some ⟨f0, f1, f2, f3, e0, e1, e2, e3⟩)
         · exact OwnV.mono (OwnV.set4 HOw.out (by simp)) (by simp))
      | (refine ⟨w2.heap.size, da, dc, rfl, Lib.hid ?_, Lib.hid ?_, Lib.hid ?_, Lib.hid (by have := HZ1.out; have := hS.size; omega)⟩
         · exact Below.step hS (Below.new _ _)
         · exact ⟨by rw [cell_new]; rfl, by rw [cell_new]; rfl, by rw [cell_new]; rfl, by rw [cell_new]; rfl⟩
         · exact OwnV.mono (HOw.out.keep (Below.new _ _)) (Nat.le_refl _))
  case rest =>
    obtain ⟨g4, da, dc, rfl, HBC, HCC, HOC, HNE⟩ := hcut
    have hs2 : w1.heap.size ≤ wc.heap.size := HBC.out.size
    have hg4 : g4 < wc.heap.size := block_lt_of_cell HCC.out.1
    have hg0 : w.heap.size < w1.heap.size := by have := HZ1.out; omega
    have hne : g4 ≠ w.heap.size := HNE.out
    obtain ⟨Ls, hLs⟩ : ∃ Ls : List Value, Ls = [.int .i64 ((b 0).toNat : Int), .int .i64 v5, .int .i64 v2, .slice da 48 dc] := ⟨_, rfl⟩
    have hl4 : Ls.length = 4 := by rw [hLs]; rfl
    have HRow : Hid (RowAt wc ⟨g4, 0, none⟩ Ls) := Lib.hid ⟨rfl, by rw [hLs]; exact HCC.out.range⟩
    have HRm : Hid (∀ w', Below wc.heap.size wc w' → RoomN 4 w' ⟨w.heap.size, 0, none⟩) := Lib.hid fun w' hb => ⟨rfl, fun i hi => by
      have hb' := HBC.out.trans (hb.mono hs2)
      obtain ⟨v, hv⟩ := HThere.out i hi
      rw [show (⟨w.heap.size, 0, none⟩ : Addr).off + i = i by simp]
      refine ⟨?_, (hb'.frozen (p := ⟨w.heap.size, i, none⟩) hg0).trans (HZero.out i)⟩
      rw [hb'.cell (p := ⟨w.heap.size, i, none⟩) hg0, hv]
      rfl⟩
    have MK2 : Hid (∀ w', Below wc.heap.size wc w' → RoomN 4 w' ⟨w.heap.size, 0, none⟩ ∧ IsRow 4 w' ⟨g4, 0, none⟩ ∧ cellL 4 w' ⟨g4, 0, none⟩ = Ls) := Lib.hid fun w' hb => by
      have hr := HRow.out.below hb hg4
      exact ⟨HRm.out w' hb, hr.is hl4, hr.cells hl4⟩
    have MK3 : Hid (∀ w', Below wc.heap.size wc w' → RoomN 4 (w'.setCells w.heap.size 0 Ls) ⟨w.heap.size, 0, none⟩ ∧ IsRow 4 (w'.setCells w.heap.size 0 Ls) ⟨g4, 0, none⟩ ∧ cellL 4 (w'.setCells w.heap.size 0 Ls) ⟨g4, 0, none⟩ = Ls) := Lib.hid fun w' hb => by
      have hr := (HRow.out.below hb hg4).only (Only.setCells (R := [w.heap.size]) (b := w.heap.size) (by simp) Ls 0 (Only.refl _ w')) (by simp; exact hne)
      exact ⟨⟨rfl, World.there_setCells (HRm.out w' hb).2 _ _ _⟩, hr.is hl4, hr.cells hl4⟩
    have HPk : Hid (∀ w', Below wc.heap.size wc w' → Calls Tryz.prog 112 #[.agg Ls.toArray] w' fun e w'' => ∃ gp cp, e = .returned (.slice (some ⟨gp, 0, none⟩) 64 cp) ∧ Bys w'' (some ⟨gp, 0, none⟩) (packL (parseS b)) ∧ Below w'.heap.size w' w'') := Lib.hid fun w' hb => by
      have hod := HOC.out.keep hb
      obtain ⟨a9, c9, e9, hB9, _, hc9⟩ := hod.bys (by rw [cutS_length]; omega)
      simp only [Value.slice.injEq] at e9
      obtain ⟨rfl, _, rfl⟩ := e9
      have h5 := getN5_lt b
      have h2 := getN2_lt b
      have := rj_pack w' ((b 0).toNat : Int) (getN (cutS b 1 5) : Int) (getN (cutS b 6 2) : Int) da dc (cutS b 8 48) 48 (cutS_length _ _ _) (by omega) hB9 hc9 (by omega) (by omega)
      rw [sctOf_parse] at this
      rw [hLs, HV5.out, HV2.out]
      refine Calls.mono this ?_
      rintro e w'' ⟨u, rfl, ho, hb'⟩
      obtain ⟨gp, cp, rfl, _, _, _, _, hBp, _⟩ := ho.at_ (by rw [packL_length]; omega) (by rw [packL_length]; omega)
      rw [packL_length]
      exact ⟨gp, cp, rfl, hBp, hb'⟩
    have HEq : Hid (∀ w' gp cp, Below wc.heap.size wc w' → Bys w' (some ⟨gp, 0, none⟩) (packL (parseS b)) → Calls Tryz.prog 65 #[.slice (some ⟨gp, 0, none⟩) 64 cp, .slice (some ⟨g, 0, none⟩) 64 c] w' fun e w'' => e = .returned (.bool (parseOk b)) ∧ Below w'.heap.size w' w'') := Lib.hid fun w' gp cp hb hB' => by
      rw [← unpack_ok b]
      exact eqB_n _ _ cp c 64 64 _ _ w' (packL_length _) (bytesOf_length _) hB' (HB1.out.below (HBC.out.trans (hb.mono hs2)))
    have hon : OneN 4 (.agg Ls.toArray) := ⟨Ls, hl4, (by rw [hLs]; intro u hu; simp at hu; rcases hu with rfl | rfl | rfl | rfl <;> rfl), rfl⟩
    have HLs := Lib.hid hLs
    have HL4 := Lib.hid hl4
    have hS2 : Below wc.heap.size wc wc := Below.refl _ _
    obtain ⟨S0, S1, S2⟩ := MK2.out wc hS2
    clear hLs hl4 hg4 hne hS S0 k1 k2 k3 k4 k5 k6 k7 k8 k9 hw0 HC5 HC2 HC8 MK
    go_wp2_with fail
    obtain ⟨T, hT⟩ : ∃ T : TypeId, T = 153 := ⟨_, rfl⟩
    rw [show Op.load 153 (Operand.tmp 4) = Op.load T (Operand.tmp 4) by rw [hT], show Op.store 153 (Operand.tmp 2) (Operand.tmp 19) = Op.store T (Operand.tmp 2) (Operand.tmp 19) by rw [hT]]
    have HT := Lib.hid hT
    clear hT
    go_region_held3 (fun w' => RoomN 4 w' ⟨w.heap.size, 0, none⟩ ∧ IsRow 4 w' ⟨g4, 0, none⟩ ∧ cellL 4 w' ⟨g4, 0, none⟩ = Ls)
      (first | with_reducible exact MK2.out _ hS2 | with_reducible exact MK2.out _ hS2.drew | with_reducible exact MK3.out _ hS2 | with_reducible exact MK3.out _ hS2.drew)
      ((first
      | (go_at_call 112; ((with_reducible refine Calls.mono (HPk.out _ ?_) ?_); (first | with_reducible exact hS2 | with_reducible exact Below.drew hS2 | with_reducible exact Below.step hS2 (Below.new _ _) | with_reducible exact Below.step (Below.drew hS2) (Below.new _ _) | with_reducible exact Below.drew (Below.step hS2 (Below.new _ _))); rintro e w' ⟨gp, cp, rfl, hBp, hb⟩; have hS2 : Below wc.heap.size wc w' := (by first | exact Below.step hS2 hb | exact Below.step hS2.drew hb); have HBp := Lib.hid hBp; clear hBp hb))
      | (go_at_call 65; ((with_reducible refine Calls.mono (HEq.out _ _ _ ?_ HBp.out) ?_); (first | with_reducible exact hS2 | with_reducible exact Below.drew hS2 | with_reducible exact Below.step hS2 (Below.new _ _) | with_reducible exact Below.step (Below.drew hS2) (Below.new _ _) | with_reducible exact Below.drew (Below.step hS2 (Below.new _ _))); rintro e w' ⟨rfl, hb⟩; have hS2 : Below wc.heap.size wc w' := (by first | exact Below.step hS2 hb | exact Below.step hS2.drew hb); clear hb))))
    all_goals
      go_wp2_with fail
      have hO : Only [w.heap.size] w' (w'.setCells w.heap.size 0 Ls) := Only.setCells (R := [w.heap.size]) (b := w.heap.size) (by simp) Ls 0 (Only.refl _ w')
      have hb0 : Below w1.heap.size w1 w' := HBC.out.trans (hS2.mono hs2)
      refine bodyPost_ret (v := .tuple #[.agg (sctD b da dc), .bool (parseOk b)]) (res117 (g := w.heap.size) rfl rfl ?_) rfl ⟨da, dc, rfl, ?_, ?_⟩
      · have hr := World.rangeAt_setCells_same w' w.heap.size 0 Ls (by rw [HL4.out]; exact (HRm.out _ hS2).2)
        rw [HLs.out, HV5.out, HV2.out] at hr
        rw [HLs.out, HV5.out, HV2.out]
        exact ⟨hr 0 _ rfl, hr 1 _ rfl, hr 2 _ rfl, hr 3 _ rfl⟩
      · exact OwnV.mono (OwnV.only (HOC.out.keep hS2) hO (fun b hb => by simp at hb; omega)) (by omega)
      · exact hO.below (HBW.out.trans (hb0.mono (by omega))) (by simp) (Nat.le_refl _)
end Go.Proofs.YtdhidcoglioalaaGreat.Walks
