/-
  The walk of the law CrewMade.
-/
import Derived.Test.YtldcpnabgpjgiaaCrewS
namespace Go.Proofs.Ytldcpnabgpjgiaa.Walks
open Go.RowKit Plain
set_option linter.unusedVariables false

/-- append(v, l...), v the call's own: at a step of a region that draws its order. -/
theorem step_append_ints {ops : Array Oper} {o : Oper} {a : Act} {w : World} {K : Act → World → Prop} {Q : Exit → Act → World → Prop} {E : Prop} (hgd : o.guard = none) (s x : Operand)
    (ho : o.op = .call { callee := .builtin .append, args := #[s, x], argTypes := #[22, 22] }) (base : Nat) (a0 : Option Addr) (cap0 n0 : Nat) (l0 : List Int) (hn0 : l0.length = n0) (hs : a.eval s = .slice a0 n0 cap0) (hown : Own w base a0 l0 cap0)
    (ad : Addr) (c n : Nat) (l : List Int) (hln : l.length = n) (hx : a.eval x = .slice (some ad) n c) (hB : Ints w (some ad) l) (hl : l0.length + l.length ≤ 17592186044416) (hbase : base ≤ w.heap.size)
    (h : ∀ a' cap' w', Own w' base a' (l0 ++ l) cap' → Below base w w' → w.grownBy w' (a0.map Addr.block) → K (a.put o.dst (.slice a' (n0 + n) cap')) w') :
    if Region.wanted o (yielded ops a.tmps) = true then Oper.wp Try.prog o a w K Q else E := by
  obtain ⟨i0, hi, hz0, hz1, hz2⟩ := info_parts info3
  subst hln
  subst hn0
  have hw : Region.wanted o (yielded ops a.tmps) = true := by simp [Region.wanted, hgd]
  rw [if_pos hw]
  refine wp_append_own w s x 22 ho base 3 i0 (.int .i64 0) 1 8 Try.underlying22 hi hz0 hz1 hz2 rfl (by decide) (.slice a0 l0.length cap0) l0.length (l0.map iv) hs hown ad l.length c (l.map iv) hx (by simp) (news_ints hB) (ints_one _)
    (by unfold maxLen; omega) (by omega) hbase ?_
  intro v' w' h1 h2 _
  have hgr : w.grownBy w' (a0.map Addr.block) := by
    rcases Option.eq_none_or_eq_some a0 with e | ⟨ad, e⟩
    · subst e; exact h2
    · subst e; exact h2
  have hb : Below base w w' := (Below.refl _ _).grown h2 hbase (by
    intro k hk
    rcases Option.eq_none_or_eq_some a0 with e | ⟨ad, e⟩
    · subst e; cases hk
    · subst e; cases hk; exact hown.base_le rfl)
  rw [← List.map_append, ← List.length_append] at h1
  have h1' := h1
  obtain ⟨_, ⟨e, h0⟩ | ⟨g, cap', cur, e, _⟩⟩ := h1'
  · subst e
    have h0' : (l0 ++ l).length = 0 := h0
    have hh := h none 0 w' (by rw [Own, h0']; rw [h0'] at h1; exact h1) hb hgr
    rw [show l0.length + l.length = 0 by simpa using h0'] at hh
    exact hh
  · subst e
    have hh := h (some ⟨g, 0, none⟩) cap' w' h1 hb hgr
    rw [← List.length_append] at hh
    exact hh
theorem apKeep {W cur wt : World} {B : Nat} {p : Addr} {v : Value} (hc : Below W.heap.size W cur) (hb : Below B cur wt) (hp : p.block < B) (c : W.cell? p = some v) : wt.cell? p = some v := keepb hb hp (keepc hc c)
theorem apKeepG {W cur wt : World} {o : Option Nat} {p : Addr} {v : Value} (hc : Below W.heap.size W cur) (hg : cur.grownBy wt o) (hp : o ≠ some p.block) (c : W.cell? p = some v) : wt.cell? p = some v := by
  have c2 := keepc hc c
  exact (World.cell?_of_block (a := p) (hg.block p.block (block_lt_of_cell c2) (Ne.symm hp))).trans c2
theorem ints_lit2 (w : World) (o : Obj) {l : List Int} (hm : l.length ≤ 9223372036854775807) : Ints ((w.alloc o).alloc (.cells (l.map iv).toArray 3)) (some ⟨w.heap.size + 1, 0, none⟩) l := by
  have := ints_lit (w.alloc o) (l := l) rfl hm
  simpa using this
theorem apNew {cur wt : World} {o : Option Nat} {p : Addr} {v : Value} (hg : cur.grownBy wt o) (hp : o ≠ some p.block) (c : cur.cell? p = some v) : wt.cell? p = some v :=
  (World.cell?_of_block (a := p) (hg.block p.block (block_lt_of_cell c) (Ne.symm hp))).trans c
theorem apNewF {cur wt : World} {o : Option Nat} {p : Addr} {v : Value} {q : Bool} (hg : cur.grownBy wt o) (hp : o ≠ some p.block) (c : cur.cell? p = some v) (f : cur.frozen? p = q) : wt.frozen? p = q :=
  (World.frozen?_of_block (a := p) (hg.block p.block (block_lt_of_cell c) (Ne.symm hp))).trans f
theorem Ints.grown {cur wt : World} {o : Option Nat} {a : Option Addr} {l : List Int} (h : Ints cur a l) (hg : cur.grownBy wt o) (hp : ∀ ad : Addr, a = some ad → o ≠ some ad.block) : Ints wt a l := by
  refine ⟨h.1, ?_⟩
  rcases h.2 with rfl | ⟨b, off, rfl, hc⟩
  · exact .inl rfl
  · exact .inr ⟨b, off, rfl, fun i hi => apNew (p := ⟨b, off + i, none⟩) hg (hp ⟨b, off, none⟩ rfl) (hc i hi)⟩
theorem Ints.far {w : World} {a : Option Addr} {l : List Int} (h : Ints w a l) {g : Nat} (hg : ∀ ad, a = some ad → ad.block ≠ g) (k : Nat) (v : Value) : Ints (w.setCell ⟨g, k, none⟩ v) a l := by
  refine ⟨h.1, ?_⟩
  rcases h.2 with rfl | ⟨b, off, rfl, hc⟩
  · exact .inl rfl
  · refine .inr ⟨b, off, rfl, fun i hi => ?_⟩
    have hne : b ≠ g := hg _ rfl
    rw [World.cell?_setCell_other _ _ _ _ (by simp [hne])]
    exact hc i hi
theorem crew_boxF {w : World} {F : Int} {v : Value} (k : Nat) : (w.alloc (.cells #[.int .i64 F, v] 24)).frozen? ⟨w.heap.size, k, none⟩ = false := frozen_of_row _ _ k _ _ (heap_alloc_new _ _)
theorem boxUp (W : World) (o : Obj) : ((W.alloc o).alloc (.cells #[.int .i64 0, .slice none 0 0] 24)).drew.cell? ⟨W.heap.size + 1, 0, none⟩ = some (.int .i64 0) ∧ ((W.alloc o).alloc (.cells #[.int .i64 0, .slice none 0 0] 24)).drew.cell? ⟨W.heap.size + 1, 1, none⟩ = some (.slice none 0 0) ∧
    ((W.alloc o).alloc (.cells #[.int .i64 0, .slice none 0 0] 24)).drew.frozen? ⟨W.heap.size + 1, 0, none⟩ = false ∧ ((W.alloc o).alloc (.cells #[.int .i64 0, .slice none 0 0] 24)).drew.frozen? ⟨W.heap.size + 1, 1, none⟩ = false := by
  have h := heap_alloc2_new W o (.cells #[.int .i64 0, .slice none 0 0] 24)
  exact ⟨cell_of_row _ _ 0 _ _ _ h, cell_of_row _ _ 1 _ _ _ h, frozen_of_row _ _ 0 _ _ h, frozen_of_row _ _ 1 _ _ h⟩
theorem made_long3 {f : Int} {l m : List Int} (hg : goodC f l = true) (h : m.length = l.length + 1) : makeF f m = 0 ∧ makeL f m = [] ∧ makeE f m = 2 := by
  have hb : goodC f (sortI m) = false := by
    rw [Bool.eq_false_iff]
    intro h'
    have h1 := (goodC_len h').2.2
    have h2 := (goodC_len hg).2.2
    rw [sortI_len] at h1
    omega
  simp [makeF, makeL, makeE, hb]
theorem map_block_ne {a : Option Addr} {n : Nat} (h : ∀ ad, a = some ad → ad.block < n) : a.map Addr.block ≠ some n := by
  intro hh
  rcases Option.eq_none_or_eq_some a with e | ⟨ad, e⟩
  · rw [e] at hh; simp at hh
  · rw [e] at hh; simp at hh; have := h ad e; omega
theorem copyInts_n (n : Nat) (l : List Int) (hl : l.length = n) (a : Option Addr) (cap : Nat) (w : World) (hI : Ints w a l) (hn : a = none → cap = 0) (hr : l.length ≤ 17592186044416) :
    Calls Try.prog 33 #[.slice a n cap] w fun e w' => ∃ a' cap', e = .returned (.slice a' n cap') ∧ Own w' w.heap.size a' l cap' ∧ Below w.heap.size w w' := by
  subst hl; exact copyInts_any a cap l w hI hn hr
theorem make_isn {f : Int} {l : List Int} {F E : Int} {L : List Int} (h : makeF f l = F ∧ makeL f l = L ∧ makeE f l = E) (n : Nat) (hl : l.length = n) (a : Option Addr) (cap : Nat) (w : World) (hI : Ints w a l) (hn : a = none → cap = 0) (hr : l.length ≤ 17592186044416) :
    Calls Try.prog 67 #[.int .i64 f, .slice a n cap] w (CrewPost F L E w) := by
  subst hl; exact make_is h a cap w hI hn hr
theorem ints_drop {w : World} {b off : Nat} {l : List Int} (h : Ints w (some ⟨b, off, none⟩) l) (k : Nat) : Ints w (some ⟨b, off + k, none⟩) (l.drop k) := by
  refine ⟨by have := h.1; simp; omega, ?_⟩
  by_cases hk : k < l.length
  · obtain ⟨b', off', hh, _, hc⟩ := h.at_lt hk
    cases hh
    refine .inr ⟨b, off + k, rfl, fun i hi => ?_⟩
    rw [List.length_drop] at hi
    rw [List.getElem_drop, Nat.add_assoc]
    exact hc (k + i) (by omega)
  · exact .inl (List.drop_eq_nil_of_le (by omega))

set_option maxRecDepth 100000 in
set_option maxHeartbeats 4000000 in
theorem crewMade_walk (x0 x1 x2 x3 x4 x5 x6 x7 : Int) (pa : Int) (w : World) : Calls Try.prog 24 #[.agg #[.int .i64 x0, .int .i64 x1, .int .i64 x2, .int .i64 x3, .int .i64 x4, .int .i64 x5, .int .i64 x6, .int .i64 x7], .int .i64 pa] w fun e w' => e = .returned (.bool true) ∧ Below w.heap.size w w' := by
  go_enter Try.func24, Try.ntmps24
  go_wp2_with fail
  obtain ⟨wb, hwb⟩ : ∃ wb : World, wb = (w.alloc (.cells #[.int .i64 x0, .int .i64 x1, .int .i64 x2, .int .i64 x3, .int .i64 x4, .int .i64 x5, .int .i64 x6, .int .i64 x7] 128)) := ⟨_, rfl⟩
  have hbb : Below w.heap.size w wb := by
    rw [hwb]; exact Below.new w _
  have hh0 : wb.heap[w.heap.size]? = some (.cells #[.int .i64 x0, .int .i64 x1, .int .i64 x2, .int .i64 x3, .int .i64 x4, .int .i64 x5, .int .i64 x6, .int .i64 x7] 128 (0, 0)) := by
    rw [hwb]
    have := heap_alloc_new w (.cells #[.int .i64 x0, .int .i64 x1, .int .i64 x2, .int .i64 x3, .int .i64 x4, .int .i64 x5, .int .i64 x6, .int .i64 x7] 128)
    simpa using this
  rw [← hwb]
  clear hwb
  refine Calls.mono (works_any _) ?_
  rintro e w1 ⟨rfl, hb1⟩
  have q0 : w1.cell? ⟨w.heap.size, 0, none⟩ = some (.int .i64 x0) := keepc hb1 (cell_of_row _ _ 0 _ _ _ hh0)
  have q1 : w1.cell? ⟨w.heap.size, 1, none⟩ = some (.int .i64 x1) := keepc hb1 (cell_of_row _ _ 1 _ _ _ hh0)
  have q2 : w1.cell? ⟨w.heap.size, 2, none⟩ = some (.int .i64 x2) := keepc hb1 (cell_of_row _ _ 2 _ _ _ hh0)
  have q3 : w1.cell? ⟨w.heap.size, 3, none⟩ = some (.int .i64 x3) := keepc hb1 (cell_of_row _ _ 3 _ _ _ hh0)
  have q4 : w1.cell? ⟨w.heap.size, 4, none⟩ = some (.int .i64 x4) := keepc hb1 (cell_of_row _ _ 4 _ _ _ hh0)
  have q5 : w1.cell? ⟨w.heap.size, 5, none⟩ = some (.int .i64 x5) := keepc hb1 (cell_of_row _ _ 5 _ _ _ hh0)
  have q6 : w1.cell? ⟨w.heap.size, 6, none⟩ = some (.int .i64 x6) := keepc hb1 (cell_of_row _ _ 6 _ _ _ hh0)
  have q7 : w1.cell? ⟨w.heap.size, 7, none⟩ = some (.int .i64 x7) := keepc hb1 (cell_of_row _ _ 7 _ _ _ hh0)
  go_wp2_with fail
  refine Calls.mono (mk_good x0 x1 x2 x3 x4 x5 x6 x7 _) ?_
  rintro e w2 ⟨F, L, a, cap, HG, rfl, hO, hb2⟩
  have hlen := goodC_len HG.out
  have hf0 := hlen.1
  have hf2 := hlen.2.1
  have hl7 : L.length ≤ 7 := by have := hlen.2.2; omega
  have hl1 : 1 ≤ L.length := by have := hlen.2.2; omega
  obtain ⟨c0, c1⟩ := crew_box (w := w2) (F := F) (v := .slice a L.length cap)
  have HI := Lib.hid ((Own.ints hO (by omega)).alloc (.cells #[.int .i64 F, .slice a L.length cap] 24))
  have HN := Lib.hid (Own.nocap hO)
  have HB := Lib.hid (Below.step (Below.step (Below.step hbb hb1) hb2) (Below.new w2 (.cells #[.int .i64 F, .slice a L.length cap] 24)))
  have hcap := Own.caple hO
  clear hlen hO hb1 hb2 hbb hh0 q0 q1 q2 q3 q4 q5 q6 q7
  have HW3 : Hid (w2.heap.size < (w2.alloc (.cells #[.int .i64 F, .slice a L.length cap] 24)).heap.size) := Lib.hid (by simp)
  go_wp2_with fail
  generalize (w2.alloc (.cells #[.int .i64 F, .slice a L.length cap] 24)) = w3 at *
  have hk0 := bringI_nonneg pa L.length
  have hk1 := bringI_lt pa (n := L.length) (by omega)
  refine Calls.mono (bring_any pa L.length _ (by omega) (by omega)) ?_
  rintro e w' ⟨rfl, rfl⟩
  obtain ⟨k, hk⟩ := Int.eq_ofNat_of_zero_le hk0
  rw [hk] at hk1 ⊢
  clear hk hk0
  have hkl : k < L.length := by omega
  obtain ⟨b, off, rfl, hbb, hc⟩ := HI.out.at_lt hkl
  have hcell0 := hc 0 (by omega)
  obtain ⟨l0, hl0⟩ : ∃ l0, l0 = L[0] := ⟨_, rfl⟩
  rw [← hl0] at hcell0
  have HD := Lib.hid (ints_drop HI.out k)
  have HT := Lib.hid (HI.out.take k)
  have HLD : Hid ((L.drop k).length = L.length - k) := Lib.hid (by simp)
  have HLT : Hid ((L.take k).length = k) := Lib.hid (by simp; omega)
  have i0 : ¬ cap = k := by omega
  have i1 : (0 : Int) ≤ (k : Int) := by omega
  have i2 : (k : Int) ≤ (L.length : Int) := by omega
  have i3 : (L.length : Int) ≤ (cap : Int) := by omega
  have i4 : (k : Int) ≤ (cap : Int) := by omega
  clear hc hl0
  go_wp2_with fail
  have hS : Below w3.heap.size w3 w3 := Below.refl _ _
  go_region_held3 (fun w' => w'.cell? ⟨w2.heap.size, 0, none⟩ = some (.int .i64 F) ∧ w'.cell? ⟨w2.heap.size, 1, none⟩ = some (.slice (some ⟨b, off, none⟩) L.length cap))
    (first
      | go_keep | assumption | exact ⟨keepc hS c0, keepc hS c1⟩ | exact ⟨keepc (Below.step hS (Below.new _ _)) c0, keepc (Below.step hS (Below.new _ _)) c1⟩)
    ((first
      | (go_at_call 33; (with_reducible refine Calls.mono (copyInts_n (L.length - k) (L.drop k) HLD.out (some ⟨b, off + k, none⟩) (cap - k) _ ?hI ?hN ?hr) ?_); (case hI => exact (Ints.below HD.out (by first | exact hS | exact hS.drew | exact Below.step hS (Below.new _ _) | exact (Below.step hS (Below.new _ _)).drew))); (case hN => exact (by intro h; cases h)); (case hr => exact (by have := HLD.out; omega)); rintro e wc ⟨ad, capd, rfl, hOd, hb⟩; have hS : Below w3.heap.size w3 wc := (by first | exact Below.step hS hb | exact Below.stepD hS hb | exact Below.step (Below.step hS (Below.new _ _)) hb | exact Below.stepD (Below.step hS (Below.new _ _)) hb))
      | (refine step_append_ints (by rfl) _ _ (by rfl) w3.drew.heap.size ad capd (L.length - k) (L.drop k) HLD.out (by rfl) hOd ⟨b, off, none⟩ cap k (L.take k) HLT.out (by rfl) (Ints.below HT.out hS) (by have := HLD.out; have := HLT.out; omega) hb.size ?_; intro a7 cap7 wt hOt hbt _; have hS : Below w3.heap.size w3 wt := hS.trans hbt)))
  have HB3 := HB
  have c0 := keepc hS c0
  have c1 := keepc hS c1
  have HI := Lib.hid (HI.out.below hS)
  have HB := Lib.hid (Below.step HB.out hS)
  have HBS : Hid (w3.heap.size ≤ wt.heap.size) := Lib.hid hS.size
  have HSZ3 : Hid (w.heap.size ≤ w3.heap.size) := Lib.hid HB3.out.size
  have hbb3 := hbb
  have hcell0 := keepc hS hcell0
  obtain ⟨T, hT⟩ : ∃ T, T = L.drop k ++ L.take k := ⟨_, rfl⟩
  rw [← hT] at hOt
  have HP : Hid (makeF F T = F ∧ makeL F T = L ∧ makeE F T = 0) := Lib.hid (by rw [hT]; exact made_law HG.out k)
  have HTL : Hid (T.length = L.length) := Lib.hid (by rw [hT, List.length_append, HLD.out, HLT.out]; omega)
  have HOt : Hid (Own wt w3.heap.size a7 T cap7) := Lib.hid hOt
  have HOtt := HOt
  clear hT hOt hbt hb hOd hS HD HT
  go_wp2_with fail
  refine Calls.mono (make_isn HP.out _ (by rw [HTL.out]; omega) a7 cap7 _ (Own.ints HOt.out (by rw [HTL.out]; omega)) (Own.nocap HOt.out) (by rw [HTL.out]; omega)) ?_
  rintro e w5 ⟨a5, cap5, rfl, hO5, hb5⟩
  obtain ⟨d0, d1⟩ := crew_box (w := w5) (F := F) (v := .slice a5 L.length cap5)
  have hb55 := Below.step hb5 (Below.new w5 (.cells #[.int .i64 F, .slice a5 L.length cap5] 24))
  have hcell0 := keepc hb55 hcell0
  have HI5 := Lib.hid ((Own.ints hO5 (by omega)).alloc (.cells #[.int .i64 F, .slice a5 L.length cap5] 24))
  have c0 := keepc hb55 c0
  have c1 := keepc hb55 c1
  have HI := Lib.hid (HI.out.below hb55)
  have HOt := Lib.hid (ownsRow_below HOt.out hb55)
  have HB := Lib.hid (Below.step HB.out hb55)
  have HBS2 : Hid (w3.heap.size ≤ (w5.alloc (.cells #[.int .i64 F, .slice a5 L.length cap5] 24)).heap.size) := Lib.hid (Nat.le_trans HBS.out hb55.size)
  have HA7 : Hid (∀ n, w5.heap.size ≤ n → a7.map Addr.block ≠ some n) := Lib.hid (fun n hn => map_block_ne (fun ad had => by have h1 := HOtt.out.block_lt had; have h2 := hb5.size; omega))
  have HA57 : Hid (∀ ad : Addr, a5 = some ad → a7.map Addr.block ≠ some ad.block ∧ ad.block < w5.heap.size) := Lib.hid (fun ad had => ⟨map_block_ne (fun ad' had' => by have h1 := HOtt.out.block_lt had'; have h2 := hO5.base_le had; omega), hO5.block_lt had⟩)
  have HA73 : Hid (∀ n, n < w3.heap.size → a7.map Addr.block ≠ some n) := Lib.hid (fun n hn hh => by
    rcases Option.eq_none_or_eq_some a7 with e | ⟨ad, e⟩
    · rw [e] at hh; simp at hh
    · have := HOtt.out.base_le e
      rw [e] at hh; simp at hh; omega)
  have hwt5 : wt.heap.size ≤ w5.heap.size := hb5.size
  have HWS : Hid (w3.heap.size ≤ w5.heap.size) := Lib.hid (Nat.le_trans HBS.out hwt5)
  have HW5e : Hid ((w5.alloc (.cells #[.int .i64 F, .slice a5 L.length cap5] 24)).heap.size = w5.heap.size + 1) := Lib.hid (by simp)
  clear hwt5
  clear hO5 hb5 hb55
  go_wp2_with fail
  generalize (w5.alloc (.cells #[.int .i64 F, .slice a5 L.length cap5] 24)) = W at *
  have HP2 : Hid (makeF F (T ++ [l0]) = 0 ∧ makeL F (T ++ [l0]) = [] ∧ makeE F (T ++ [l0]) = 2) := Lib.hid (made_long3 HG.out (by rw [List.length_append, HTL.out]; rfl))
  have hcell0 : W.cell? ⟨b, off, none⟩ = some (.int .i64 l0) := hcell0
  have HTK : Hid (T.length = L.length - k + k) := Lib.hid (by rw [HTL.out]; omega)
  have hln : 0 < L.length := by omega
  have i1 : w2.heap.size < W.heap.size := by have h1 := HW3.out; have h2 := HWS.out; have h3 := HW5e.out; omega
  have i2 : w5.heap.size < W.heap.size := by have h3 := HW5e.out; omega
  have i3 : b < W.heap.size := by have h2 := HWS.out; have h3 := HW5e.out; omega
  have J := HI.out
  have J5 := HI5.out
  go_region_held3 (fun w' => w'.cell? ⟨w2.heap.size, 0, none⟩ = some (.int .i64 F) ∧ w'.cell? ⟨w2.heap.size, 1, none⟩ = some (.slice (some ⟨b, off, none⟩) L.length cap) ∧ w'.cell? ⟨w5.heap.size, 0, none⟩ = some (.int .i64 F) ∧ w'.cell? ⟨w5.heap.size, 1, none⟩ = some (.slice a5 L.length cap5) ∧ w'.cell? ⟨b, off, none⟩ = some (.int .i64 l0))
    (first
      | exact ⟨c0, c1, d0, d1, hcell0⟩ | go_keep | exact ⟨keepc (Below.new _ _) c0, keepc (Below.new _ _) c1, keepc (Below.new _ _) d0, keepc (Below.new _ _) d1, keepc (Below.new _ _) hcell0⟩ | exact ⟨(by rw [World.cell?_setCell_other _ _ _ _ (by simp <;> omega), World.cell?_setCell_other _ _ _ _ (by simp <;> omega)]; exact c0), (by rw [World.cell?_setCell_other _ _ _ _ (by simp <;> omega), World.cell?_setCell_other _ _ _ _ (by simp <;> omega)]; exact c1), (by rw [World.cell?_setCell_other _ _ _ _ (by simp <;> omega), World.cell?_setCell_other _ _ _ _ (by simp <;> omega)]; exact d0), (by rw [World.cell?_setCell_other _ _ _ _ (by simp <;> omega), World.cell?_setCell_other _ _ _ _ (by simp <;> omega)]; exact d1), (by rw [World.cell?_setCell_other _ _ _ _ (by simp <;> omega), World.cell?_setCell_other _ _ _ _ (by simp <;> omega)]; exact hcell0)⟩)
    ((first
      | (refine step_append_ints (by rfl) _ _ (by rfl) w3.heap.size a7 cap7 (L.length - k + k) T HTK.out (by rfl) ?_ _ 1 1 [l0] (by rfl) (by rfl) ?_ ?_ ?_ ?_; (exact ownsRow_below HOt.out (by first | exact Below.new _ _ | exact (Below.new _ _).drew | exact (Below.new _ _).alloc (by simp) _ | exact ((Below.new _ _).alloc (by simp) _).drew)); (first | exact ints_lit W rfl (by simp) | exact (ints_lit W rfl (by simp)).drew | exact ((ints_lit W rfl (by simp)).alloc _).drew | exact (ints_lit2 W _ (by simp)).drew); (focus (have := HTL.out; simp; omega)); (focus (have h := HBS2.out; simp <;> omega)); intro a8 cap8 wt hO8 hb8 hg8; have hWt : W.heap.size ≤ wt.heap.size := Nat.le_trans (by simp <;> omega) hg8.size; have c0 := apKeep (by first | exact Below.new _ _ | exact (Below.new _ _).drew | exact (Below.new _ _).alloc (by simp) _ | exact ((Below.new _ _).alloc (by simp) _).drew) hb8 HW3.out c0; have c1 := apKeep (by first | exact Below.new _ _ | exact (Below.new _ _).drew | exact (Below.new _ _).alloc (by simp) _ | exact ((Below.new _ _).alloc (by simp) _).drew) hb8 HW3.out c1; have hcell0 := apKeep (by first | exact Below.new _ _ | exact (Below.new _ _).drew | exact (Below.new _ _).alloc (by simp) _ | exact ((Below.new _ _).alloc (by simp) _).drew) hb8 hbb3 hcell0; have d0 := apKeepG (by first | exact Below.new _ _ | exact (Below.new _ _).drew | exact (Below.new _ _).alloc (by simp) _ | exact ((Below.new _ _).alloc (by simp) _).drew) hg8 (HA7.out _ (Nat.le_refl _)) d0; have d1 := apKeepG (by first | exact Below.new _ _ | exact (Below.new _ _).drew | exact (Below.new _ _).alloc (by simp) _ | exact ((Below.new _ _).alloc (by simp) _).drew) hg8 (HA7.out _ (Nat.le_refl _)) d1; have J := Ints.grown (J.below (by first | exact Below.new _ _ | exact (Below.new _ _).drew | exact (Below.new _ _).alloc (by simp) _ | exact ((Below.new _ _).alloc (by simp) _).drew)) hg8 (fun ad had => by cases had; exact HA73.out _ hbb3); have J5 := Ints.grown (J5.below (by first | exact Below.new _ _ | exact (Below.new _ _).drew | exact (Below.new _ _).alloc (by simp) _ | exact ((Below.new _ _).alloc (by simp) _).drew)) hg8 (fun ad had => (HA57.out ad had).1); have hBW : Below w3.heap.size W wt := Below.trans (Below.mono (by first | exact Below.new _ _ | exact (Below.new _ _).drew | exact (Below.new _ _).alloc (by simp) _ | exact ((Below.new _ _).alloc (by simp) _).drew) HBS2.out) hb8; (try have y0 : wt.cell? ⟨W.heap.size, 0, none⟩ = some (.int .i64 0) := apNew hg8 (HA7.out _ (by show w5.heap.size ≤ W.heap.size; omega)) (by with_reducible exact keepc (Below.new (W.alloc (.cells #[.int .i64 0, .slice none 0 0] 24)) _).drew crew_box.1)); (try have y1 : wt.cell? ⟨W.heap.size, 1, none⟩ = some (.slice none 0 0) := apNew hg8 (HA7.out _ (by show w5.heap.size ≤ W.heap.size; omega)) (by with_reducible exact keepc (Below.new (W.alloc (.cells #[.int .i64 0, .slice none 0 0] 24)) _).drew crew_box.2)); (try have z0 : wt.frozen? ⟨W.heap.size, 0, none⟩ = false := apNewF hg8 (HA7.out _ (by show w5.heap.size ≤ W.heap.size; omega)) (by with_reducible exact keepc (Below.new (W.alloc (.cells #[.int .i64 0, .slice none 0 0] 24)) _).drew crew_box.1) (by with_reducible exact keepf (Below.new (W.alloc (.cells #[.int .i64 0, .slice none 0 0] 24)) _).drew (by simp) (crew_boxF 0))); (try have z1 : wt.frozen? ⟨W.heap.size, 1, none⟩ = false := apNewF hg8 (HA7.out _ (by show w5.heap.size ≤ W.heap.size; omega)) (by with_reducible exact keepc (Below.new (W.alloc (.cells #[.int .i64 0, .slice none 0 0] 24)) _).drew crew_box.2) (by with_reducible exact keepf (Below.new (W.alloc (.cells #[.int .i64 0, .slice none 0 0] 24)) _).drew (by simp) (crew_boxF 1))); (try have y0 : wt.cell? ⟨W.heap.size + 1, 0, none⟩ = some (.int .i64 0) := apNew hg8 (HA7.out _ (by show w5.heap.size ≤ W.heap.size + 1; omega)) (by with_reducible exact (boxUp W _).1)); (try have y1 : wt.cell? ⟨W.heap.size + 1, 1, none⟩ = some (.slice none 0 0) := apNew hg8 (HA7.out _ (by show w5.heap.size ≤ W.heap.size + 1; omega)) (by with_reducible exact (boxUp W _).2.1)); (try have z0 : wt.frozen? ⟨W.heap.size + 1, 0, none⟩ = false := apNewF hg8 (HA7.out _ (by show w5.heap.size ≤ W.heap.size + 1; omega)) (by with_reducible exact (boxUp W _).1) (by with_reducible exact (boxUp W _).2.2.1)); (try have z1 : wt.frozen? ⟨W.heap.size + 1, 1, none⟩ = false := apNewF hg8 (HA7.out _ (by show w5.heap.size ≤ W.heap.size + 1; omega)) (by with_reducible exact (boxUp W _).2.1) (by with_reducible exact (boxUp W _).2.2.2)))
      | (go_at_call 67; refine Calls.mono (make_isn HP2.out _ ?_ a8 cap8 _ ?_ ?_ ?_) ?_; (focus (have := HTK.out; simp <;> omega)); (first | exact Own.ints hO8 (by have := HTL.out; simp <;> omega) | exact (Own.ints hO8 (by have := HTL.out; simp <;> omega)).alloc _); (exact Own.nocap hO8); (focus (have := HTL.out; simp <;> omega)); rintro e wc ⟨a9, cap9, rfl, _, hb⟩; have hWc : wt.heap.size ≤ wc.heap.size := Nat.le_trans (by first | exact Nat.le_refl _ | (simp; done) | (simp <;> omega)) hb.size; (try have z0 := keepf hb (by exact block_lt_of_cell y0) z0); (try have z1 := keepf hb (by exact block_lt_of_cell y1) z1); (try have y0 := keepc hb y0); (try have y1 := keepc hb y1); (try have y0 : wc.cell? ⟨wt.heap.size, 0, none⟩ = some (.int .i64 0) := keepc hb (by exact crew_box.1)); (try have y1 : wc.cell? ⟨wt.heap.size, 1, none⟩ = some (.slice none 0 0) := keepc hb (by exact crew_box.2)); (try have z0 : wc.frozen? ⟨wt.heap.size, 0, none⟩ = false := keepf hb (by simp) (by exact crew_boxF 0)); (try have z1 : wc.frozen? ⟨wt.heap.size, 1, none⟩ = false := keepf hb (by simp) (by exact crew_boxF 1)); have c0 := keepc hb (keepc (by first | exact Below.refl _ _ | exact Below.new _ _) c0); have c1 := keepc hb (keepc (by first | exact Below.refl _ _ | exact Below.new _ _) c1); have d0 := keepc hb (keepc (by first | exact Below.refl _ _ | exact Below.new _ _) d0); have d1 := keepc hb (keepc (by first | exact Below.refl _ _ | exact Below.new _ _) d1); have hcell0 := keepc hb (keepc (by first | exact Below.refl _ _ | exact Below.new _ _) hcell0); have J := Ints.below (J.below (by first | exact Below.refl _ _ | exact Below.new _ _)) hb; have J5 := Ints.below (J5.below (by first | exact Below.refl _ _ | exact Below.new _ _)) hb; have hBW := Below.trans hBW (Below.mono (Below.step (by first | exact Below.refl _ _ | exact Below.new _ _) hb) (Nat.le_trans HBS2.out hBW.size)))))
  all_goals
    have hX : Below w.heap.size w wc := HB.out.trans (hBW.mono HSZ3.out)
    go_wp2_with fail
    refine Calls.mono (same_true (l := L) (l' := L) rfl rfl _ _ _ _ _ (by first | exact J | exact J.alloc _ | exact (J.far (fun ad had => by cases had; show b ≠ _; omega) _ _).far (fun ad had => by cases had; show b ≠ _; omega) _ _) (by first | exact J5 | exact J5.alloc _ | exact (J5.far (fun ad had => by have := (HA57.out ad had).2; omega) _ _).far (fun ad had => by have := (HA57.out ad had).2; omega) _ _)) ?_
    rintro e wz ⟨rfl, hbz⟩
    go_wp2
    go_ret
    exact ⟨rfl, (by first | exact Below.step hX hbz | exact Below.step (Below.step hX (Below.new _ _)) hbz | exact Below.step ((hX.setCell (by have := HSZ3.out; have := HBS2.out; simp <;> omega) _).setCell (by have := HSZ3.out; have := HBS2.out; simp <;> omega) _) hbz)⟩
end Go.Proofs.Ytldcpnabgpjgiaa.Walks
