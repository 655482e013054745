/-
  The walks of CopyInts, EqInts, bastideref08.Copy, Same, slices.Clone.
-/
import Derived.Test.YtldcpnabgpjgiaaCrewD
import Derived.Lib.SliceRun
namespace Go.Proofs.Ytldcpnabgpjgiaa.Walks
open Go.RowKit Plain
set_option linter.unusedVariables false

theorem info3 : (Try.prog.info? 3).map (fun i => (i.zero, i.size, i.bytes)) = some (some (.int .i64 0), 1, 8) := by kernel_rfl

/-- A slice of ints in memory of the call's own. -/
abbrev Own (w : World) (base : Nat) (a : Option Addr) (l : List Int) (cap : Nat) : Prop := w.ownsRow base 3 1 (.slice a l.length cap) l.length (l.map iv)

theorem Own.ints {w : World} {base : Nat} {a : Option Addr} {l : List Int} {cap : Nat} (h : Own w base a l cap) (hm : l.length ≤ 9223372036854775807) : Ints w a l := by
  obtain ⟨_, ⟨h1, h0⟩ | ⟨g, cap', cur, h1, _, hg, hcap, _, _, ht⟩⟩ := h
  · have : l = [] := List.eq_nil_of_length_eq_zero h0
    subst this
    exact Ints.nil _ _
  · cases h1
    refine ⟨hm, .inr ⟨g, 0, rfl, fun i hi => ?_⟩⟩
    rw [cell_of_row _ _ _ _ _ _ hg]
    have := congrArg (fun z => z[i]?) ht
    simp only [List.getElem?_take, Nat.mul_one, hi, if_true, List.getElem?_map, List.getElem?_eq_getElem hi, Option.map_some] at this
    rw [Nat.zero_add, ← Array.getElem?_toList]
    exact this
theorem Own.base_le {w : World} {base : Nat} {a : Option Addr} {l : List Int} {cap : Nat} (h : Own w base a l cap) {x : Addr} (hx : a = some x) : base ≤ x.block := by
  obtain ⟨_, ⟨h1, h0⟩ | ⟨g, cap', cur, h1, hb, _⟩⟩ := h
  · simp only [Value.slice.injEq] at h1; rw [h1.1] at hx; cases hx
  · simp only [Value.slice.injEq] at h1; rw [h1.1] at hx; cases hx; exact hb
theorem Own.caple {w : World} {base : Nat} {a : Option Addr} {l : List Int} {cap : Nat} (h : Own w base a l cap) : l.length ≤ cap := by
  obtain ⟨_, ⟨h1, h0⟩ | ⟨g, cap', cur, h1, hb, _, hc, _⟩⟩ := h
  · omega
  · simp only [Value.slice.injEq] at h1; rw [h1.2.2]; exact hc
theorem Own.len_pos_some {w : World} {base : Nat} {a : Option Addr} {l : List Int} {cap : Nat} (h : Own w base a l cap) (h0 : 0 < l.length) : ∃ g cur, a = some ⟨g, 0, none⟩ ∧ base ≤ g ∧ w.heap[g]? = some (.cells cur 3 (0, 0)) ∧ l.length ≤ cap ∧ cap ≤ maxLen ∧ cur.size = cap ∧ cur.toList.take l.length = l.map iv := by
  obtain ⟨_, ⟨h1, h2⟩ | ⟨g, cap', cur, h1, hb, hg, hc, hm, hs, ht⟩⟩ := h
  · omega
  · simp only [Value.slice.injEq] at h1
    obtain ⟨rfl, _, rfl⟩ := h1
    exact ⟨g, cur, rfl, hb, hg, hc, hm, by omega, by simpa using ht⟩
theorem Own.nocap {w : World} {base : Nat} {a : Option Addr} {l : List Int} {cap : Nat} (h : Own w base a l cap) : a = none → cap = 0 := by
  obtain ⟨_, ⟨h1, h0⟩ | ⟨g, cap', cur, h1, hb, _, hc, _⟩⟩ := h
  · simp only [Value.slice.injEq] at h1; exact fun _ => h1.2.2
  · simp only [Value.slice.injEq] at h1; rw [h1.1]; intro h; cases h

theorem news_ints {w : World} {ad : Addr} {l : List Int} (h : Ints w (some ad) l) : ∀ j u, (l.map iv)[j]? = some u → w.cell? (ad.add j) = some u := by
  intro j u hj
  have hj' : j < l.length := by
    have := (List.getElem?_eq_some_iff.1 hj).1
    simpa using this
  obtain ⟨b, off, hh, _, hc⟩ := h.at_lt hj'
  cases hh
  rw [List.getElem?_map, List.getElem?_eq_getElem hj'] at hj
  simp at hj
  subst hj
  rw [Addr.add_mid]
  exact hc j hj'
theorem ints_one (l : List Int) : ∀ u ∈ l.map iv, u.oneCell' = true := by
  intro u hu; simp [iv] at hu; obtain ⟨c, _, rfl⟩ := hu; rfl

/-- append(v, l...), v the call's own: the result is the call's own. -/
theorem wp_append_ints {w : World} {ops : Array Oper} {rest : List Oper} {o : Oper} {a : Act} {Q : Exit → Act → World → Prop} (hgd : o.guard = none) (s x : Operand)
    (ho : o.op = .call { callee := .builtin .append, args := #[s, x], argTypes := #[22, 22] }) (base : Nat) (v : Value) (l0 : List Int) (hs : a.eval s = v) (hown : w.ownsRow base 3 1 v l0.length (l0.map iv))
    (ao : Option Addr) (c : Nat) (l : List Int) (n : Nat) (hln : l.length = n) (hx : a.eval x = .slice ao n c) (hB : Ints w ao l) (hn : ao = none → c = 0) (hbytes : l0.length + l.length ≤ 17592186044416) (hbase : base ≤ w.heap.size)
    (h : ∀ a' cap' w', Own w' base a' (l0 ++ l) cap' → w.grownBy w' v.ownBlock → Hid ((a' = none → v = .slice none 0 0) ∧ (l0 ++ l = [] → v = .slice none 0 0 → a' = none)) → wpList Try.prog ops Q rest (a.put o.dst (.slice a' (l0.length + n) cap')) w') : wpList Try.prog ops Q (o :: rest) a w := by
  obtain ⟨i0, hi, hz0, hz1, hz2⟩ := info_parts info3
  subst hln
  have fin : ∀ v' w', w'.ownsRow base 3 1 v' (l0.length + l.length) ((l0.map iv) ++ l.map iv) → w.grownBy w' v.ownBlock → (v' = .slice none 0 0 ↔ v = .slice none 0 0 ∧ l.length = 0) → wpList Try.prog ops Q rest (a.put o.dst v') w' := by
    intro v' w' h1 h2 h3
    rw [← List.map_append, ← List.length_append] at h1
    have h1' := h1
    obtain ⟨_, ⟨e, h0⟩ | ⟨g, cap', cur, e, _⟩⟩ := h1'
    · subst e
      have h0' : (l0 ++ l).length = 0 := h0
      have hh := h none 0 w' (by rw [Own, h0']; rw [h0'] at h1; exact h1) h2 (Lib.hid ⟨fun _ => (h3.1 rfl).1, fun _ _ => rfl⟩)
      rw [show l0.length + l.length = 0 by simpa using h0'] at hh
      exact hh
    · subst e
      have hh := h (some ⟨g, 0, none⟩) cap' w' h1 h2 (Lib.hid ⟨fun e => by (cases e), fun e1 e2 => by have := h3.2 ⟨e2, by rw [(List.append_eq_nil_iff.1 e1).2]; rfl⟩; cases this⟩)
      rw [← List.length_append] at hh
      exact hh
  rcases Option.eq_none_or_eq_some ao with rfl | ⟨ad, rfl⟩
  · have hc0 := hn rfl
    subst hc0
    have hl : l = [] := by
      rcases hB.2 with h | ⟨b, off, h, _⟩
      · exact h
      · cases h
    subst hl
    refine wpList_append_own_none hgd s x 22 ho base 3 i0 1 Try.underlying22 hi v l0.length (l0.map iv) hs hown hx (fin v w (by simpa using hown) ⟨rfl, rfl, rfl, Nat.le_refl _, fun _ _ _ => rfl⟩ ⟨fun e => ⟨e, rfl⟩, fun e => e.1⟩)
  · exact wpList_append_own w hgd s x 22 ho base 3 i0 (.int .i64 0) 1 8 Try.underlying22 hi hz0 hz1 hz2 rfl (by decide) v l0.length (l0.map iv) hs hown ad l.length c (l.map iv) hx (by simp) (news_ints hB) (ints_one _)
      (by unfold maxLen; omega) (by omega) hbase fin

set_option maxHeartbeats 400000 in
theorem copyInts_any (a : Option Addr) (cap : Nat) (l : List Int) (w : World) (hI : Ints w a l) (hn : a = none → cap = 0) (hr : l.length ≤ 17592186044416) :
    Calls Try.prog 33 #[.slice a l.length cap] w fun e w' => ∃ a' cap', e = .returned (.slice a' l.length cap') ∧ Own w' w.heap.size a' l cap' ∧ Below w.heap.size w w' := by
  have HI := Lib.hid hI
  have HN := Lib.hid hn
  clear hI hn
  go_enter Try.func33, Try.ntmps33
  go_wp2_with (first | (at_builtin; go_loud (refine wp_append_ints rfl (.tmp 4) (.tmp 5) rfl w.heap.size (.slice none 0 0) [] rfl (World.ownsRow_nil _ _ _ _) a cap l l.length rfl rfl HI.out HN.out (by simp; omega) (Nat.le_refl _) ?_)))
  intro a' cap' w' hown hg _
  have HO := Lib.hid hown
  have HG := Lib.hid hg
  clear hown hg
  go_wp2
  go_ret
  exact ⟨a', cap', rfl, HO.out, (Below.refl _ _).grown HG.out (Nat.le_refl _) (by intro k hk; cases hk)⟩

set_option maxHeartbeats 1000000 in
theorem eqInts_any (a a' : Option Addr) (cap cap' : Nat) (l l' : List Int) (w : World) (hB : Ints w a l) (hB' : Ints w a' l') :
    Calls Try.prog 36 #[.slice a l.length cap, .slice a' l'.length cap'] w fun e w' => e = .returned (.bool (decide (l = l'))) ∧ Below w.heap.size w w' := by
  by_cases hlen : l.length = l'.length
  · have hm := hB.1
    have H := Lib.hid hB
    have H' := Lib.hid hB'
    obtain ⟨n, hn⟩ : ∃ n, n = l.length := ⟨_, rfl⟩
    have hn' : n = l'.length := by omega
    rw [← hn, ← hn']
    have e1 : l.length = n := by omega
    have e2 : l'.length = n := by omega
    have E1 := Lib.hid e1
    have E2 := Lib.hid e2
    have hm' : n ≤ 9223372036854775807 := by omega
    clear hB hB' hlen hn hn' e1 e2 hm
    go_enter Try.func36, Try.ntmps36
    go_wp2_with fail
    go_loopw [5] (fun i wr => ∃ k : Nat, k ≤ n ∧ i = .int .i64 k ∧ Hid (l.take k = l'.take k) ∧ Below w.heap.size w wr) (fun i _ => n - (intOf i).toNat)
    case atStart => exact ⟨0, by omega, rfl, Lib.hid (by simp), Below.refl _ _⟩
    case round =>
      obtain ⟨k, hk, rfl, HK, hb⟩ := hrel
      by_cases hlt : k < n
      · have hk1 : k < l.length := by rw [E1.out]; exact hlt
        have hk2 : k < l'.length := by rw [E2.out]; exact hlt
        obtain ⟨b, off, rfl, hb0, hc⟩ := H.out.at_lt hk1
        obtain ⟨b', off', rfl, hb0', hc'⟩ := H'.out.at_lt hk2
        obtain ⟨x, hx⟩ : ∃ x, x = l[k] := ⟨_, rfl⟩
        obtain ⟨y, hy⟩ : ∃ y, y = l'[k] := ⟨_, rfl⟩
        have hcell : wr.cell? ⟨b, off + k, none⟩ = some (.int .i64 x) := by rw [hx]; exact (hb.cell (by exact hb0)).trans (hc k hk1)
        have hcell' : wr.cell? ⟨b', off' + k, none⟩ = some (.int .i64 y) := by rw [hy]; exact (hb.cell (by exact hb0')).trans (hc' k hk2)
        have HX := Lib.hid hx
        have HY := Lib.hid hy
        have HK1 := Lib.hid hk1
        have HK2 := Lib.hid hk2
        clear hc hc' hx hy
        by_cases hxy : x = y
        · have hq : (x != y) = false := by simp [hxy]
          have HXY := Lib.hid hxy
          clear hxy
          go_wp2_with fail
          go_quiet (fail)
          go_wp2
          go_roundw
          case rel => exact ⟨k + 1, by omega, by go_num, Lib.hid (by rw [List.take_succ_eq_append_getElem HK1.out, List.take_succ_eq_append_getElem HK2.out, HK.out, ← HX.out, ← HY.out, HXY.out]), below_drewN hb _⟩
          case measure => simp [intOf]; omega
        · have hq : (x != y) = true := by simp [hxy]
          have HXY := Lib.hid hxy
          clear hxy
          go_wp2_with fail
          go_quiet (fail)
          go_wp2
          go_ret
          refine ⟨ret_bool ?_, below_drewN hb _⟩
          rw [eq_comm, decide_eq_false_iff_not]
          rintro rfl
          exact HXY.out (HX.out.trans HY.out.symm)
      · go_wp2
        go_ret
        refine ⟨ret_bool ?_, hb⟩
        have := HK.out
        rw [List.take_of_length_le (by rw [E1.out]; omega), List.take_of_length_le (by rw [E2.out]; omega)] at this
        rw [eq_comm, decide_eq_true_eq]; exact this
  · have hq : ((l.length : Int) != (l'.length : Int)) = true := by simp; omega
    have HL := Lib.hid hlen
    clear hlen hB hB'
    go_enter Try.func36, Try.ntmps36
    go_wp2
    go_ret
    refine ⟨ret_bool ?_, Below.refl _ _⟩
    rw [eq_comm, decide_eq_false_iff_not]
    rintro rfl
    exact HL.out rfl

set_option maxHeartbeats 400000 in
theorem same_any (f f' : Int) (a a' : Option Addr) (cap cap' : Nat) (l l' : List Int) (w : World) (hB : Ints w a l) (hB' : Ints w a' l') :
    Calls Try.prog 31 #[.agg #[.int .i64 f, .slice a l.length cap], .agg #[.int .i64 f', .slice a' l'.length cap']] w fun e w' => e = .returned (.bool (decide (f = f') && decide (l = l'))) ∧ Below w.heap.size w w' := by
  have H := Lib.hid hB
  have H' := Lib.hid hB'
  clear hB hB'
  by_cases hf : f = f'
  · have hq : (f == f') = true := by simp [hf]
    have HF := Lib.hid hf
    clear hf
    go_enter Try.func31, Try.ntmps31
    go_wp2_with fail
    refine Calls.mono (eqInts_any a a' cap cap' l l' _ ((H.out.alloc _).alloc _) ((H'.out.alloc _).alloc _)) ?_
    rintro e w1 ⟨rfl, hb⟩
    go_wp2
    go_ret
    exact ⟨ret_bool (by simp [HF.out]), Below.step ((Below.new w _).alloc (by simp) _) hb⟩
  · have hq : (f == f') = false := by simp [hf]
    have HF := Lib.hid hf
    clear hf
    go_enter Try.func31, Try.ntmps31
    go_wp2
    go_ret
    exact ⟨ret_bool (by simp [HF.out]), (Below.new w _).alloc (by simp) _⟩

theorem i24 : (Try.prog.info? 24).map (·.size) = some 2 := by kernel_rfl
theorem load24 {w : World} {g : Nat} {x y : Value} (h0 : w.cell? ⟨g, 0, none⟩ = some x) (h1 : w.cell? ⟨g, 1, none⟩ = some y) : (loadVar 24 ⟨g, 0, none⟩).run Try.prog w = .ok (.agg #[x, y]) w :=
  run_loadVar_mid w g 0 24 [x, y] _ (fun j v hv => by
    match j, hv with
    | 0, hv => simp at hv; subst hv; exact h0
    | 1, hv => simp at hv; subst hv; exact h1) Try.underlying24 rfl i24
theorem ownsRow_base {w : World} {base base' : Nat} {e : TypeId} {size : Nat} {v : Value} {n : Nat} {xs : List Value} (hb : base' ≤ base) (h : w.ownsRow base e size v n xs) : w.ownsRow base' e size v n xs := by
  obtain ⟨h1, h2⟩ := h
  refine ⟨h1, ?_⟩
  rcases h2 with h2 | ⟨g, cap, cur, hv, hg, r⟩
  · exact .inl h2
  · exact .inr ⟨g, cap, cur, hv, by omega, r⟩
theorem ownsRow_empty (w : World) : (w.alloc (.cells #[] 3)).ownsRow w.heap.size 3 1 (.slice (some ⟨w.heap.size, 0, none⟩) 0 0) 0 ([].map iv) :=
  ⟨rfl, .inr ⟨w.heap.size, 0, #[], rfl, Nat.le_refl _, heap_alloc_new _ _, Nat.le_refl _, Nat.zero_le _, rfl, rfl⟩⟩

/-- Two boxed crews in new blocks. -/
theorem two_crews (w : World) (x0 x1 y0 y1 : Value) :
    ((w.alloc (.cells #[x0, x1] 24)).alloc (.cells #[y0, y1] 24)).cell? ⟨w.heap.size, 0, none⟩ = some x0 ∧ ((w.alloc (.cells #[x0, x1] 24)).alloc (.cells #[y0, y1] 24)).cell? ⟨w.heap.size, 1, none⟩ = some x1 ∧
    ((w.alloc (.cells #[x0, x1] 24)).alloc (.cells #[y0, y1] 24)).cell? ⟨w.heap.size + 1, 0, none⟩ = some y0 ∧ ((w.alloc (.cells #[x0, x1] 24)).alloc (.cells #[y0, y1] 24)).cell? ⟨w.heap.size + 1, 1, none⟩ = some y1 ∧
    ((w.alloc (.cells #[x0, x1] 24)).alloc (.cells #[y0, y1] 24)).frozen? ⟨w.heap.size + 1, 0, none⟩ = false ∧ ((w.alloc (.cells #[x0, x1] 24)).alloc (.cells #[y0, y1] 24)).frozen? ⟨w.heap.size + 1, 1, none⟩ = false ∧
    ((w.alloc (.cells #[x0, x1] 24)).alloc (.cells #[y0, y1] 24)).heap.size = w.heap.size + 2 := by
  have h1 := heap_alloc2_old w (.cells #[x0, x1] 24) (.cells #[y0, y1] 24)
  have h2 := heap_alloc2_new w (.cells #[x0, x1] 24) (.cells #[y0, y1] 24)
  exact ⟨cell_of_row _ _ _ _ _ _ h1, cell_of_row _ _ _ _ _ _ h1, cell_of_row _ _ _ _ _ _ h2, cell_of_row _ _ _ _ _ _ h2, frozen_of_row _ _ _ _ _ h2, frozen_of_row _ _ _ _ _ h2, by simp⟩

set_option maxHeartbeats 400000 in
theorem copy_any (f : Int) (a : Option Addr) (cap : Nat) (l : List Int) (w : World) (hI : Ints w a l) (hn : a = none → cap = 0) (hr : l.length ≤ 17592186044416) :
    Calls Try.prog 28 #[.agg #[.int .i64 f, .slice a l.length cap]] w fun e w' => ∃ a' cap', e = .returned (.agg #[.int .i64 f, .slice a' l.length cap']) ∧ Own w' w.heap.size a' l cap' ∧ Below w.heap.size w w' := by
  have HI := Lib.hid hI
  have HN := Lib.hid hn
  clear hI hn
  go_enter Try.func28, Try.ntmps28
  go_wp2_with fail
  have A0 := Lib.hid (HI.out.alloc (.cells #[.int .i64 f, .slice a l.length cap] 24) |>.alloc (.cells #[.int .i64 0, .slice none 0 0] 24))
  obtain ⟨q0, q1, q2, q3, q4, q5, q6⟩ := two_crews w (.int .i64 f) (.slice a l.length cap) (.int .i64 0) (.slice none 0 0)
  have HB := Lib.hid (((Below.new w (.cells #[.int .i64 f, .slice a l.length cap] 24))).alloc (by simp) (.cells #[.int .i64 0, .slice none 0 0] 24))
  generalize ((w.alloc (.cells #[.int .i64 f, .slice a l.length cap] 24)).alloc (.cells #[.int .i64 0, .slice none 0 0] 24)) = wa at *
  have hsz := q6
  have Q6 := Lib.hid q6
  clear q6
  go_region_held3 (fun w' => w'.cell? ⟨w.heap.size, 0, none⟩ = some (.int .i64 f) ∧ w'.cell? ⟨w.heap.size, 1, none⟩ = some (.slice a l.length cap))
    (first | go_keep | exact ⟨(hb.cell (p := ⟨w.heap.size, 0, none⟩) (by simp [Q6.out])).trans q0, (hb.cell (p := ⟨w.heap.size, 1, none⟩) (by simp [Q6.out])).trans q1⟩)
    ((first | (go_at_call 33; refine Calls.mono (copyInts_any a cap l _ A0.out.drew HN.out hr) ?_; rintro e w1 ⟨a', cap', rfl, HO, hb⟩; have d2 := (hb.cell (p := ⟨w.heap.size + 1, 0, none⟩) (by simp [Q6.out])).trans q2; have d3 := (hb.cell (p := ⟨w.heap.size + 1, 1, none⟩) (by simp [Q6.out])).trans q3; have d4 := (hb.frozen (p := ⟨w.heap.size + 1, 0, none⟩) (by simp [Q6.out])).trans q4; have d5 := (hb.frozen (p := ⟨w.heap.size + 1, 1, none⟩) (by simp [Q6.out])).trans q5)))
  go_wp2
  have hown := ownsRow_setCell_below (ownsRow_setCell_below HO (a := ⟨w.heap.size + 1, 0, none⟩) (by simp [Q6.out]) (.int .i64 f)) (a := ⟨w.heap.size + 1, 1, none⟩) (by simp [Q6.out]) (.slice a' l.length cap')
  have r1 : (loadVar 24 ⟨w.heap.size + 1, 0, none⟩).run Try.prog ((w1.setCell ⟨w.heap.size + 1, 0, none⟩ (.int .i64 f)).setCell ⟨w.heap.size + 1, 1, none⟩ (.slice a' l.length cap')) = .ok (.agg #[.int .i64 f, .slice a' l.length cap']) ((w1.setCell ⟨w.heap.size + 1, 0, none⟩ (.int .i64 f)).setCell ⟨w.heap.size + 1, 1, none⟩ (.slice a' l.length cap')) :=
    load24 (by simp [World.cell?_setCell_other, World.cell?_setCell_same _ _ _ d2]) (World.cell?_setCell_same _ _ _ (by rw [World.cell?_setCell_other _ _ _ _ (by simp)]; exact d3))
  exact bodyPost_ret (v := .agg #[.int .i64 f, .slice a' l.length cap']) (by simp [results, Try.results28, asAddr, r1]) rfl
    ⟨a', cap', rfl, ownsRow_base (by simp [Q6.out]) hown, (((HB.out.drew).trans (hb.mono (by simp [Q6.out]))).setCell (by simp) _).setCell (by simp) _⟩

theorem nil22 (w : World) (a : Option Addr) (n c : Nat) : (binOp .eql 22 (.slice a n c) (.slice none 0 0)).run Try.prog w = .ok (.bool a.isNone) w := Lib.run_eql_slice_nil w 22 3 a n c 0 0 Try.underlying22

set_option maxHeartbeats 400000 in
theorem clone_any (a : Option Addr) (cap : Nat) (l : List Int) (w : World) (hI : Ints w a l) (hn : a = none → cap = 0) (hr : l.length ≤ 17592186044416) :
    Calls Try.prog 91 #[.slice a l.length cap] w fun e w' => ∃ a' cap', e = .returned (.slice a' l.length cap') ∧ Own w' w.heap.size a' l cap' ∧ Below w.heap.size w w' ∧ (a = none ↔ a' = none) := by
  rcases Option.eq_none_or_eq_some a with rfl | ⟨ad, rfl⟩
  · have hc := hn rfl
    subst hc
    have hl : l = [] := by
      rcases hI.2 with h | ⟨b, off, h, _⟩
      · exact h
      · cases h
    subst hl
    clear hI hn
    have hnil := nil22
    go_enter Try.func91, Try.ntmps91
    go_wp2
    go_ret
    exact ⟨none, 0, rfl, World.ownsRow_nil _ _ _ _, Below.refl _ _, by simp⟩
  · have HI := Lib.hid hI
    clear hI hn
    have hnil := nil22
    go_enter Try.func91, Try.ntmps91
    go_wp2_with (first | (at_builtin; go_loud (refine wp_append_ints rfl (.tmp 5) (.tmp 6) rfl w.heap.size _ [] rfl (ownsRow_empty w) (some ad) cap l l.length rfl rfl (HI.out.alloc _) (by intro h; cases h) (by simp; omega) (by simp) ?_)))
    intro a' cap' w' hown hg HN0
    have HO := Lib.hid hown
    have HG := Lib.hid hg
    have HNN : Hid (a' ≠ none) := Lib.hid HN0.out
    clear hown hg
    go_wp2
    go_ret
    exact ⟨a', cap', rfl, HO.out, ((Below.new w _).grown HG.out (by simp) (by intro k hk; cases hk; exact Nat.le_refl _)), by simp [HNN.out]⟩
end Go.Proofs.Ytldcpnabgpjgiaa.Walks
