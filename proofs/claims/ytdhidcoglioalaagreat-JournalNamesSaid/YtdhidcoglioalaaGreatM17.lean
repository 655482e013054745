/-
  The document's plate is made.
  The document's New.
-/
import Derived.Test.YtdhidcoglioalaaGreatM16
namespace Go.Proofs.YtdhidcoglioalaaGreat.Walks
open Go.RowKit Plain
set_option linter.unusedVariables false

theorem info42 : (Tryz.prog.info? 23).map (fun i => (i.zero, i.size, i.bytes)) = some (some (.slice none 0 0), 1, 24) := by kernel_rfl
/-- A row of the call's own of slices of noughts. -/
structure RowO (w : World) (base : Nat) (a : Option Addr) (c n : Nat) (l : List Value) : Prop where
  own : w.ownsRow base 23 1 (.slice a n c) n l
  len : l.length = n
  zs : ∀ v ∈ l, ∃ g, v = .slice (some ⟨g, 0, none⟩) 64 64 ∧ base ≤ g ∧ w.heap[g]? = some (.cells (secC zeroS) 5 (0, 0))
/-- A slice of the call's own gets one more: where it then lies. -/
theorem run_append_row {w : World} {base : Nat} {a : Option Addr} {c n : Nat} {l : List Value} (h : w.ownsRow base 23 1 (.slice a n c) n l) (hb : base ≤ w.heap.size) (hn : n ≤ 4096) {g c2 : Nat} {v : Value} (hv : v.oneCell' = true) (hg : w.cell? ⟨g, 0, none⟩ = some v) (ty : TypeId) :
    ∃ b' c' w', (Builtin.append_ #[106, 106] ty #[.slice a n c, .slice (some ⟨g, 0, none⟩) 1 c2]).run Tryz.prog w = .ok (.slice (some ⟨b', 0, none⟩) (n + 1) c') w' ∧ w'.ownsRow base 23 1 (.slice (some ⟨b', 0, none⟩) (n + 1) c') (n + 1) (l ++ [v]) ∧ w.grownBy w' (Value.slice a n c).ownBlock ∧
      ((Value.slice a n c).ownBlock = some b' ∨ b' = w.heap.size) := by
  obtain ⟨i0, hi, hz0, hz1, hz2⟩ := info_parts info42
  have hcell : ∀ j u, ([v] : List Value)[j]? = some u → w.cell? ((⟨g, 0, none⟩ : Addr).add j) = some u := fun j u hj => by
    cases j with
    | zero => simp at hj; subst hj; rw [add0]; exact hg
    | succ j => simp at hj
  have hone : ∀ u ∈ ([v] : List Value), u.oneCell' = true := fun u hu => by simp at hu; subst hu; exact hv
  obtain ⟨v', w', h1, h2, h3, h4⟩ := run_append_own w base 106 ty 23 i0 (.slice none 0 0) 1 24 Tryz.underlying106 hi hz0 hz1 hz2 rfl (by decide) (.slice a n c) n l h ⟨g, 0, none⟩ 1 c2 [v] (by simp) hcell hone
      (by unfold maxLen; omega) (by omega) hb
  have hv' : ∃ b' c', v' = .slice (some ⟨b', 0, none⟩) (n + 1) c' ∧ ((Value.slice a n c).ownBlock = some b' ∨ b' = w.heap.size) := by
    obtain ⟨hlen, ⟨e, h0⟩ | ⟨g0, cap, cur, e, hbg, hg0, hnc, hcm, hcs, ht⟩⟩ := h
    · simp only [Value.slice.injEq] at e
      obtain ⟨rfl, rfl, rfl⟩ := e
      have hr := run_append_nil (P := Tryz.prog) w 106 ty 23 i0 (.slice none 0 0) Tryz.underlying106 hi hz0 ⟨g, 0, none⟩ 1 c2 [v] (by simp [hz1]) hcell (by omega) (by omega) (by rw [hz2]; omega)
      have := hr.symm.trans h1
      injection this with e1 _
      exact ⟨w.heap.size, _, e1.symm, .inr rfl⟩
    · simp only [Value.slice.injEq] at e
      obtain ⟨rfl, _, rfl⟩ := e
      by_cases hroom : n + 1 ≤ c
      · have hr := run_append_room (P := Tryz.prog) w 106 ty 23 i0 Tryz.underlying106 hi g0 n c cur hg0 ⟨g, 0, none⟩ 1 c2 [v] (by simp [hz1]) hcell hone hroom (by rw [hz1, hcs]; simp; omega)
        have := hr.symm.trans h1
        injection this with e1 _
        exact ⟨g0, _, e1.symm, .inl rfl⟩
      · have holds : ∀ j u, l[j]? = some u → w.cell? ((⟨g0, 0, none⟩ : Addr).add j) = some u := by
          intro j u hj
          rw [Addr.add_mid, Nat.zero_add, cell_of_row _ _ _ _ _ _ hg0]
          have hjl : j < n := by
            have := (List.getElem?_eq_some_iff.1 hj).1
            rw [hlen] at this
            omega
          have h1 := congrArg (fun z => z[j]?) ht
          simp only [Nat.mul_one, List.getElem?_take, hjl, if_true] at h1
          rw [← Array.getElem?_toList, h1]
          exact hj
        have hr := run_append_grow (P := Tryz.prog) w 106 ty 23 i0 (.slice none 0 0) Tryz.underlying106 hi hz0 ⟨g0, 0, none⟩ n c l (by rw [hz1]; omega) holds ⟨g, 0, none⟩ 1 c2 [v] (by simp [hz1]) hcell (by omega) (by omega) (by rw [hz2]; exact growslice_fits (by omega) (by omega))
        have := hr.symm.trans h1
        injection this with e1 _
        exact ⟨w.heap.size, _, e1.symm, .inr rfl⟩
  obtain ⟨b', c', rfl, hor⟩ := hv'
  exact ⟨b', c', w', h1, h2, h3, hor⟩
theorem new_refErr (w : World) (n : Int) (h : n < 1 ∨ 4096 < n) : Calls Tryz.prog 38 #[.int .i64 n] w fun e w' => e = .returned (.tuple #[.pointer none, .int .i64 9]) ∧ w = w' := by
  by_cases h1 : n < 1
  · clear h
    go_enter Tryz.func38, Tryz.ntmps38
    go_wp2
    refine bodyPost_ret (results_tmp2 rfl _ _ _) rfl ?_
    exact ⟨rfl, rfl⟩
  · have h2 : 4096 < n := by omega
    clear h
    go_enter Tryz.func38, Tryz.ntmps38
    go_wp2
    refine bodyPost_ret (results_tmp2 rfl _ _ _) rfl ?_
    exact ⟨rfl, rfl⟩
/-- Two rows under way: of noughts, in blocks of their own. -/
structure Rows2 (w wr : World) (n p wb jS jN : Nat) (aS : Option Addr) (cS : Nat) (aN : Option Addr) (cN : Nat) (lS lN : List Value) : Prop where
  be : Below w.heap.size w wr
  c0 : wr.cell? ⟨p, 0, none⟩ = some (.slice aS jS cS)
  c1 : wr.cell? ⟨p, 1, none⟩ = some (.slice aN jN cN)
  c2 : wr.cell? ⟨p, 2, none⟩ = some (.slice (some ⟨wb, 0, none⟩) n n)
  c3 : wr.cell? ⟨p, 3, none⟩ = some (.bool false)
  c4 : wr.cell? ⟨p, 4, none⟩ = some (.bool false)
  c5 : wr.cell? ⟨p, 5, none⟩ = some (.int .i64 0)
  c6 : wr.cell? ⟨p, 6, none⟩ = some (.slice none 0 0)
  hp : ∃ cs, wr.heap[p]? = some (.cells cs 108 (0, 0))
  hw : ∃ cs, wr.heap[wb]? = some (.cells cs 4 (0, 0))
  fl : FlagsAt wr wb n (fun _ => false)
  S : wr.ownsRow w.heap.size 23 1 (.slice aS jS cS) jS lS
  N : wr.ownsRow w.heap.size 23 1 (.slice aN jN cN) jN lN
  zS : ∀ v ∈ lS, ∃ g, v = .slice (some ⟨g, 0, none⟩) 64 64 ∧ w.heap.size ≤ g ∧ wr.heap[g]? = some (.cells (secC zeroS) 5 (0, 0))
  zN : ∀ v ∈ lN, ∃ g, v = .slice (some ⟨g, 0, none⟩) 64 64 ∧ w.heap.size ≤ g ∧ wr.heap[g]? = some (.cells (secC zeroS) 5 (0, 0))
  ne : ∀ k, (Value.slice aS jS cS).ownBlock = some k → (Value.slice aN jN cN).ownBlock ≠ some k
  pw : w.heap.size ≤ p ∧ w.heap.size ≤ wb
section
variable {w wr : World} {n p wb jS jN : Nat} {aS aN : Option Addr} {cS cN : Nat} {lS lN : List Value}
theorem row_block {w : World} {base : Nat} {a : Option Addr} {c n : Nat} {l : List Value} (h : w.ownsRow base 23 1 (.slice a n c) n l) {k : Nat} (hk : (Value.slice a n c).ownBlock = some k) : base ≤ k ∧ k < w.heap.size ∧ ∃ cs, w.heap[k]? = some (.cells cs 23 (0, 0)) := by
  obtain ⟨_, ⟨e, _⟩ | ⟨g, cap', cur, e, hb, hg, _⟩⟩ := h
  · rw [e] at hk; cases hk
  · rw [e] at hk; cases hk; exact ⟨hb, lt_of_heap hg, cur, hg⟩
/-- The world in which a row gets one more. -/
def addW (wr : World) : World := ((wr.alloc (.cells (secC zeroS) 5)).alloc (.cells #[.slice (some ⟨wr.heap.size, 0, none⟩) 64 64] 23)).drew
theorem addW_old {b : Nat} (h : b < wr.heap.size) : (addW wr).heap[b]? = wr.heap[b]? := by
  show ((wr.alloc _).alloc _).heap[b]? = _
  rw [heap_alloc_lt (by simp; omega), heap_alloc_lt h]
theorem addW_below : Below wr.heap.size wr (addW wr) := (Below.step (Below.new _ _) (Below.new _ _)).drew
theorem addW_size : (addW wr).heap.size = wr.heap.size + 2 := by
  show ((wr.alloc _).alloc _).heap.size = _
  simp
theorem addW_zero : (addW wr).heap[wr.heap.size]? = some (.cells (secC zeroS) 5 (0, 0)) := by
  show ((wr.alloc _).alloc _).heap[wr.heap.size]? = _
  rw [heap_alloc_lt (by simp)]
  exact heap_alloc_new _ _
theorem addW_cell : (addW wr).cell? ⟨wr.heap.size + 1, 0, none⟩ = some (.slice (some ⟨wr.heap.size, 0, none⟩) 64 64) := by
  have h := cell_new (wr.alloc (.cells (secC zeroS) 5)) #[.slice (some ⟨wr.heap.size, 0, none⟩) 64 64] 23 0
  rw [World.size_alloc] at h
  exact h
theorem row_kept {w w' : World} {base : Nat} {a : Option Addr} {c n : Nat} {l : List Value} (h : w.ownsRow base 23 1 (.slice a n c) n l) (hb : ∀ k, (Value.slice a n c).ownBlock = some k → w'.heap[k]? = w.heap[k]?) : w'.ownsRow base 23 1 (.slice a n c) n l := by
  obtain ⟨hl, ⟨e, h0⟩ | ⟨g, cap', cur, e, hbg, hg, r⟩⟩ := h
  · exact ⟨hl, .inl ⟨e, h0⟩⟩
  · exact ⟨hl, .inr ⟨g, cap', cur, e, hbg, (hb g (by rw [e]; rfl)).trans hg, r⟩⟩
theorem setCell_type {w : World} {g o : Nat} {v : Value} {b : Nat} {t : TypeId} (h : ∃ cs, w.heap[b]? = some (.cells cs t (0, 0))) : ∃ cs, (w.setCell ⟨g, o, none⟩ v).heap[b]? = some (.cells cs t (0, 0)) := by
  obtain ⟨cs, h⟩ := h
  by_cases e : b = g
  · subst e
    exact ⟨_, heap_setCell_same _ _ _ _ _ _ h⟩
  · exact ⟨cs, (RowKit.Below.heap_setCell _ _ _ _ e).trans h⟩
set_option maxRecDepth 10000 in
theorem Rows2.stepS (h : Rows2 w wr n p wb jS jN aS cS aN cN lS lN) (hn : jS ≤ 4096) (ty : TypeId) : ∃ b' c' w', (Builtin.append_ #[106, 106] ty #[.slice aS jS cS, .slice (some ⟨wr.heap.size + 1, 0, none⟩) 1 1]).run Tryz.prog (addW wr) = .ok (.slice (some ⟨b', 0, none⟩) (jS + 1) c') w' ∧
    w'.cell? ⟨p, 0, none⟩ = some (.slice aS jS cS) ∧ w'.frozen? ⟨p, 0, none⟩ = false ∧
    Rows2 w (w'.setCell ⟨p, 0, none⟩ (.slice (some ⟨b', 0, none⟩) (jS + 1) c')) n p wb (jS + 1) jN (some ⟨b', 0, none⟩) c' aN cN (lS ++ [.slice (some ⟨wr.heap.size, 0, none⟩) 64 64]) lN := by
  have hbw := h.be.size
  have hS : (addW wr).ownsRow w.heap.size 23 1 (.slice aS jS cS) jS lS := row_kept h.S fun k hk => addW_old (row_block h.S hk).2.1
  have hN : (addW wr).ownsRow w.heap.size 23 1 (.slice aN jN cN) jN lN := row_kept h.N fun k hk => addW_old (row_block h.N hk).2.1
  obtain ⟨b', c', w', h1, h2, h3, h4⟩ := run_append_row hS (by rw [addW_size]; omega) hn (g := wr.heap.size + 1) (c2 := 1) rfl addW_cell ty
  obtain ⟨pc, hpc⟩ := h.hp
  obtain ⟨wc, hwc⟩ := h.hw
  have hpl := lt_of_heap hpc
  have hwl := lt_of_heap hwc
  -- blocks that were there and are not the row's own are as they were
  have keep : ∀ b, b < wr.heap.size → (Value.slice aS jS cS).ownBlock ≠ some b → w'.heap[b]? = wr.heap[b]? := fun b hb hne => (h3.block b (by rw [addW_size]; omega) (fun e => hne e.symm)).trans (addW_old hb)
  have hneP : (Value.slice aS jS cS).ownBlock ≠ some p := fun e => by
    obtain ⟨_, _, cs, hc⟩ := row_block h.S e
    rw [hpc] at hc
    simp at hc
  have hneW : (Value.slice aS jS cS).ownBlock ≠ some wb := fun e => by
    obtain ⟨_, _, cs, hc⟩ := row_block h.S e
    rw [hwc] at hc
    simp at hc
  have hneZ : ∀ g, wr.heap[g]? = some (.cells (secC zeroS) 5 (0, 0)) → (Value.slice aS jS cS).ownBlock ≠ some g := fun g hg e => by
    obtain ⟨_, _, cs, hc⟩ := row_block h.S e
    rw [hg] at hc
    simp at hc
  have kp := keep p hpl hneP
  have kw := keep wb hwl hneW
  have hcP : ∀ i, w'.cell? ⟨p, i, none⟩ = wr.cell? ⟨p, i, none⟩ := fun i => World.cell?_of_block kp
  have hcW : ∀ i, w'.cell? ⟨wb, i, none⟩ = wr.cell? ⟨wb, i, none⟩ := fun i => World.cell?_of_block kw
  have hfP : ∀ i, w'.frozen? ⟨p, i, none⟩ = false := fun i => by unfold World.frozen?; simp only [kp, hpc]; simp
  have hpwb : p ≠ wb := fun e => by rw [e, hwc] at hpc; simp at hpc
  have hnb' : b' ≠ p ∧ b' ≠ wb := by
    rcases h4 with h4 | h4
    · exact ⟨fun e => hneP (by rw [h4, e]), fun e => hneW (by rw [h4, e])⟩
    · rw [addW_size] at h4
      exact ⟨by omega, by omega⟩
  have hbe' : Below w.heap.size w w' := (Below.step h.be addW_below).grown h3 (by rw [addW_size]; omega) (fun k hk => (row_block h.S hk).1)
  refine ⟨b', c', w', h1, (hcP 0).trans h.c0, hfP 0, ?_⟩
  have sc : ∀ {i : Nat} {v : Value}, i ≠ 0 → wr.cell? ⟨p, i, none⟩ = some v → (w'.setCell ⟨p, 0, none⟩ (.slice (some ⟨b', 0, none⟩) (jS + 1) c')).cell? ⟨p, i, none⟩ = some v := fun hi hc => by
    rw [World.cell?_setCell_other _ _ _ _ (fun e => hi (by injection e with _ h2 _; exact h2.symm))]
    exact (hcP _).trans hc
  have oth : ∀ {b : Nat}, b ≠ p → (w'.setCell ⟨p, 0, none⟩ (.slice (some ⟨b', 0, none⟩) (jS + 1) c')).heap[b]? = w'.heap[b]? := fun hb => RowKit.Below.heap_setCell _ _ _ _ hb
  refine ⟨hbe'.setCell (p := ⟨p, 0, none⟩) h.pw.1 _, World.cell?_setCell_same _ _ _ ((hcP 0).trans h.c0), sc (by omega) h.c1, sc (by omega) h.c2, sc (by omega) h.c3, sc (by omega) h.c4, sc (by omega) h.c5, sc (by omega) h.c6,
    setCell_type ⟨pc, kp.trans hpc⟩, setCell_type ⟨wc, kw.trans hwc⟩, ?_, ?_, ?_, ?_, ?_, ?_, h.pw⟩
  · intro i hi
    obtain ⟨f1, f2⟩ := h.fl i hi
    have hk := (oth (fun e => hpwb e.symm)).trans kw
    exact ⟨by unfold World.frozen? at f1 ⊢; simp only [hk]; exact f1, (World.cell?_of_block hk).trans f2⟩
  · exact row_kept h2 fun k hk => oth (by cases hk; exact hnb'.1)
  · refine row_kept hN fun k hk => ?_
    obtain ⟨_, hkl, cs, hcs⟩ := row_block h.N hk
    have hkp : k ≠ p := fun e => by rw [e, hpc] at hcs; simp at hcs
    exact (oth hkp).trans ((keep k hkl (fun e => h.ne k e hk)).trans (addW_old hkl).symm)
  · intro v hv
    rcases List.mem_append.1 hv with hv | hv
    · obtain ⟨g, e, hg1, hg2⟩ := h.zS v hv
      have hgp : g ≠ p := fun e => by rw [e, hpc] at hg2; simp at hg2
      exact ⟨g, e, hg1, (oth hgp).trans ((keep g (lt_of_heap hg2) (hneZ g hg2)).trans hg2)⟩
    · simp at hv
      subst hv
      refine ⟨wr.heap.size, rfl, hbw, (oth (by omega)).trans ?_⟩
      have hne : (Value.slice aS jS cS).ownBlock ≠ some wr.heap.size := fun e => by have := (row_block h.S e).2.1; omega
      exact (h3.block _ (by rw [addW_size]; omega) (fun e => hne e.symm)).trans addW_zero
  · intro v hv
    obtain ⟨g, e, hg1, hg2⟩ := h.zN v hv
    have hgp : g ≠ p := fun e => by rw [e, hpc] at hg2; simp at hg2
    exact ⟨g, e, hg1, (oth hgp).trans ((keep g (lt_of_heap hg2) (hneZ g hg2)).trans hg2)⟩
  · intro k hk hN'
    obtain rfl : b' = k := by injection hk
    rcases h4 with h4 | h4
    · exact h.ne b' h4 hN'
    · have := (row_block h.N hN').2.1
      rw [addW_size] at h4
      omega
set_option maxRecDepth 10000 in
theorem Rows2.stepN (h : Rows2 w wr n p wb jS jN aS cS aN cN lS lN) (hn : jN ≤ 4096) (ty : TypeId) : ∃ b' c' w', (Builtin.append_ #[106, 106] ty #[.slice aN jN cN, .slice (some ⟨wr.heap.size + 1, 0, none⟩) 1 1]).run Tryz.prog (addW wr) = .ok (.slice (some ⟨b', 0, none⟩) (jN + 1) c') w' ∧
    w'.cell? ⟨p, 1, none⟩ = some (.slice aN jN cN) ∧ w'.frozen? ⟨p, 1, none⟩ = false ∧
    Rows2 w (w'.setCell ⟨p, 1, none⟩ (.slice (some ⟨b', 0, none⟩) (jN + 1) c')) n p wb jS (jN + 1) aS cS (some ⟨b', 0, none⟩) c' lS (lN ++ [.slice (some ⟨wr.heap.size, 0, none⟩) 64 64]) := by
  have hbw := h.be.size
  have hS : (addW wr).ownsRow w.heap.size 23 1 (.slice aN jN cN) jN lN := row_kept h.N fun k hk => addW_old (row_block h.N hk).2.1
  have hN : (addW wr).ownsRow w.heap.size 23 1 (.slice aS jS cS) jS lS := row_kept h.S fun k hk => addW_old (row_block h.S hk).2.1
  obtain ⟨b', c', w', h1, h2, h3, h4⟩ := run_append_row hS (by rw [addW_size]; omega) hn (g := wr.heap.size + 1) (c2 := 1) rfl addW_cell ty
  obtain ⟨pc, hpc⟩ := h.hp
  obtain ⟨wc, hwc⟩ := h.hw
  have hpl := lt_of_heap hpc
  have hwl := lt_of_heap hwc
  -- blocks that were there and are not the row's own are as they were
  have keep : ∀ b, b < wr.heap.size → (Value.slice aN jN cN).ownBlock ≠ some b → w'.heap[b]? = wr.heap[b]? := fun b hb hne => (h3.block b (by rw [addW_size]; omega) (fun e => hne e.symm)).trans (addW_old hb)
  have hneP : (Value.slice aN jN cN).ownBlock ≠ some p := fun e => by
    obtain ⟨_, _, cs, hc⟩ := row_block h.N e
    rw [hpc] at hc
    simp at hc
  have hneW : (Value.slice aN jN cN).ownBlock ≠ some wb := fun e => by
    obtain ⟨_, _, cs, hc⟩ := row_block h.N e
    rw [hwc] at hc
    simp at hc
  have hneZ : ∀ g, wr.heap[g]? = some (.cells (secC zeroS) 5 (0, 0)) → (Value.slice aN jN cN).ownBlock ≠ some g := fun g hg e => by
    obtain ⟨_, _, cs, hc⟩ := row_block h.N e
    rw [hg] at hc
    simp at hc
  have kp := keep p hpl hneP
  have kw := keep wb hwl hneW
  have hcP : ∀ i, w'.cell? ⟨p, i, none⟩ = wr.cell? ⟨p, i, none⟩ := fun i => World.cell?_of_block kp
  have hcW : ∀ i, w'.cell? ⟨wb, i, none⟩ = wr.cell? ⟨wb, i, none⟩ := fun i => World.cell?_of_block kw
  have hfP : ∀ i, w'.frozen? ⟨p, i, none⟩ = false := fun i => by unfold World.frozen?; simp only [kp, hpc]; simp
  have hpwb : p ≠ wb := fun e => by rw [e, hwc] at hpc; simp at hpc
  have hnb' : b' ≠ p ∧ b' ≠ wb := by
    rcases h4 with h4 | h4
    · exact ⟨fun e => hneP (by rw [h4, e]), fun e => hneW (by rw [h4, e])⟩
    · rw [addW_size] at h4
      exact ⟨by omega, by omega⟩
  have hbe' : Below w.heap.size w w' := (Below.step h.be addW_below).grown h3 (by rw [addW_size]; omega) (fun k hk => (row_block h.N hk).1)
  refine ⟨b', c', w', h1, (hcP 1).trans h.c1, hfP 1, ?_⟩
  have sc : ∀ {i : Nat} {v : Value}, i ≠ 1 → wr.cell? ⟨p, i, none⟩ = some v → (w'.setCell ⟨p, 1, none⟩ (.slice (some ⟨b', 0, none⟩) (jN + 1) c')).cell? ⟨p, i, none⟩ = some v := fun hi hc => by
    rw [World.cell?_setCell_other _ _ _ _ (fun e => hi (by injection e with _ h2 _; exact h2.symm))]
    exact (hcP _).trans hc
  have oth : ∀ {b : Nat}, b ≠ p → (w'.setCell ⟨p, 1, none⟩ (.slice (some ⟨b', 0, none⟩) (jN + 1) c')).heap[b]? = w'.heap[b]? := fun hb => RowKit.Below.heap_setCell _ _ _ _ hb
  refine ⟨hbe'.setCell (p := ⟨p, 1, none⟩) h.pw.1 _, sc (by omega) h.c0, World.cell?_setCell_same _ _ _ ((hcP 1).trans h.c1), sc (by omega) h.c2, sc (by omega) h.c3, sc (by omega) h.c4, sc (by omega) h.c5, sc (by omega) h.c6,
    setCell_type ⟨pc, kp.trans hpc⟩, setCell_type ⟨wc, kw.trans hwc⟩, ?_, ?_, ?_, ?_, ?_, ?_, h.pw⟩
  · intro i hi
    obtain ⟨f1, f2⟩ := h.fl i hi
    have hk := (oth (fun e => hpwb e.symm)).trans kw
    exact ⟨by unfold World.frozen? at f1 ⊢; simp only [hk]; exact f1, (World.cell?_of_block hk).trans f2⟩
  · refine row_kept hN fun k hk => ?_
    obtain ⟨_, hkl, cs, hcs⟩ := row_block h.S hk
    have hkp : k ≠ p := fun e => by rw [e, hpc] at hcs; simp at hcs
    exact (oth hkp).trans ((keep k hkl (fun e => h.ne k hk e)).trans (addW_old hkl).symm)
  · exact row_kept h2 fun k hk => oth (by cases hk; exact hnb'.1)
  · intro v hv
    obtain ⟨g, e, hg1, hg2⟩ := h.zS v hv
    have hgp : g ≠ p := fun e => by rw [e, hpc] at hg2; simp at hg2
    exact ⟨g, e, hg1, (oth hgp).trans ((keep g (lt_of_heap hg2) (hneZ g hg2)).trans hg2)⟩
  · intro v hv
    rcases List.mem_append.1 hv with hv | hv
    · obtain ⟨g, e, hg1, hg2⟩ := h.zN v hv
      have hgp : g ≠ p := fun e => by rw [e, hpc] at hg2; simp at hg2
      exact ⟨g, e, hg1, (oth hgp).trans ((keep g (lt_of_heap hg2) (hneZ g hg2)).trans hg2)⟩
    · simp at hv
      subst hv
      refine ⟨wr.heap.size, rfl, hbw, (oth (by omega)).trans ?_⟩
      have hne : (Value.slice aN jN cN).ownBlock ≠ some wr.heap.size := fun e => by have := (row_block h.N e).2.1; omega
      exact (h3.block _ (by rw [addW_size]; omega) (fun e => hne e.symm)).trans addW_zero
  · intro k hk hN'
    obtain rfl : b' = k := by injection hN'
    rcases h4 with h4 | h4
    · exact h.ne b' hk h4
    · have := (row_block h.S hk).2.1
      rw [addW_size] at h4
      omega
end
end Go.Proofs.YtdhidcoglioalaaGreat.Walks
namespace Go.Proofs.YtdhidcoglioalaaGreat.Walks
open Go.RowKit Plain
set_option linter.unusedVariables false

theorem info4s : (Tryz.prog.info? 4).map (fun i => (i.size, i.bytes)) = some (1, 1) := by kernel_rfl
theorem info4z : (Tryz.prog.info? 4).map (·.zero) = some (some (.bool false)) := by kernel_rfl
def falseC (n : Nat) : Array Value := madeCells #[.bool false] n
theorem falseC_get (n : Nat) {i : Nat} (hi : i < n) : (falseC n)[i]? = some (.bool false) := by
  unfold falseC
  rw [← Array.getElem?_toList, toList_madeCells_one]
  simp [hi]
theorem makeB (w : World) (n : Nat) (hn : n ≤ 4096) : (Instr.makeSlice 41 (.int .i64 n) (.int .i64 n)).run Tryz.prog w = .ok (.slice (some ⟨w.heap.size, 0, none⟩) n n) (w.alloc (.cells (falseC n) 4)) := by
  cases hi : Tryz.prog.info? 4 with
  | none => have := info4s; rw [hi] at this; cases this
  | some i =>
    have := info4s
    rw [hi] at this
    simp only [Option.map_some, Option.some.injEq, Prod.mk.injEq] at this
    obtain ⟨e1, e2⟩ := this
    have hz : i.zero = some (.bool false) := by
      have hz := info4z
      rw [hi] at hz
      exact Option.some.inj hz
    have := run_makeSlice w 41 4 i (.bool false) Tryz.underlying41 hi hz .i64 .i64 n n (by omega) (by omega) (by rw [e1]; simp; omega) (by rw [e2]; omega) (by omega)
    rw [e1] at this
    simpa [falseC, Value.cells] using this
/-- append on rows, as one word. -/
def App (x y : Value) : Sem Next := do return .value (← Builtin.append_ #[106, 106] 106 #[x, y])
theorem exec_app {ρ : Operand → Value} {d : Option Tmp} {x y : Operand} {p : String} {af : Array Edge} {gd : Option (Nat × Bool)} {w : World} :
    (execOp ρ ⟨d, .call { callee := .builtin .append, args := #[x, y], argTypes := #[106, 106] }, 106, p, af, gd⟩).run Tryz.prog w = (App (ρ x) (ρ y)).run Tryz.prog w := by
  unfold App
  simp [execOp, resolve, invoke, builtin]
theorem app_run {x y v : Value} {w w' : World} (h : (Builtin.append_ #[106, 106] 106 #[x, y]).run Tryz.prog w = .ok v w') : (App x y).run Tryz.prog w = .ok (.value v) w' := by
  unfold App
  rw [Sem.run_bind, h, Result.andThen_ok]
  rfl
structure NewR (w wr : World) (n p wb j : Nat) : Prop where
  ex : ∃ aS cS aN cN lS lN, Rows2 w wr n p wb j j aS cS aN cN lS lN
theorem rows_of {w : World} {base n : Nat} {a : Option Addr} {c : Nat} {l : List Value} (h : w.ownsRow base 23 1 (.slice a n c) n l) (hn : 1 ≤ n) : ∃ b, a = some ⟨b, 0, none⟩ ∧ base ≤ b ∧ (∃ cs, w.heap[b]? = some (.cells cs 23 (0, 0))) ∧ ∀ i (hi : i < n), w.frozen? ⟨b, i, none⟩ = false ∧ ∃ v ∈ l, w.cell? ⟨b, i, none⟩ = some v := by
  obtain ⟨hl, ⟨e, h0⟩ | ⟨g, cap', cur, e, hbg, hg, hnc, hcm, hcs, ht⟩⟩ := h
  · omega
  · simp only [Value.slice.injEq] at e
    obtain ⟨rfl, _, rfl⟩ := e
    refine ⟨g, rfl, hbg, ⟨cur, hg⟩, fun i hi => ⟨by unfold World.frozen?; simp only [hg]; simp, ?_⟩⟩
    rw [cell_of_row _ _ _ _ _ _ hg]
    have h1 := congrArg (fun z => z[i]?) ht
    simp only [Nat.mul_one, List.getElem?_take, hi, if_true] at h1
    have hil : i < l.length := by omega
    rw [List.getElem?_eq_getElem hil] at h1
    exact ⟨l[i], List.getElem_mem _, by rw [← Array.getElem?_toList, h1]⟩
theorem new_made {w wr : World} {n p wb : Nat} {aS : Option Addr} {cS : Nat} {aN : Option Addr} {cN : Nat} {lS lN : List Value} (h : Rows2 w wr n p wb n n aS cS aN cN lS lN) (h1 : 1 ≤ n) (h2 : n ≤ 4096) (ban : List Nat) (hban : ∀ b ∈ ban, b < w.heap.size) :
    ∃ r : RLoc, rv r = .pointer (some ⟨p, 0, none⟩) ∧ RefAt wr r (Pl.made n) ∧ (∀ b ∈ r.R, w.heap.size ≤ b) ∧ r.ban = ban := by
  obtain ⟨bS, rfl, hbS, ⟨cs1, hS⟩, fS⟩ := rows_of h.S h1
  obtain ⟨bN, rfl, hbN, ⟨cs2, hN⟩, fN⟩ := rows_of h.N h1
  obtain ⟨pc, hp⟩ := h.hp
  obtain ⟨wc, hw⟩ := h.hw
  have n1 : p ≠ bS := fun e => by rw [e, hS] at hp; simp at hp
  have n2 : p ≠ bN := fun e => by rw [e, hN] at hp; simp at hp
  have n3 : p ≠ wb := fun e => by rw [e, hw] at hp; simp at hp
  have n4 : bS ≠ bN := fun e => h.ne bS rfl (by rw [e]; rfl)
  have n5 : bS ≠ wb := fun e => by rw [e, hw] at hS; simp at hS
  have n6 : bN ≠ wb := fun e => by rw [e, hw] at hN; simp at hN
  have hrow : ∀ v, (∃ g, v = Value.slice (some ⟨g, 0, none⟩) 64 64 ∧ w.heap.size ≤ g ∧ wr.heap[g]? = some (.cells (secC zeroS) 5 (0, 0))) → RowV wr (RLoc.N ⟨p, bS, bN, wb, ban⟩) v zeroS := by
    rintro v ⟨g, rfl, hgb, hg⟩
    refine ⟨g, 0, 64, rfl, fun j u hu => ?_, fun hm => ?_⟩
    · rw [Nat.zero_add, cell_of_row _ _ _ _ _ _ hg]
      simpa [secC] using hu
    · rcases List.mem_append.1 hm with hm | hm
      case inr =>
        have h1 : g < w.heap.size := hban g hm
        omega
      simp only [RLoc.R, List.mem_cons, List.not_mem_nil, or_false] at hm
      rcases hm with e | e | e | e
      · rw [e, hp] at hg; simp at hg
      · rw [e, hS] at hg; simp at hg
      · rw [e, hN] at hg; simp at hg
      · rw [e, hw] at hg; simp at hg
  refine ⟨⟨p, bS, bN, wb, ban⟩, rfl, ⟨⟨⟨cS, h.c0⟩, ⟨cN, h.c1⟩, ⟨n, h.c2⟩, h.c3, h.c4, h.c5, ⟨none, 0, h.c6, Bools.nil _ _, (fun h0 => absurd rfl h0)⟩, fun i => by unfold World.frozen?; simp only [hp]; simp, ?_, ?_, ?_, ⟨n1, n2, n3, n4, n5, n6⟩, h1, h2, fun b hb => Nat.lt_of_lt_of_le (hban b hb) h.be.size⟩, Pl.ok_made h1 h2⟩, ?_, rfl⟩
  · intro i hi
    obtain ⟨f1, v, hv, hc⟩ := fS i hi
    exact ⟨f1, v, hc, hrow v (h.zS v hv)⟩
  · intro i hi
    obtain ⟨f1, v, hv, hc⟩ := fN i hi
    exact ⟨f1, v, hc, hrow v (h.zN v hv)⟩
  · exact h.fl
  · intro b hb
    simp only [RLoc.R, List.mem_cons, List.not_mem_nil, or_false] at hb
    rcases hb with rfl | rfl | rfl | rfl
    · exact h.pw.1
    · exact hbS
    · exact hbN
    · exact h.pw.2
section
attribute [local go_sem ↓] exec_app
set_option maxRecDepth 20000 in
set_option maxHeartbeats 4000000 in
theorem rf_new (w : World) (n : Nat) (h1 : 1 ≤ n) (h2 : n ≤ 4096) (ban : List Nat) (hban : ∀ b ∈ ban, b < w.heap.size) : Calls Tryz.prog 38 #[.int .i64 n] w fun e w' => ∃ r : RLoc, e = .returned (.tuple #[rv r, .int .i64 0]) ∧ RefAt w' r (Pl.made n) ∧ Below w.heap.size w w' ∧ (∀ b ∈ r.R, w.heap.size ≤ b) ∧ r.ban = ban := by
  have HBan := Lib.hid hban
  clear hban
  have hmk := makeB w n h2
  have hl1 : ¬ ((n : Int) < 1) := by omega
  have hl2 : ¬ (4096 < (n : Int)) := by omega
  go_enter Tryz.func38, Tryz.ntmps38
  go_wp2_with fail
  obtain ⟨w1, hw1⟩ : ∃ x, x = (w.alloc (.cells (falseC n) 4)).alloc (.cells #[.slice none 0 0, .slice none 0 0, .slice (some ⟨w.heap.size, 0, none⟩) n n, .bool false, .bool false, .int .i64 0, .slice none 0 0] 108) := ⟨_, rfl⟩
  have H1 : Hid (NewR w w1 n (w.heap.size + 1) w.heap.size 0) := Lib.hid ⟨none, 0, none, 0, [], [], by
    have hp : ∀ j, w1.cell? ⟨w.heap.size + 1, j, none⟩ = (#[Value.slice none 0 0, .slice none 0 0, .slice (some ⟨w.heap.size, 0, none⟩) n n, .bool false, .bool false, .int .i64 0, .slice none 0 0] : Array Value)[j]? := fun j => by
      have h := cell_new (w.alloc (.cells (falseC n) 4)) #[.slice none 0 0, .slice none 0 0, .slice (some ⟨w.heap.size, 0, none⟩) n n, .bool false, .bool false, .int .i64 0, .slice none 0 0] 108 j
      rw [World.size_alloc] at h
      rw [hw1]
      exact h
    have hpb : w1.heap[w.heap.size + 1]? = some (.cells #[.slice none 0 0, .slice none 0 0, .slice (some ⟨w.heap.size, 0, none⟩) n n, .bool false, .bool false, .int .i64 0, .slice none 0 0] 108 (0, 0)) := by
      have h := heap_alloc_new (w.alloc (.cells (falseC n) 4)) (.cells #[.slice none 0 0, .slice none 0 0, .slice (some ⟨w.heap.size, 0, none⟩) n n, .bool false, .bool false, .int .i64 0, .slice none 0 0] 108 (0, 0))
      rw [World.size_alloc] at h
      rw [hw1]
      exact h
    have hwb : w1.heap[w.heap.size]? = some (.cells (falseC n) 4 (0, 0)) := by
      rw [hw1, heap_alloc_lt (by simp)]
      exact heap_alloc_new _ _
    exact ⟨by rw [hw1]; exact Below.step (Below.new _ _) (Below.new _ _), by rw [hp]; rfl, by rw [hp]; rfl, by rw [hp]; rfl, by rw [hp]; rfl, by rw [hp]; rfl, by rw [hp]; rfl, by rw [hp]; rfl, ⟨_, hpb⟩, ⟨_, hwb⟩,
      fun i hi => ⟨by unfold World.frozen?; simp only [hwb]; simp, by rw [cell_of_row _ _ _ _ _ _ hwb]; exact falseC_get n hi⟩, World.ownsRow_nil _ _ _ _, World.ownsRow_nil _ _ _ _, (fun v hv => by simp at hv), (fun v hv => by simp at hv), (fun k hk => by cases hk), by omega, Nat.le_refl _⟩⟩
  rw [← hw1]
  clear hw1 hmk
  go_loopw [5] (fun i wr => ∃ j : Nat, j ≤ n ∧ i = .int .i64 j ∧ Hid (NewR w wr n (w.heap.size + 1) w.heap.size j)) (fun i _ => n - (RowKit.intOf i).toNat)
  case atStart => exact ⟨0, by omega, rfl, H1⟩
  case round =>
    obtain ⟨j, hj, rfl, HR⟩ := hrel
    by_cases hlt : j < n
    · obtain ⟨aS, cS, aN, cN, lS, lN, hR⟩ := HR.out.ex
      have c0 := hR.c0
      have c1 := hR.c1
      have hmk := make64 wr.drew
      have hmk' := make64 wr
      obtain ⟨b', c', w2, happ, hc, hf, hR2⟩ := hR.stepS (by omega) 106
      have hpl : w.heap.size + 1 < wr.heap.size := block_lt_of_cell c0
      have hpl1 : w.heap.size + 1 < wr.heap.size + 1 := by omega
      have happ := app_run happ
      unfold addW at happ
      have HR2 := Lib.hid hR2
      clear hR hR2
      go_wp2_with fail
      go_region
      obtain ⟨w3, hw3⟩ : ∃ x, x = w2.setCell ⟨w.heap.size + 1, 0, none⟩ (.slice (some ⟨b', 0, none⟩) (j + 1) c') := ⟨_, rfl⟩
      rw [← hw3] at HR2 ⊢
      have d0 := HR2.out.c0
      have d1 := HR2.out.c1
      have hmj := make64 w3
      have hmj' := make64 w3.drew
      obtain ⟨b2, c2, w4, happ2, hc2, hf2, hR3⟩ := HR2.out.stepN (by omega) 106
      have hql : w.heap.size + 1 < w3.heap.size := block_lt_of_cell d0
      have hql1 : w.heap.size + 1 < w3.heap.size + 1 := by omega
      have happ2 := app_run happ2
      unfold addW at happ2
      have HR3 := Lib.hid hR3
      clear hR3 hw3 happ hmk hmk' hc hf c0 c1 hpl hpl1
      go_wp2_with fail
      go_region
      go_wp2
      go_roundw
      case rel => exact ⟨j + 1, by omega, by go_num, Lib.hid ⟨_, _, _, _, _, _, HR3.out⟩⟩
      case measure => simp [RowKit.intOf]; omega
    · obtain rfl : j = n := by omega
      go_wp2
      refine bodyPost_ret (results_tmp2 rfl _ _ _) rfl ?_
      obtain ⟨aS, cS, aN, cN, lS, lN, hR⟩ := HR.out.ex
      obtain ⟨r, hr1, hr2, hr3, hr4⟩ := new_made hR h1 h2 ban HBan.out
      exact ⟨r, by rw [← hr1]; rfl, hr2, hR.be, hr3, hr4⟩
end
end Go.Proofs.YtdhidcoglioalaaGreat.Walks
