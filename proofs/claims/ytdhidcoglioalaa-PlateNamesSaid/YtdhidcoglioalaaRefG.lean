/-
  The document's plate is made.
-/
import Derived.Test.YtdhidcoglioalaaRefF
namespace Go.Proofs.Ytdhidcoglioalaa.Walks
open Go.RowKit Plain
set_option linter.unusedVariables false

theorem info42 : (Try.prog.info? 42).map (fun i => (i.zero, i.size, i.bytes)) = some (some (.slice none 0 0), 1, 24) := by kernel_rfl
/-- A row of the call's own of slices of noughts. -/
structure RowO (w : World) (base : Nat) (a : Option Addr) (c n : Nat) (l : List Value) : Prop where
  own : w.ownsRow base 42 1 (.slice a n c) n l
  len : l.length = n
  zs : ∀ v ∈ l, ∃ g, v = .slice (some ⟨g, 0, none⟩) 64 64 ∧ base ≤ g ∧ w.heap[g]? = some (.cells (secC zeroS) 5 (0, 0))
/-- A slice of the call's own gets one more: where it then lies. -/
theorem run_append_row {w : World} {base : Nat} {a : Option Addr} {c n : Nat} {l : List Value} (h : w.ownsRow base 42 1 (.slice a n c) n l) (hb : base ≤ w.heap.size) (hn : n ≤ 4096) {g c2 : Nat} {v : Value} (hv : v.oneCell' = true) (hg : w.cell? ⟨g, 0, none⟩ = some v) (ty : TypeId) :
    ∃ b' c' w', (Builtin.append_ #[94, 94] ty #[.slice a n c, .slice (some ⟨g, 0, none⟩) 1 c2]).run Try.prog w = .ok (.slice (some ⟨b', 0, none⟩) (n + 1) c') w' ∧ w'.ownsRow base 42 1 (.slice (some ⟨b', 0, none⟩) (n + 1) c') (n + 1) (l ++ [v]) ∧ w.grownBy w' (Value.slice a n c).ownBlock ∧
      ((Value.slice a n c).ownBlock = some b' ∨ b' = w.heap.size) := by
  obtain ⟨i0, hi, hz0, hz1, hz2⟩ := info_parts info42
  have hcell : ∀ j u, ([v] : List Value)[j]? = some u → w.cell? ((⟨g, 0, none⟩ : Addr).add j) = some u := fun j u hj => by
    cases j with
    | zero => simp at hj; subst hj; rw [add0]; exact hg
    | succ j => simp at hj
  have hone : ∀ u ∈ ([v] : List Value), u.oneCell' = true := fun u hu => by simp at hu; subst hu; exact hv
  obtain ⟨v', w', h1, h2, h3, h4⟩ := run_append_own w base 94 ty 42 i0 (.slice none 0 0) 1 24 Try.underlying94 hi hz0 hz1 hz2 rfl (by decide) (.slice a n c) n l h ⟨g, 0, none⟩ 1 c2 [v] (by simp) hcell hone
      (by unfold maxLen; omega) (by omega) hb
  have hv' : ∃ b' c', v' = .slice (some ⟨b', 0, none⟩) (n + 1) c' ∧ ((Value.slice a n c).ownBlock = some b' ∨ b' = w.heap.size) := by
    obtain ⟨hlen, ⟨e, h0⟩ | ⟨g0, cap, cur, e, hbg, hg0, hnc, hcm, hcs, ht⟩⟩ := h
    · simp only [Value.slice.injEq] at e
      obtain ⟨rfl, rfl, rfl⟩ := e
      have hr := run_append_nil (P := Try.prog) w 94 ty 42 i0 (.slice none 0 0) Try.underlying94 hi hz0 ⟨g, 0, none⟩ 1 c2 [v] (by simp [hz1]) hcell (by omega) (by omega) (by rw [hz2]; omega)
      have := hr.symm.trans h1
      injection this with e1 _
      exact ⟨w.heap.size, _, e1.symm, .inr rfl⟩
    · simp only [Value.slice.injEq] at e
      obtain ⟨rfl, _, rfl⟩ := e
      by_cases hroom : n + 1 ≤ c
      · have hr := run_append_room (P := Try.prog) w 94 ty 42 i0 Try.underlying94 hi g0 n c cur hg0 ⟨g, 0, none⟩ 1 c2 [v] (by simp [hz1]) hcell hone hroom (by rw [hz1, hcs]; simp; omega)
        have := hr.symm.trans h1
        injection this with e1 _
        exact ⟨g0, _, e1.symm, .inl rfl⟩
      · have holds : ∀ j u, l[j]? = some u → w.cell? ((⟨g0, 0, none⟩ : Addr).add j) = some u := by
          intro j u hj
          rw [Addr.add_mid, Nat.zero_add, cell_of_row _ _ _ _ _ _ hg0]
          have hjl : j < n := by
            have := (List.getElem?_eq_some_iff.1 hj).1
            rw [hlen] at this
            omega
          have h1 := congrArg (fun z => z[j]?) ht
          simp only [Nat.mul_one, List.getElem?_take, hjl, if_true] at h1
          rw [← Array.getElem?_toList, h1]
          exact hj
        have hr := run_append_grow (P := Try.prog) w 94 ty 42 i0 (.slice none 0 0) Try.underlying94 hi hz0 ⟨g0, 0, none⟩ n c l (by rw [hz1]; omega) holds ⟨g, 0, none⟩ 1 c2 [v] (by simp [hz1]) hcell (by omega) (by omega) (by rw [hz2]; exact growslice_fits (by omega) (by omega))
        have := hr.symm.trans h1
        injection this with e1 _
        exact ⟨w.heap.size, _, e1.symm, .inr rfl⟩
  obtain ⟨b', c', rfl, hor⟩ := hv'
  exact ⟨b', c', w', h1, h2, h3, hor⟩
theorem new_refErr (w : World) (n : Int) (h : n < 1 ∨ 4096 < n) : Calls Try.prog 30 #[.int .i64 n] w fun e w' => e = .returned (.tuple #[.pointer none, .int .i64 9]) ∧ w = w' := by
  by_cases h1 : n < 1
  · clear h
    go_enter Try.func30, Try.ntmps30
    go_wp2
    refine bodyPost_ret (results_tmp2 rfl _ _ _) rfl ?_
    exact ⟨rfl, rfl⟩
  · have h2 : 4096 < n := by omega
    clear h
    go_enter Try.func30, Try.ntmps30
    go_wp2
    refine bodyPost_ret (results_tmp2 rfl _ _ _) rfl ?_
    exact ⟨rfl, rfl⟩
/-- Two rows under way: of noughts, in blocks of their own. -/
structure Rows2 (w wr : World) (n p wb jS jN : Nat) (aS : Option Addr) (cS : Nat) (aN : Option Addr) (cN : Nat) (lS lN : List Value) : Prop where
  be : Below w.heap.size w wr
  c0 : wr.cell? ⟨p, 0, none⟩ = some (.slice aS jS cS)
  c1 : wr.cell? ⟨p, 1, none⟩ = some (.slice aN jN cN)
  c2 : wr.cell? ⟨p, 2, none⟩ = some (.slice (some ⟨wb, 0, none⟩) n n)
  c3 : wr.cell? ⟨p, 3, none⟩ = some (.bool false)
  c4 : wr.cell? ⟨p, 4, none⟩ = some (.bool false)
  c5 : wr.cell? ⟨p, 5, none⟩ = some (.int .i64 0)
  c6 : wr.cell? ⟨p, 6, none⟩ = some (.slice none 0 0)
  hp : ∃ cs, wr.heap[p]? = some (.cells cs 96 (0, 0))
  hw : ∃ cs, wr.heap[wb]? = some (.cells cs 4 (0, 0))
  fl : FlagsAt wr wb n (fun _ => false)
  S : wr.ownsRow w.heap.size 42 1 (.slice aS jS cS) jS lS
  N : wr.ownsRow w.heap.size 42 1 (.slice aN jN cN) jN lN
  zS : ∀ v ∈ lS, ∃ g, v = .slice (some ⟨g, 0, none⟩) 64 64 ∧ w.heap.size ≤ g ∧ wr.heap[g]? = some (.cells (secC zeroS) 5 (0, 0))
  zN : ∀ v ∈ lN, ∃ g, v = .slice (some ⟨g, 0, none⟩) 64 64 ∧ w.heap.size ≤ g ∧ wr.heap[g]? = some (.cells (secC zeroS) 5 (0, 0))
  ne : ∀ k, (Value.slice aS jS cS).ownBlock = some k → (Value.slice aN jN cN).ownBlock ≠ some k
  pw : w.heap.size ≤ p ∧ w.heap.size ≤ wb
section
variable {w wr : World} {n p wb jS jN : Nat} {aS aN : Option Addr} {cS cN : Nat} {lS lN : List Value}
theorem row_block {w : World} {base : Nat} {a : Option Addr} {c n : Nat} {l : List Value} (h : w.ownsRow base 42 1 (.slice a n c) n l) {k : Nat} (hk : (Value.slice a n c).ownBlock = some k) : base ≤ k ∧ k < w.heap.size ∧ ∃ cs, w.heap[k]? = some (.cells cs 42 (0, 0)) := by
  obtain ⟨_, ⟨e, _⟩ | ⟨g, cap', cur, e, hb, hg, _⟩⟩ := h
  · rw [e] at hk; cases hk
  · rw [e] at hk; cases hk; exact ⟨hb, lt_of_heap hg, cur, hg⟩
/-- The world in which a row gets one more. -/
def addW (wr : World) : World := ((wr.alloc (.cells (secC zeroS) 5)).alloc (.cells #[.slice (some ⟨wr.heap.size, 0, none⟩) 64 64] 42)).drew
theorem addW_old {b : Nat} (h : b < wr.heap.size) : (addW wr).heap[b]? = wr.heap[b]? := by
  show ((wr.alloc _).alloc _).heap[b]? = _
  rw [heap_alloc_lt (by simp; omega), heap_alloc_lt h]
theorem addW_below : Below wr.heap.size wr (addW wr) := (Below.step (Below.new _ _) (Below.new _ _)).drew
theorem addW_size : (addW wr).heap.size = wr.heap.size + 2 := by
  show ((wr.alloc _).alloc _).heap.size = _
  simp
theorem addW_zero : (addW wr).heap[wr.heap.size]? = some (.cells (secC zeroS) 5 (0, 0)) := by
  show ((wr.alloc _).alloc _).heap[wr.heap.size]? = _
  rw [heap_alloc_lt (by simp)]
  exact heap_alloc_new _ _
theorem addW_cell : (addW wr).cell? ⟨wr.heap.size + 1, 0, none⟩ = some (.slice (some ⟨wr.heap.size, 0, none⟩) 64 64) := by
  have h := cell_new (wr.alloc (.cells (secC zeroS) 5)) #[.slice (some ⟨wr.heap.size, 0, none⟩) 64 64] 42 0
  rw [World.size_alloc] at h
  exact h
theorem row_kept {w w' : World} {base : Nat} {a : Option Addr} {c n : Nat} {l : List Value} (h : w.ownsRow base 42 1 (.slice a n c) n l) (hb : ∀ k, (Value.slice a n c).ownBlock = some k → w'.heap[k]? = w.heap[k]?) : w'.ownsRow base 42 1 (.slice a n c) n l := by
  obtain ⟨hl, ⟨e, h0⟩ | ⟨g, cap', cur, e, hbg, hg, r⟩⟩ := h
  · exact ⟨hl, .inl ⟨e, h0⟩⟩
  · exact ⟨hl, .inr ⟨g, cap', cur, e, hbg, (hb g (by rw [e]; rfl)).trans hg, r⟩⟩
theorem setCell_type {w : World} {g o : Nat} {v : Value} {b : Nat} {t : TypeId} (h : ∃ cs, w.heap[b]? = some (.cells cs t (0, 0))) : ∃ cs, (w.setCell ⟨g, o, none⟩ v).heap[b]? = some (.cells cs t (0, 0)) := by
  obtain ⟨cs, h⟩ := h
  by_cases e : b = g
  · subst e
    exact ⟨_, heap_setCell_same _ _ _ _ _ _ h⟩
  · exact ⟨cs, (RowKit.Below.heap_setCell _ _ _ _ e).trans h⟩
set_option maxRecDepth 10000 in
theorem Rows2.stepS (h : Rows2 w wr n p wb jS jN aS cS aN cN lS lN) (hn : jS ≤ 4096) (ty : TypeId) : ∃ b' c' w', (Builtin.append_ #[94, 94] ty #[.slice aS jS cS, .slice (some ⟨wr.heap.size + 1, 0, none⟩) 1 1]).run Try.prog (addW wr) = .ok (.slice (some ⟨b', 0, none⟩) (jS + 1) c') w' ∧
    w'.cell? ⟨p, 0, none⟩ = some (.slice aS jS cS) ∧ w'.frozen? ⟨p, 0, none⟩ = false ∧
    Rows2 w (w'.setCell ⟨p, 0, none⟩ (.slice (some ⟨b', 0, none⟩) (jS + 1) c')) n p wb (jS + 1) jN (some ⟨b', 0, none⟩) c' aN cN (lS ++ [.slice (some ⟨wr.heap.size, 0, none⟩) 64 64]) lN := by
  have hbw := h.be.size
  have hS : (addW wr).ownsRow w.heap.size 42 1 (.slice aS jS cS) jS lS := row_kept h.S fun k hk => addW_old (row_block h.S hk).2.1
  have hN : (addW wr).ownsRow w.heap.size 42 1 (.slice aN jN cN) jN lN := row_kept h.N fun k hk => addW_old (row_block h.N hk).2.1
  obtain ⟨b', c', w', h1, h2, h3, h4⟩ := run_append_row hS (by rw [addW_size]; omega) hn (g := wr.heap.size + 1) (c2 := 1) rfl addW_cell ty
  obtain ⟨pc, hpc⟩ := h.hp
  obtain ⟨wc, hwc⟩ := h.hw
  have hpl := lt_of_heap hpc
  have hwl := lt_of_heap hwc
  -- blocks that were there and are not the row's own are as they were
  have keep : ∀ b, b < wr.heap.size → (Value.slice aS jS cS).ownBlock ≠ some b → w'.heap[b]? = wr.heap[b]? := fun b hb hne => (h3.block b (by rw [addW_size]; omega) (fun e => hne e.symm)).trans (addW_old hb)
  have hneP : (Value.slice aS jS cS).ownBlock ≠ some p := fun e => by
    obtain ⟨_, _, cs, hc⟩ := row_block h.S e
    rw [hpc] at hc
    simp at hc
  have hneW : (Value.slice aS jS cS).ownBlock ≠ some wb := fun e => by
    obtain ⟨_, _, cs, hc⟩ := row_block h.S e
    rw [hwc] at hc
    simp at hc
  have hneZ : ∀ g, wr.heap[g]? = some (.cells (secC zeroS) 5 (0, 0)) → (Value.slice aS jS cS).ownBlock ≠ some g := fun g hg e => by
    obtain ⟨_, _, cs, hc⟩ := row_block h.S e
    rw [hg] at hc
    simp at hc
  have kp := keep p hpl hneP
  have kw := keep wb hwl hneW
  have hcP : ∀ i, w'.cell? ⟨p, i, none⟩ = wr.cell? ⟨p, i, none⟩ := fun i => World.cell?_of_block kp
  have hcW : ∀ i, w'.cell? ⟨wb, i, none⟩ = wr.cell? ⟨wb, i, none⟩ := fun i => World.cell?_of_block kw
  have hfP : ∀ i, w'.frozen? ⟨p, i, none⟩ = false := fun i => by unfold World.frozen?; simp only [kp, hpc]; simp
  have hpwb : p ≠ wb := fun e => by rw [e, hwc] at hpc; simp at hpc
  have hnb' : b' ≠ p ∧ b' ≠ wb := by
    rcases h4 with h4 | h4
    · exact ⟨fun e => hneP (by rw [h4, e]), fun e => hneW (by rw [h4, e])⟩
    · rw [addW_size] at h4
      exact ⟨by omega, by omega⟩
  have hbe' : Below w.heap.size w w' := (Below.step h.be addW_below).grown h3 (by rw [addW_size]; omega) (fun k hk => (row_block h.S hk).1)
  refine ⟨b', c', w', h1, (hcP 0).trans h.c0, hfP 0, ?_⟩
  have sc : ∀ {i : Nat} {v : Value}, i ≠ 0 → wr.cell? ⟨p, i, none⟩ = some v → (w'.setCell ⟨p, 0, none⟩ (.slice (some ⟨b', 0, none⟩) (jS + 1) c')).cell? ⟨p, i, none⟩ = some v := fun hi hc => by
    rw [World.cell?_setCell_other _ _ _ _ (fun e => hi (by injection e with _ h2 _; exact h2.symm))]
    exact (hcP _).trans hc
  have oth : ∀ {b : Nat}, b ≠ p → (w'.setCell ⟨p, 0, none⟩ (.slice (some ⟨b', 0, none⟩) (jS + 1) c')).heap[b]? = w'.heap[b]? := fun hb => RowKit.Below.heap_setCell _ _ _ _ hb
  refine ⟨hbe'.setCell (p := ⟨p, 0, none⟩) h.pw.1 _, World.cell?_setCell_same _ _ _ ((hcP 0).trans h.c0), sc (by omega) h.c1, sc (by omega) h.c2, sc (by omega) h.c3, sc (by omega) h.c4, sc (by omega) h.c5, sc (by omega) h.c6,
    setCell_type ⟨pc, kp.trans hpc⟩, setCell_type ⟨wc, kw.trans hwc⟩, ?_, ?_, ?_, ?_, ?_, ?_, h.pw⟩
  · intro i hi
    obtain ⟨f1, f2⟩ := h.fl i hi
    have hk := (oth (fun e => hpwb e.symm)).trans kw
    exact ⟨by unfold World.frozen? at f1 ⊢; simp only [hk]; exact f1, (World.cell?_of_block hk).trans f2⟩
  · exact row_kept h2 fun k hk => oth (by cases hk; exact hnb'.1)
  · refine row_kept hN fun k hk => ?_
    obtain ⟨_, hkl, cs, hcs⟩ := row_block h.N hk
    have hkp : k ≠ p := fun e => by rw [e, hpc] at hcs; simp at hcs
    exact (oth hkp).trans ((keep k hkl (fun e => h.ne k e hk)).trans (addW_old hkl).symm)
  · intro v hv
    rcases List.mem_append.1 hv with hv | hv
    · obtain ⟨g, e, hg1, hg2⟩ := h.zS v hv
      have hgp : g ≠ p := fun e => by rw [e, hpc] at hg2; simp at hg2
      exact ⟨g, e, hg1, (oth hgp).trans ((keep g (lt_of_heap hg2) (hneZ g hg2)).trans hg2)⟩
    · simp at hv
      subst hv
      refine ⟨wr.heap.size, rfl, hbw, (oth (by omega)).trans ?_⟩
      have hne : (Value.slice aS jS cS).ownBlock ≠ some wr.heap.size := fun e => by have := (row_block h.S e).2.1; omega
      exact (h3.block _ (by rw [addW_size]; omega) (fun e => hne e.symm)).trans addW_zero
  · intro v hv
    obtain ⟨g, e, hg1, hg2⟩ := h.zN v hv
    have hgp : g ≠ p := fun e => by rw [e, hpc] at hg2; simp at hg2
    exact ⟨g, e, hg1, (oth hgp).trans ((keep g (lt_of_heap hg2) (hneZ g hg2)).trans hg2)⟩
  · intro k hk hN'
    obtain rfl : b' = k := by injection hk
    rcases h4 with h4 | h4
    · exact h.ne b' h4 hN'
    · have := (row_block h.N hN').2.1
      rw [addW_size] at h4
      omega
set_option maxRecDepth 10000 in
theorem Rows2.stepN (h : Rows2 w wr n p wb jS jN aS cS aN cN lS lN) (hn : jN ≤ 4096) (ty : TypeId) : ∃ b' c' w', (Builtin.append_ #[94, 94] ty #[.slice aN jN cN, .slice (some ⟨wr.heap.size + 1, 0, none⟩) 1 1]).run Try.prog (addW wr) = .ok (.slice (some ⟨b', 0, none⟩) (jN + 1) c') w' ∧
    w'.cell? ⟨p, 1, none⟩ = some (.slice aN jN cN) ∧ w'.frozen? ⟨p, 1, none⟩ = false ∧
    Rows2 w (w'.setCell ⟨p, 1, none⟩ (.slice (some ⟨b', 0, none⟩) (jN + 1) c')) n p wb jS (jN + 1) aS cS (some ⟨b', 0, none⟩) c' lS (lN ++ [.slice (some ⟨wr.heap.size, 0, none⟩) 64 64]) := by
  have hbw := h.be.size
  have hS : (addW wr).ownsRow w.heap.size 42 1 (.slice aN jN cN) jN lN := row_kept h.N fun k hk => addW_old (row_block h.N hk).2.1
  have hN : (addW wr).ownsRow w.heap.size 42 1 (.slice aS jS cS) jS lS := row_kept h.S fun k hk => addW_old (row_block h.S hk).2.1
  obtain ⟨b', c', w', h1, h2, h3, h4⟩ := run_append_row hS (by rw [addW_size]; omega) hn (g := wr.heap.size + 1) (c2 := 1) rfl addW_cell ty
  obtain ⟨pc, hpc⟩ := h.hp
  obtain ⟨wc, hwc⟩ := h.hw
  have hpl := lt_of_heap hpc
  have hwl := lt_of_heap hwc
  -- blocks that were there and are not the row's own are as they were
  have keep : ∀ b, b < wr.heap.size → (Value.slice aN jN cN).ownBlock ≠ some b → w'.heap[b]? = wr.heap[b]? := fun b hb hne => (h3.block b (by rw [addW_size]; omega) (fun e => hne e.symm)).trans (addW_old hb)
  have hneP : (Value.slice aN jN cN).ownBlock ≠ some p := fun e => by
    obtain ⟨_, _, cs, hc⟩ := row_block h.N e
    rw [hpc] at hc
    simp at hc
  have hneW : (Value.slice aN jN cN).ownBlock ≠ some wb := fun e => by
    obtain ⟨_, _, cs, hc⟩ := row_block h.N e
    rw [hwc] at hc
    simp at hc
  have hneZ : ∀ g, wr.heap[g]? = some (.cells (secC zeroS) 5 (0, 0)) → (Value.slice aN jN cN).ownBlock ≠ some g := fun g hg e => by
    obtain ⟨_, _, cs, hc⟩ := row_block h.N e
    rw [hg] at hc
    simp at hc
  have kp := keep p hpl hneP
  have kw := keep wb hwl hneW
  have hcP : ∀ i, w'.cell? ⟨p, i, none⟩ = wr.cell? ⟨p, i, none⟩ := fun i => World.cell?_of_block kp
  have hcW : ∀ i, w'.cell? ⟨wb, i, none⟩ = wr.cell? ⟨wb, i, none⟩ := fun i => World.cell?_of_block kw
  have hfP : ∀ i, w'.frozen? ⟨p, i, none⟩ = false := fun i => by unfold World.frozen?; simp only [kp, hpc]; simp
  have hpwb : p ≠ wb := fun e => by rw [e, hwc] at hpc; simp at hpc
  have hnb' : b' ≠ p ∧ b' ≠ wb := by
    rcases h4 with h4 | h4
    · exact ⟨fun e => hneP (by rw [h4, e]), fun e => hneW (by rw [h4, e])⟩
    · rw [addW_size] at h4
      exact ⟨by omega, by omega⟩
  have hbe' : Below w.heap.size w w' := (Below.step h.be addW_below).grown h3 (by rw [addW_size]; omega) (fun k hk => (row_block h.N hk).1)
  refine ⟨b', c', w', h1, (hcP 1).trans h.c1, hfP 1, ?_⟩
  have sc : ∀ {i : Nat} {v : Value}, i ≠ 1 → wr.cell? ⟨p, i, none⟩ = some v → (w'.setCell ⟨p, 1, none⟩ (.slice (some ⟨b', 0, none⟩) (jN + 1) c')).cell? ⟨p, i, none⟩ = some v := fun hi hc => by
    rw [World.cell?_setCell_other _ _ _ _ (fun e => hi (by injection e with _ h2 _; exact h2.symm))]
    exact (hcP _).trans hc
  have oth : ∀ {b : Nat}, b ≠ p → (w'.setCell ⟨p, 1, none⟩ (.slice (some ⟨b', 0, none⟩) (jN + 1) c')).heap[b]? = w'.heap[b]? := fun hb => RowKit.Below.heap_setCell _ _ _ _ hb
  refine ⟨hbe'.setCell (p := ⟨p, 1, none⟩) h.pw.1 _, sc (by omega) h.c0, World.cell?_setCell_same _ _ _ ((hcP 1).trans h.c1), sc (by omega) h.c2, sc (by omega) h.c3, sc (by omega) h.c4, sc (by omega) h.c5, sc (by omega) h.c6,
    setCell_type ⟨pc, kp.trans hpc⟩, setCell_type ⟨wc, kw.trans hwc⟩, ?_, ?_, ?_, ?_, ?_, ?_, h.pw⟩
  · intro i hi
    obtain ⟨f1, f2⟩ := h.fl i hi
    have hk := (oth (fun e => hpwb e.symm)).trans kw
    exact ⟨by unfold World.frozen? at f1 ⊢; simp only [hk]; exact f1, (World.cell?_of_block hk).trans f2⟩
  · refine row_kept hN fun k hk => ?_
    obtain ⟨_, hkl, cs, hcs⟩ := row_block h.S hk
    have hkp : k ≠ p := fun e => by rw [e, hpc] at hcs; simp at hcs
    exact (oth hkp).trans ((keep k hkl (fun e => h.ne k hk e)).trans (addW_old hkl).symm)
  · exact row_kept h2 fun k hk => oth (by cases hk; exact hnb'.1)
  · intro v hv
    obtain ⟨g, e, hg1, hg2⟩ := h.zS v hv
    have hgp : g ≠ p := fun e => by rw [e, hpc] at hg2; simp at hg2
    exact ⟨g, e, hg1, (oth hgp).trans ((keep g (lt_of_heap hg2) (hneZ g hg2)).trans hg2)⟩
  · intro v hv
    rcases List.mem_append.1 hv with hv | hv
    · obtain ⟨g, e, hg1, hg2⟩ := h.zN v hv
      have hgp : g ≠ p := fun e => by rw [e, hpc] at hg2; simp at hg2
      exact ⟨g, e, hg1, (oth hgp).trans ((keep g (lt_of_heap hg2) (hneZ g hg2)).trans hg2)⟩
    · simp at hv
      subst hv
      refine ⟨wr.heap.size, rfl, hbw, (oth (by omega)).trans ?_⟩
      have hne : (Value.slice aN jN cN).ownBlock ≠ some wr.heap.size := fun e => by have := (row_block h.N e).2.1; omega
      exact (h3.block _ (by rw [addW_size]; omega) (fun e => hne e.symm)).trans addW_zero
  · intro k hk hN'
    obtain rfl : b' = k := by injection hN'
    rcases h4 with h4 | h4
    · exact h.ne b' hk h4
    · have := (row_block h.S hk).2.1
      rw [addW_size] at h4
      omega
end
end Go.Proofs.Ytdhidcoglioalaa.Walks
