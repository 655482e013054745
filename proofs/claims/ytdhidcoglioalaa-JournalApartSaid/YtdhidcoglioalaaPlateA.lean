/-
  The walks of a plate's calls that only read.
-/
import Derived.Test.YtdhidcoglioalaaPlateM
namespace Go.Proofs.Ytdhidcoglioalaa.Walks
open Go.RowKit Plain
set_option linter.unusedVariables false
attribute [local go_sem ↓] exec_load88 exec_store88 exec_alloc88
attribute [local go_sem] isPt_mk adOf_mk isSec_mk sOf_mk alloc_setCells is_new at_new room_new is_past at_past room_past is_drew at_drew room_drew setCells_past setCells_size setCells_drew

abbrev pv (q : PLoc) : Value := .pointer (some ⟨q.p, 0, none⟩)
theorem may_any (w : World) (q : PLoc) (P : Pl) (h : PlateAt w q P) : Calls Try.prog 43 #[pv q] w fun e w' => e = .returned (.int .i64 P.may) ∧ w = w' := by
  have hn : ((P.n : Int) == 0) = false := by have := h.ok.pos; simp; omega
  have c0 := h.c0
  have c2 := h.c2
  unfold Pl.may
  have H := Lib.hid h
  clear h
  cases hd : P.dead
  · rw [hd] at c2
    go_enter Try.func43, Try.ntmps43
    go_wp2
    go_ret
    exact ⟨by simp, rfl⟩
  · rw [hd] at c2
    go_enter Try.func43, Try.ntmps43
    go_wp2
    go_ret
    exact ⟨by simp, rfl⟩
theorem has_any (w : World) (q : PLoc) (P : Pl) (h : PlateAt w q P) (i : Int) : Calls Try.prog 49 #[pv q, .int .i64 i] w fun e w' => e = .returned (.int .i64 (P.has i)) ∧ w = w' := by
  have c0 := h.c0
  have hc := may_any w q P h
  have H := Lib.hid h
  clear h
  unfold Pl.may at hc
  unfold Pl.has
  obtain ⟨d, hd⟩ : ∃ d, d = P.dead := ⟨_, rfl⟩
  obtain ⟨n, hn⟩ : ∃ n, n = P.n := ⟨_, rfl⟩
  rw [← hn] at c0
  rw [← hd] at hc
  rw [← hd, ← hn]
  clear hd hn
  cases d
  · simp only [Bool.false_eq_true, if_false] at hc ⊢
    have HC := Lib.hid hc
    clear hc
    by_cases h1 : i < 0
    · go_enter Try.func49, Try.ntmps49
      go_wp2_with fail
      refine Calls.mono HC.out ?_
      rintro e w' ⟨rfl, rfl⟩
      go_wp2
      go_ret
      exact ⟨rfl, rfl⟩
    · by_cases h2 : (n : Int) ≤ i
      · go_enter Try.func49, Try.ntmps49
        go_wp2_with fail
        refine Calls.mono HC.out ?_
        rintro e w' ⟨rfl, rfl⟩
        go_wp2
        go_ret
        exact ⟨rfl, rfl⟩
      · go_enter Try.func49, Try.ntmps49
        go_wp2_with fail
        refine Calls.mono HC.out ?_
        rintro e w' ⟨rfl, rfl⟩
        go_wp2
        go_ret
        exact ⟨rfl, rfl⟩
  · simp only [if_true] at hc ⊢
    have HC := Lib.hid hc
    clear hc
    go_enter Try.func49, Try.ntmps49
    go_wp2_with fail
    refine Calls.mono HC.out ?_
    rintro e w' ⟨rfl, rfl⟩
    go_wp2
    go_ret
    exact ⟨rfl, rfl⟩
theorem res51 (W : World) (o : Obj) (s : Sec) (tmps : Array Value) (ht : tmps.getD 4 undef = .pointer (some ⟨W.heap.size, 0, none⟩)) :
    (results Try.f51 tmps).run Try.prog ((W.alloc (.cells (secC s) 88)).alloc o) = .ok (secV s) ((W.alloc (.cells (secC s) 88)).alloc o) :=
  results_cell_row (p := 4) (ty := 88) rfl tmps _ W.heap.size 88 (secC s) (0, 0) _ ht ((heap_alloc_lt (by simp)).trans (heap_alloc_new _ _)) Try.underlying88 rfl (by rw [secC_size]; exact z88)
set_option maxRecDepth 10000 in
theorem seen_any (w : World) (q : PLoc) (P : Pl) (h : PlateAt w q P) (i : Nat) (hi : i < P.n) : Calls Try.prog 51 #[pv q, .int .i64 i] w fun e w' => e = .returned (secV (P.seen i)) ∧ Below w.heap.size w w' := by
  have hwf : Wf (i : Int) := Wf.of (by omega) (by have := h.ok.most; omega)
  have c0 := h.c0
  have c1 := h.c1
  have hl := h.mp.look (w := w) (t := 60) (e := 88) true Try.underlying60 (zero88 _) hwf
  have hm : wmap P.waits (i : Int) = (P.waits i).map secV := by unfold wmap; simp
  rw [hm] at hl
  have hs := h.sec hi
  obtain ⟨n, hn⟩ : ∃ n, n = P.n := ⟨_, rfl⟩
  rw [← hn] at c0
  have HI := Lib.hid hi
  have hi' : i < n := by omega
  have hp := h.lt _ q.inP
  have hsb := h.lt _ q.inS
  have hsb1 : q.sb < w.heap.size + 1 := by omega
  have hac := hs.atC
  have his := hs.is
  have H := Lib.hid h
  clear h hl hi hn hs
  cases hx : P.waits i with
  | some x =>
    have hl2 : (Instr.lookup 60 (.map (some q.mb)) (.int .i64 (i : Int)) true).run Try.prog (w.alloc (.cells (secC zeroS) 88)) = .ok (.tuple #[secV x, .bool true]) (w.alloc (.cells (secC zeroS) 88)) := by
      have := (H.out.alloc (.cells (secC zeroS) 88)).mp.look (t := 60) (e := 88) true Try.underlying60 (zero88 _) hwf
      rw [hm, hx] at this
      exact this
    have es : P.seen i = x := by unfold Pl.seen; rw [hx]; rfl
    rw [es]
    clear es hx hm
    go_enter Try.func51, Try.ntmps51
    go_wp2
    refine bodyPost_ret (res51 _ _ _ _ rfl) rfl ?_
    exact ⟨rfl, Below.step (Below.new _ _) (Below.new _ _)⟩
  | none =>
    have hl2 : (Instr.lookup 60 (.map (some q.mb)) (.int .i64 (i : Int)) true).run Try.prog (w.alloc (.cells (secC zeroS) 88)) = .ok (.tuple #[secV zeroS, .bool false]) (w.alloc (.cells (secC zeroS) 88)) := by
      have := (H.out.alloc (.cells (secC zeroS) 88)).mp.look (t := 60) (e := 88) true Try.underlying60 (zero88 _) hwf
      rw [hm, hx] at this
      exact this
    have es : P.seen i = P.stays i := by unfold Pl.seen; rw [hx]; rfl
    rw [es]
    clear es hx hm
    go_enter Try.func51, Try.ntmps51
    go_wp2
    refine bodyPost_ret (res51 _ _ _ _ rfl) rfl ?_
    exact ⟨rfl, Below.step (Below.new _ _) (Below.new _ _)⟩
theorem has_nz {P : Pl} {i : Int} (h : P.has i ≠ 0) : (P.has i != 0) = true := by simpa using h
/-- A sector's bytes in memory of their own, as a slice. -/
def BytesAt (w : World) (v : Value) (s : Sec) : Prop := ∃ g, v = .slice (some ⟨g, 0, none⟩) 64 64 ∧ w.heap[g]? = some (.cells (secC s) 88 (0, 0))
set_option maxRecDepth 10000 in
theorem read_ok (w : World) (q : PLoc) (P : Pl) (h : PlateAt w q P) (k : Nat) (hk : k < P.n) (hd : P.dead = false) : Calls Try.prog 28 #[pv q, .int .i64 k] w fun e w' => Below w.heap.size w w' ∧
    ∃ g, e = .returned (.tuple #[.slice (some ⟨g, 0, none⟩) 64 64, .int .i64 0]) ∧ w.heap.size ≤ g ∧ w'.heap[g]? = some (.cells (secC (P.seen k)) 88 (0, 0)) := by
  have hc := has_any w q P h k
  have h0 : P.has k = 0 := by unfold Pl.has; rw [hd, if_neg (by simp), if_neg (by omega)]
  have hs := seen_any w q P h k hk
  rw [h0] at hc
  have HC := Lib.hid hc
  have HS := Lib.hid hs
  clear hc hs h h0 hk hd
  go_enter Try.func28, Try.ntmps28
  go_wp2_with fail
  refine Calls.mono HC.out ?_
  rintro e w' ⟨rfl, rfl⟩
  go_wp2_with fail
  refine Calls.mono HS.out ?_
  rintro e w' ⟨rfl, hb⟩
  have HB := Lib.hid hb
  clear hb
  go_wp2
  refine bodyPost_ret (results_tmp2 rfl _ _ _) rfl ?_
  refine ⟨Below.step HB.out (Below.new _ _), _, rfl, HB.out.size, heap_alloc_new _ _⟩
theorem read_no (w : World) (q : PLoc) (P : Pl) (h : PlateAt w q P) (i : Int) (h0 : P.has i ≠ 0) : Calls Try.prog 28 #[pv q, .int .i64 i] w fun e w' => e = .returned (.tuple #[.slice none 0 0, .int .i64 (P.has i)]) ∧ w = w' := by
  have hc := has_any w q P h i
  have hq := has_nz h0
  obtain ⟨z, hz⟩ : ∃ z, z = P.has i := ⟨_, rfl⟩
  rw [← hz] at hc hq ⊢
  have HC := Lib.hid hc
  clear hc h hz h0
  go_enter Try.func28, Try.ntmps28
  go_wp2_with fail
  refine Calls.mono HC.out ?_
  rintro e w' ⟨rfl, rfl⟩
  go_wp2
  refine bodyPost_ret (results_tmp2 rfl _ _ _) rfl ?_
  exact ⟨rfl, rfl⟩
theorem size_any (w : World) (q : PLoc) (P : Pl) (h : PlateAt w q P) : Calls Try.prog 32 #[pv q] w fun e w' => e = .returned (.int .i64 P.n) ∧ w = w' := by
  have hc := may_any w q P h
  have c0 := h.c0
  have hq : (P.may == 1) = false := by unfold Pl.may; split <;> rfl
  obtain ⟨z, hz⟩ : ∃ z, z = P.may := ⟨_, rfl⟩
  rw [← hz] at hc hq
  have HC := Lib.hid hc
  clear hc h hz
  go_enter Try.func32, Try.ntmps32
  go_wp2_with fail
  refine Calls.mono HC.out ?_
  rintro e w' ⟨rfl, rfl⟩
  go_wp2
  go_ret
  exact ⟨rfl, rfl⟩
theorem dead_any (w : World) (q : PLoc) (P : Pl) (h : PlateAt w q P) : Calls Try.prog 25 #[pv q] w fun e w' => e = .returned (.bool P.dead) ∧ w = w' := by
  have hc := may_any w q P h
  have hq : (P.may == 50) = P.dead := by unfold Pl.may; cases P.dead <;> rfl
  obtain ⟨z, hz⟩ : ∃ z, z = P.may := ⟨_, rfl⟩
  rw [← hz] at hc hq
  rw [← hq]
  have HC := Lib.hid hc
  clear hc h hz hq
  go_enter Try.func25, Try.ntmps25
  go_wp2_with fail
  refine Calls.mono HC.out ?_
  rintro e w' ⟨rfl, rfl⟩
  go_wp2
  go_ret
  exact ⟨rfl, rfl⟩
theorem boot_any (w : World) (q : PLoc) (P : Pl) (h : PlateAt w q P) : Calls Try.prog 18 #[pv q] w fun e w' => e = .returned (.int .i64 0) ∧ PlateAt w' q P.boot ∧ Only q.R w w' := by
  have hc := may_any w q P h
  have hq : (P.may == 1) = false := by unfold Pl.may; split <;> rfl
  obtain ⟨z, hz⟩ : ∃ z, z = P.may := ⟨_, rfl⟩
  rw [← hz] at hc hq
  have c2 := h.c2
  have c3 := h.c3
  have f2 := h.fz 2
  have f3 := h.fz 3
  have HC := Lib.hid hc
  have H := Lib.hid h
  clear hc h hz
  go_enter Try.func18, Try.ntmps18
  go_wp2_with fail
  refine Calls.mono HC.out ?_
  rintro e w' ⟨rfl, rfl⟩
  go_wp2
  go_ret
  have h1 := H.out.setCell (i := 2) (v := .bool false) (by omega) { P with dead := false } rfl rfl rfl rfl ⟨H.out.ok.pos, H.out.ok.most, H.out.ok.waits, H.out.ok.left⟩ (by simp) (by simp) (by simp) (by simp)
  have h2 := h1.setCell (i := 3) (v := .bool false) (by omega) P.boot rfl rfl rfl rfl H.out.ok.boot (by simp [Pl.boot]) (by simp [Pl.boot]) (by simp [Pl.boot]) (by simp)
  exact ⟨rfl, h2, ((Only.refl _ _).setCell q.inP _).setCell q.inP _⟩
end Go.Proofs.Ytdhidcoglioalaa.Walks
