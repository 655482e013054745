/-
  A journal in memory, on its plate.
-/
import Derived.Test.YtdhidcoglioalaaJD
import Derived.Test.YtdhidcoglioalaaPlateF
namespace Go.Proofs.Ytdhidcoglioalaa.Walks
open Go.RowKit Plain
set_option linter.unusedVariables false

structure JLoc where
  p : Nat
  m : Nat
def EB (v : Value) : Prop := ∃ b, Flat b ∧ v = blkV b
/-- What is pending, as the map tells it. -/
def pmap (f : Nat → Option Blk) (x : Int) : Option Value := if 0 ≤ x then (f x.toNat).map blkV else none
abbrev jv (j : JLoc) : Value := .pointer (some ⟨j.p, 0, none⟩)
structure JAt (w : World) (j : JLoc) (q : PLoc) (J : Jn) : Prop where
  c0 : w.cell? ⟨j.p, 0, none⟩ = some (pv q)
  c1 : w.cell? ⟨j.p, 1, none⟩ = some (.int .i64 J.log)
  c2 : w.cell? ⟨j.p, 2, none⟩ = some (.int .i64 J.head)
  c3 : w.cell? ⟨j.p, 3, none⟩ = some (.int .i64 J.at_)
  c4 : w.cell? ⟨j.p, 4, none⟩ = some (.int .i64 J.used)
  c5 : w.cell? ⟨j.p, 5, none⟩ = some (.int .i64 J.turn)
  c6 : w.cell? ⟨j.p, 6, none⟩ = some (.map (some j.m))
  c7 : w.cell? ⟨j.p, 7, none⟩ = some (.bool J.broken)
  fz : ∀ i, w.frozen? ⟨j.p, i, none⟩ = false
  mp : IM EB w j.m (pmap J.pend)
/-- A journal and its plate. -/
structure JP (w : World) (j : JLoc) (q : PLoc) (J : Jn) (P : Pl) : Prop where
  pl : PlateAt w q P
  jn : JAt w j q J
  ok : J.Ok P.n
  bp : j.p ∈ q.ban
  bm : j.m ∈ q.ban
  np : j.p ∉ q.R
  nm : j.m ∉ q.R
def JLoc.R (j : JLoc) (q : PLoc) : List Nat := j.p :: j.m :: q.R
section
variable {w w' : World} {j : JLoc} {q : PLoc} {J J' : Jn} {P P' : Pl}
theorem JLoc.inP : j.p ∈ j.R q := by simp [JLoc.R]
theorem JLoc.inM : j.m ∈ j.R q := by simp [JLoc.R]
theorem JLoc.inQ {b : Nat} (h : b ∈ q.R) : b ∈ j.R q := by simp [JLoc.R, h]
theorem JAt.ltP (h : JAt w j q J) : j.p < w.heap.size := block_lt_of_cell h.c0
theorem JAt.ne (h : JAt w j q J) : j.p ≠ j.m := fun e => by
  have := h.mp.nocell ⟨j.p, 0, none⟩ e
  rw [h.c0] at this
  cases this
theorem JAt.same (h : JAt w j q J) (hp : w'.heap[j.p]? = w.heap[j.p]?) (hm : w'.heap[j.m]? = w.heap[j.m]?) : JAt w' j q J := by
  have hc : ∀ o, w'.cell? ⟨j.p, o, none⟩ = w.cell? ⟨j.p, o, none⟩ := fun o => World.cell?_of_block hp
  exact ⟨(hc _).trans h.c0, (hc _).trans h.c1, (hc _).trans h.c2, (hc _).trans h.c3, (hc _).trans h.c4, (hc _).trans h.c5, (hc _).trans h.c6, (hc _).trans h.c7,
    fun i => by rw [show w'.frozen? ⟨j.p, i, none⟩ = w.frozen? ⟨j.p, i, none⟩ by unfold World.frozen?; simp only [hp]]; exact h.fz i, h.mp.block hm⟩
theorem JAt.below (h : JAt w j q J) (hb : Below w.heap.size w w') : JAt w' j q J := h.same (hb.block _ h.ltP) (hb.block _ h.mp.lt)
theorem JAt.only (h : JAt w j q J) {R : List Nat} (ho : Only R w w') (hp : j.p ∉ R) (hm : j.m ∉ R) : JAt w' j q J := h.same (ho.block _ h.ltP hp) (ho.block _ h.mp.lt hm)
theorem JP.lt (h : JP w j q J P) : ∀ b ∈ j.R q, b < w.heap.size := by
  intro b hb
  simp only [JLoc.R, List.mem_cons] at hb
  rcases hb with rfl | rfl | hb
  · exact h.jn.ltP
  · exact h.jn.mp.lt
  · exact h.pl.lt b hb
theorem JP.below (h : JP w j q J P) (hb : Below w.heap.size w w') : JP w' j q J P := ⟨h.pl.below hb, h.jn.below hb, h.ok, h.bp, h.bm, h.np, h.nm⟩
theorem JP.drewN (h : JP w j q J P) (k : Nat) : JP (w.drewN k) j q J P := h.below (below_drewN (Below.refl _ _) k)
theorem JP.drew (h : JP w j q J P) : JP w.drew j q J P := h.drewN 1
theorem JP.alloc (h : JP w j q J P) (o : Obj) : JP (w.alloc o) j q J P := h.below (Below.new _ _)
/-- The plate turns. -/
theorem JP.plate (h : JP w j q J P) (hp : PlateAt w' q P') (ho : Only q.R w w') (hn : P'.n = P.n) : JP w' j q J P' :=
  ⟨hp, h.jn.only ho h.np h.nm, by rw [hn]; exact h.ok, h.bp, h.bm, h.np, h.nm⟩
/-- A cell of the journal turns. -/
theorem JP.setCell (h : JP w j q J P) {i : Nat} {v : Value} (hJ : J'.Ok P.n) (h1 : if i = 1 then v = .int .i64 J'.log else J'.log = J.log) (h2 : if i = 2 then v = .int .i64 J'.head else J'.head = J.head) (h3 : if i = 3 then v = .int .i64 J'.at_ else J'.at_ = J.at_)
    (h4 : if i = 4 then v = .int .i64 J'.used else J'.used = J.used) (h5 : if i = 5 then v = .int .i64 J'.turn else J'.turn = J.turn) (h7 : if i = 7 then v = .bool J'.broken else J'.broken = J.broken) (hi0 : i ≠ 0) (hi6 : i ≠ 6) (hm : J'.pend = J.pend) :
    JP (w.setCell ⟨j.p, i, none⟩ v) j q J' P := by
  have ho : Only [j.p] w (w.setCell ⟨j.p, i, none⟩ v) := (Only.refl _ _).setCell (by simp) _
  have hsome : ∀ {o : Nat} {u : Value}, w.cell? ⟨j.p, o, none⟩ = some u → (w.setCell ⟨j.p, i, none⟩ v).cell? ⟨j.p, o, none⟩ = some (if i = o then v else u) := by
    intro o u hu
    by_cases e : i = o
    · subst e; rw [if_pos rfl]; exact World.cell?_setCell_same _ _ _ hu
    · rw [if_neg e, World.cell?_setCell_other _ _ _ _ (by simp)]; exact hu
  have hn := h.jn
  refine ⟨h.pl.only ho (fun b hb => by simp; exact fun e => h.np (e ▸ hb)) (fun a hd hB => Only.bools ho (fun h0 ad e => by have := (hd h0 ad e).2; simp; exact fun e2 => this (e2 ▸ h.bp)) hB), ⟨?_, ?_, ?_, ?_, ?_, ?_, ?_, ?_, fun k => by rw [World.frozen?_setCell]; exact hn.fz k, ?_⟩, hJ, h.bp, h.bm, h.np, h.nm⟩
  · rw [hsome hn.c0, if_neg hi0]
  · rw [hsome hn.c1]; split at h1 <;> rename_i e
    · rw [if_pos e, h1]
    · rw [if_neg e, h1]
  · rw [hsome hn.c2]; split at h2 <;> rename_i e
    · rw [if_pos e, h2]
    · rw [if_neg e, h2]
  · rw [hsome hn.c3]; split at h3 <;> rename_i e
    · rw [if_pos e, h3]
    · rw [if_neg e, h3]
  · rw [hsome hn.c4]; split at h4 <;> rename_i e
    · rw [if_pos e, h4]
    · rw [if_neg e, h4]
  · rw [hsome hn.c5]; split at h5 <;> rename_i e
    · rw [if_pos e, h5]
    · rw [if_neg e, h5]
  · rw [hsome hn.c6, if_neg hi6]
  · rw [hsome hn.c7]; split at h7 <;> rename_i e
    · rw [if_pos e, h7]
    · rw [if_neg e, h7]
  · rw [hm]
    exact hn.mp.block (ho.block _ hn.mp.lt (by simp; exact fun e => hn.ne e.symm))
/-- What is pending turns. -/
theorem JP.setMap (h : JP w j q J P) (hg : Only [j.m] w w') {f : Nat → Option Blk} (hm : IM EB w' j.m (pmap f)) (hJ : ({ J with pend := f } : Jn).Ok P.n) : JP w' j q { J with pend := f } P := by
  have hn := h.jn
  have hb := hg.block _ hn.ltP (by simp; exact hn.ne)
  have hc : ∀ o, w'.cell? ⟨j.p, o, none⟩ = w.cell? ⟨j.p, o, none⟩ := fun o => World.cell?_of_block hb
  refine ⟨h.pl.only hg (fun b hb => by simp; exact fun e => h.nm (e ▸ hb)) (fun a hd hB => Only.bools hg (fun h0 ad e => by have := (hd h0 ad e).2; simp; exact fun e2 => this (e2 ▸ h.bm)) hB), ?_, hJ, h.bp, h.bm, h.np, h.nm⟩
  exact ⟨(hc _).trans hn.c0, (hc _).trans hn.c1, (hc _).trans hn.c2, (hc _).trans hn.c3, (hc _).trans hn.c4, (hc _).trans hn.c5, (hc _).trans hn.c6, (hc _).trans hn.c7,
    fun i => by rw [show w'.frozen? ⟨j.p, i, none⟩ = w.frozen? ⟨j.p, i, none⟩ by unfold World.frozen?; simp only [hb]]; exact hn.fz i, hm⟩
theorem JP.bound (h : JP w j q J P) : ∀ x, (pmap J.pend x).isSome = true → 0 ≤ x ∧ x < ((P.n - 2 - J.log : Nat) : Int) := by
  intro x hx
  unfold pmap at hx
  by_cases h0 : 0 ≤ x
  · rw [if_pos h0] at hx
    refine ⟨h0, Int.not_le.1 fun hle => ?_⟩
    rw [h.ok.pend x.toNat (by omega)] at hx
    cases hx
  · rw [if_neg h0] at hx; cases hx
theorem pmap_nat (f : Nat → Option Blk) (i : Nat) : pmap f (i : Int) = (f i).map blkV := by unfold pmap; simp
theorem pmap_none : pmap (fun _ => none) = fun _ => none := by
  funext x
  unfold pmap
  split <;> rfl
theorem pmap_upd (f : Nat → Option Blk) (i : Nat) (o : Option Blk) : pmap (upd f i o) = updI (pmap f) (i : Int) (o.map blkV) := by
  funext x
  unfold pmap updI
  by_cases e : x = (i : Int)
  · subst e
    simp [upd_same]
  · rw [if_neg e]
    by_cases h0 : 0 ≤ x
    · simp only [if_pos h0]
      rw [upd_other _ _ (by omega)]
    · simp only [if_neg h0]
/-! ### The small calls -/
def jmay (J : Jn) : Int := if J.broken then 50 else 0
theorem jmay_any (h : JP w j q J P) : Calls Try.prog 68 #[jv j] w fun e w' => e = .returned (.int .i64 (jmay J)) ∧ w = w' := by
  have c0 := h.jn.c0
  have c7 := h.jn.c7
  unfold jmay
  clear h
  cases hd : J.broken
  · rw [hd] at c7
    go_enter Try.func68, Try.ntmps68
    go_wp2
    go_ret
    exact ⟨by simp, rfl⟩
  · rw [hd] at c7
    go_enter Try.func68, Try.ntmps68
    go_wp2
    go_ret
    exact ⟨by simp, rfl⟩
theorem jblocks_any (h : JP w j q J P) : Calls Try.prog 38 #[jv j] w fun e w' => e = .returned (.int .i64 (J.blocks P.n)) ∧ ∃ n, w' = w.drewN n := by
  have hm := jmay_any h
  unfold jmay at hm
  unfold Jn.blocks
  have c0 := h.jn.c0
  have c1 := h.jn.c1
  have hl := h.ok.logn
  have hn4 := h.pl.ok.most
  have HSz := Lib.hid (fun k => size_any (w.drewN k) q P (h.pl.drewN k))
  have H := Lib.hid h
  clear h
  obtain ⟨L, hL⟩ : ∃ L, L = J.log := ⟨_, rfl⟩
  obtain ⟨n, hn⟩ : ∃ n, n = P.n := ⟨_, rfl⟩
  rw [← hL] at c1 hl
  rw [← hn] at hl hn4 HSz
  rw [← hL, ← hn]
  cases hd : J.broken
  · rw [hd] at hm
    have HM := Lib.hid hm
    clear hm hd hL hn
    have e : ((n - 2 - L : Nat) : Int) = (n : Int) - 2 - (L : Int) := by omega
    simp only [Bool.false_eq_true, if_false]
    rw [e]
    clear e
    go_enter Try.func38, Try.ntmps38
    go_wp2_with fail
    refine Calls.mono HM.out ?_
    rintro e w' ⟨rfl, rfl⟩
    go_wp2_with fail
    go_quiet ((go_at_call 32; exact quiet_of_eq (HSz.out _)))
    go_wp2
    go_ret
    exact ⟨rfl, _, rfl⟩
  · rw [hd] at hm
    have HM := Lib.hid hm
    clear hm hd hL hn
    go_enter Try.func38, Try.ntmps38
    go_wp2_with fail
    refine Calls.mono HM.out ?_
    rintro e w' ⟨rfl, rfl⟩
    go_wp2
    go_ret
    exact ⟨by simp, 0, rfl⟩
end
end Go.Proofs.Ytdhidcoglioalaa.Walks
