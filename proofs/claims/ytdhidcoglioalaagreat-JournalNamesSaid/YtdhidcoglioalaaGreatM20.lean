/-
  A journal in memory, on its plate.
  One map's elements are put into another.
  A journal's small calls.
-/
import Derived.Test.YtdhidcoglioalaaGreatM18
import Derived.Test.YtdhidcoglioalaaGreatM10
namespace Go.Proofs.YtdhidcoglioalaaGreat.Walks
open Go.RowKit Plain
set_option linter.unusedVariables false

structure JLoc where
  p : Nat
  m : Nat
def EB (v : Value) : Prop := ∃ b, Flat b ∧ v = blkV b
/-- What is pending, as the map tells it. -/
def pmap (f : Nat → Option Blk) (x : Int) : Option Value := if 0 ≤ x then (f x.toNat).map blkV else none
abbrev jv (j : JLoc) : Value := .pointer (some ⟨j.p, 0, none⟩)
structure JAt (w : World) (j : JLoc) (q : PLoc) (J : Jn) : Prop where
  c0 : w.cell? ⟨j.p, 0, none⟩ = some (pv q)
  c1 : w.cell? ⟨j.p, 1, none⟩ = some (.int .i64 J.log)
  c2 : w.cell? ⟨j.p, 2, none⟩ = some (.int .i64 J.head)
  c3 : w.cell? ⟨j.p, 3, none⟩ = some (.int .i64 J.at_)
  c4 : w.cell? ⟨j.p, 4, none⟩ = some (.int .i64 J.used)
  c5 : w.cell? ⟨j.p, 5, none⟩ = some (.int .i64 J.turn)
  c6 : w.cell? ⟨j.p, 6, none⟩ = some (.map (some j.m))
  c7 : w.cell? ⟨j.p, 7, none⟩ = some (.bool J.broken)
  fz : ∀ i, w.frozen? ⟨j.p, i, none⟩ = false
  mp : IM EB w j.m (pmap J.pend)
/-- A journal and its plate. -/
structure JP (w : World) (j : JLoc) (q : PLoc) (J : Jn) (P : Pl) : Prop where
  pl : PlateAt w q P
  jn : JAt w j q J
  ok : J.Ok P.n
  bp : j.p ∈ q.ban
  bm : j.m ∈ q.ban
  np : j.p ∉ q.R
  nm : j.m ∉ q.R
def JLoc.R (j : JLoc) (q : PLoc) : List Nat := j.p :: j.m :: q.R
section
variable {w w' : World} {j : JLoc} {q : PLoc} {J J' : Jn} {P P' : Pl}
theorem JLoc.inP : j.p ∈ j.R q := by simp [JLoc.R]
theorem JLoc.inM : j.m ∈ j.R q := by simp [JLoc.R]
theorem JLoc.inQ {b : Nat} (h : b ∈ q.R) : b ∈ j.R q := by simp [JLoc.R, h]
theorem JAt.ltP (h : JAt w j q J) : j.p < w.heap.size := block_lt_of_cell h.c0
theorem JAt.ne (h : JAt w j q J) : j.p ≠ j.m := fun e => by
  have := h.mp.nocell ⟨j.p, 0, none⟩ e
  rw [h.c0] at this
  cases this
theorem JAt.same (h : JAt w j q J) (hp : w'.heap[j.p]? = w.heap[j.p]?) (hm : w'.heap[j.m]? = w.heap[j.m]?) : JAt w' j q J := by
  have hc : ∀ o, w'.cell? ⟨j.p, o, none⟩ = w.cell? ⟨j.p, o, none⟩ := fun o => World.cell?_of_block hp
  exact ⟨(hc _).trans h.c0, (hc _).trans h.c1, (hc _).trans h.c2, (hc _).trans h.c3, (hc _).trans h.c4, (hc _).trans h.c5, (hc _).trans h.c6, (hc _).trans h.c7,
    fun i => by rw [show w'.frozen? ⟨j.p, i, none⟩ = w.frozen? ⟨j.p, i, none⟩ by unfold World.frozen?; simp only [hp]]; exact h.fz i, h.mp.block hm⟩
theorem JAt.below (h : JAt w j q J) (hb : Below w.heap.size w w') : JAt w' j q J := h.same (hb.block _ h.ltP) (hb.block _ h.mp.lt)
theorem JAt.only (h : JAt w j q J) {R : List Nat} (ho : Only R w w') (hp : j.p ∉ R) (hm : j.m ∉ R) : JAt w' j q J := h.same (ho.block _ h.ltP hp) (ho.block _ h.mp.lt hm)
theorem JP.lt (h : JP w j q J P) : ∀ b ∈ j.R q, b < w.heap.size := by
  intro b hb
  simp only [JLoc.R, List.mem_cons] at hb
  rcases hb with rfl | rfl | hb
  · exact h.jn.ltP
  · exact h.jn.mp.lt
  · exact h.pl.lt b hb
theorem JP.below (h : JP w j q J P) (hb : Below w.heap.size w w') : JP w' j q J P := ⟨h.pl.below hb, h.jn.below hb, h.ok, h.bp, h.bm, h.np, h.nm⟩
theorem JP.drewN (h : JP w j q J P) (k : Nat) : JP (w.drewN k) j q J P := h.below (below_drewN (Below.refl _ _) k)
theorem JP.drew (h : JP w j q J P) : JP w.drew j q J P := h.drewN 1
theorem JP.alloc (h : JP w j q J P) (o : Obj) : JP (w.alloc o) j q J P := h.below (Below.new _ _)
/-- The plate turns. -/
theorem JP.plate (h : JP w j q J P) (hp : PlateAt w' q P') (ho : Only q.R w w') (hn : P'.n = P.n) : JP w' j q J P' :=
  ⟨hp, h.jn.only ho h.np h.nm, by rw [hn]; exact h.ok, h.bp, h.bm, h.np, h.nm⟩
/-- A cell of the journal turns. -/
theorem JP.setCell (h : JP w j q J P) {i : Nat} {v : Value} (hJ : J'.Ok P.n) (h1 : if i = 1 then v = .int .i64 J'.log else J'.log = J.log) (h2 : if i = 2 then v = .int .i64 J'.head else J'.head = J.head) (h3 : if i = 3 then v = .int .i64 J'.at_ else J'.at_ = J.at_)
    (h4 : if i = 4 then v = .int .i64 J'.used else J'.used = J.used) (h5 : if i = 5 then v = .int .i64 J'.turn else J'.turn = J.turn) (h7 : if i = 7 then v = .bool J'.broken else J'.broken = J.broken) (hi0 : i ≠ 0) (hi6 : i ≠ 6) (hm : J'.pend = J.pend) :
    JP (w.setCell ⟨j.p, i, none⟩ v) j q J' P := by
  have ho : Only [j.p] w (w.setCell ⟨j.p, i, none⟩ v) := (Only.refl _ _).setCell (by simp) _
  have hsome : ∀ {o : Nat} {u : Value}, w.cell? ⟨j.p, o, none⟩ = some u → (w.setCell ⟨j.p, i, none⟩ v).cell? ⟨j.p, o, none⟩ = some (if i = o then v else u) := by
    intro o u hu
    by_cases e : i = o
    · subst e; rw [if_pos rfl]; exact World.cell?_setCell_same _ _ _ hu
    · rw [if_neg e, World.cell?_setCell_other _ _ _ _ (by simp)]; exact hu
  have hn := h.jn
  refine ⟨h.pl.only ho (fun b hb => by simp; exact fun e => h.np (e ▸ hb)) (fun a hd hB => Only.bools ho (fun h0 ad e => by have := (hd h0 ad e).2; simp; exact fun e2 => this (e2 ▸ h.bp)) hB), ⟨?_, ?_, ?_, ?_, ?_, ?_, ?_, ?_, fun k => by rw [World.frozen?_setCell]; exact hn.fz k, ?_⟩, hJ, h.bp, h.bm, h.np, h.nm⟩
  · rw [hsome hn.c0, if_neg hi0]
  · rw [hsome hn.c1]; split at h1 <;> rename_i e
    · rw [if_pos e, h1]
    · rw [if_neg e, h1]
  · rw [hsome hn.c2]; split at h2 <;> rename_i e
    · rw [if_pos e, h2]
    · rw [if_neg e, h2]
  · rw [hsome hn.c3]; split at h3 <;> rename_i e
    · rw [if_pos e, h3]
    · rw [if_neg e, h3]
  · rw [hsome hn.c4]; split at h4 <;> rename_i e
    · rw [if_pos e, h4]
    · rw [if_neg e, h4]
  · rw [hsome hn.c5]; split at h5 <;> rename_i e
    · rw [if_pos e, h5]
    · rw [if_neg e, h5]
  · rw [hsome hn.c6, if_neg hi6]
  · rw [hsome hn.c7]; split at h7 <;> rename_i e
    · rw [if_pos e, h7]
    · rw [if_neg e, h7]
  · rw [hm]
    exact hn.mp.block (ho.block _ hn.mp.lt (by simp; exact fun e => hn.ne e.symm))
/-- What is pending turns. -/
theorem JP.setMap (h : JP w j q J P) (hg : Only [j.m] w w') {f : Nat → Option Blk} (hm : IM EB w' j.m (pmap f)) (hJ : ({ J with pend := f } : Jn).Ok P.n) : JP w' j q { J with pend := f } P := by
  have hn := h.jn
  have hb := hg.block _ hn.ltP (by simp; exact hn.ne)
  have hc : ∀ o, w'.cell? ⟨j.p, o, none⟩ = w.cell? ⟨j.p, o, none⟩ := fun o => World.cell?_of_block hb
  refine ⟨h.pl.only hg (fun b hb => by simp; exact fun e => h.nm (e ▸ hb)) (fun a hd hB => Only.bools hg (fun h0 ad e => by have := (hd h0 ad e).2; simp; exact fun e2 => this (e2 ▸ h.bm)) hB), ?_, hJ, h.bp, h.bm, h.np, h.nm⟩
  exact ⟨(hc _).trans hn.c0, (hc _).trans hn.c1, (hc _).trans hn.c2, (hc _).trans hn.c3, (hc _).trans hn.c4, (hc _).trans hn.c5, (hc _).trans hn.c6, (hc _).trans hn.c7,
    fun i => by rw [show w'.frozen? ⟨j.p, i, none⟩ = w.frozen? ⟨j.p, i, none⟩ by unfold World.frozen?; simp only [hb]]; exact hn.fz i, hm⟩
theorem JP.bound (h : JP w j q J P) : ∀ x, (pmap J.pend x).isSome = true → 0 ≤ x ∧ x < ((P.n - 2 - J.log : Nat) : Int) := by
  intro x hx
  unfold pmap at hx
  by_cases h0 : 0 ≤ x
  · rw [if_pos h0] at hx
    refine ⟨h0, Int.not_le.1 fun hle => ?_⟩
    rw [h.ok.pend x.toNat (by omega)] at hx
    cases hx
  · rw [if_neg h0] at hx; cases hx
theorem pmap_nat (f : Nat → Option Blk) (i : Nat) : pmap f (i : Int) = (f i).map blkV := by unfold pmap; simp
theorem pmap_none : pmap (fun _ => none) = fun _ => none := by
  funext x
  unfold pmap
  split <;> rfl
theorem pmap_upd (f : Nat → Option Blk) (i : Nat) (o : Option Blk) : pmap (upd f i o) = updI (pmap f) (i : Int) (o.map blkV) := by
  funext x
  unfold pmap updI
  by_cases e : x = (i : Int)
  · subst e
    simp [upd_same]
  · rw [if_neg e]
    by_cases h0 : 0 ≤ x
    · simp only [if_pos h0]
      rw [upd_other _ _ (by omega)]
    · simp only [if_neg h0]
/-! ### The small calls -/
def jmay (J : Jn) : Int := if J.broken then 50 else 0
theorem jmay_any (h : JP w j q J P) : Calls Tryz.prog 14 #[jv j] w fun e w' => e = .returned (.int .i64 (jmay J)) ∧ w = w' := by
  have c0 := h.jn.c0
  have c7 := h.jn.c7
  unfold jmay
  clear h
  cases hd : J.broken
  · rw [hd] at c7
    go_enter Tryz.func14, Tryz.ntmps14
    go_wp2
    go_ret
    exact ⟨by simp, rfl⟩
  · rw [hd] at c7
    go_enter Tryz.func14, Tryz.ntmps14
    go_wp2
    go_ret
    exact ⟨by simp, rfl⟩
theorem jblocks_any (h : JP w j q J P) : Calls Tryz.prog 5 #[jv j] w fun e w' => e = .returned (.int .i64 (J.blocks P.n)) ∧ ∃ n, w' = w.drewN n := by
  have hm := jmay_any h
  unfold jmay at hm
  unfold Jn.blocks
  have c0 := h.jn.c0
  have c1 := h.jn.c1
  have hl := h.ok.logn
  have hn4 := h.pl.ok.most
  have HSz := Lib.hid (fun k => size_any (w.drewN k) q P (h.pl.drewN k))
  have H := Lib.hid h
  clear h
  obtain ⟨L, hL⟩ : ∃ L, L = J.log := ⟨_, rfl⟩
  obtain ⟨n, hn⟩ : ∃ n, n = P.n := ⟨_, rfl⟩
  rw [← hL] at c1 hl
  rw [← hn] at hl hn4 HSz
  rw [← hL, ← hn]
  cases hd : J.broken
  · rw [hd] at hm
    have HM := Lib.hid hm
    clear hm hd hL hn
    have e : ((n - 2 - L : Nat) : Int) = (n : Int) - 2 - (L : Int) := by omega
    simp only [Bool.false_eq_true, if_false]
    rw [e]
    clear e
    go_enter Tryz.func5, Tryz.ntmps5
    go_wp2_with fail
    refine Calls.mono HM.out ?_
    rintro e w' ⟨rfl, rfl⟩
    go_wp2_with fail
    go_quiet ((go_at_call 18; exact quiet_of_eq (HSz.out _)))
    go_wp2
    go_ret
    exact ⟨rfl, _, rfl⟩
  · rw [hd] at hm
    have HM := Lib.hid hm
    clear hm hd hL hn
    go_enter Tryz.func5, Tryz.ntmps5
    go_wp2_with fail
    refine Calls.mono HM.out ?_
    rintro e w' ⟨rfl, rfl⟩
    go_wp2
    go_ret
    exact ⟨by simp, 0, rfl⟩
end
end Go.Proofs.YtdhidcoglioalaaGreat.Walks
namespace Go.Proofs.YtdhidcoglioalaaGreat.Walks
open Go.RowKit Plain
open Go.Maps (Keyed IsMap)
set_option linter.unusedVariables false
attribute [local go_sem ↓] exec_load116 exec_store116 exec_alloc116 exec_load112 exec_store112 exec_alloc112 exec_build3 exec_build4
attribute [local go_sem] isPt_mk adOf_mk isI_mk iOf_mk cellsV_mk sctL_length blkL_length setCells_drew oneN_sct oneN_blk roomN_new isRow_new cellL_new alloc_setN roomN_past isRow_past cellL_past roomN_drew isRow_drew cellL_drew setCells_size setCells_past

/-- Some of a map's elements are put over another's. -/
def mixI (left : Lit → Bool) (ms md : Int → Option Value) (x : Int) : Option Value := if left (.int .i64 x) then md x else (ms x).or (md x)
/-- A loop over the map s that puts its elements into the map d. -/
def CopyR (w wr : World) (s d it nn : Nat) (D : DM) (ms md : Int → Option Value) : Prop := ∃ left cnt, wr.ranges Tryz.prog 3 (RE EB) s it nn D left cnt ∧ IM EB wr d (mixI left ms md) ∧ Only [d] w wr
theorem IM.iter {w w' : World} {E E' : Value → Prop} {r it n cnt : Nat} {D : DM} {left : Lit → Bool} {b : Nat} {m : Int → Option Value} (h : IM E w b m) (hr : w.ranges Tryz.prog 3 (RE E') r it n D left cnt) (hg : w.grownBy w' (some it)) (hq : b ≠ it) : IM E w' b m :=
  h.block (hg.block b h.lt (fun e => hq (by cases e; rfl)))
theorem IM.congr {E : Value → Prop} {w : World} {b : Nat} {m m' : Int → Option Value} (h : IM E w b m) (e : ∀ x, m x = m' x) : IM E w b m' := by
  have : m = m' := funext e
  rw [← this]
  exact h
theorem mixI_start {D : DM} {ms md : Int → Option Value} (h : Held EB D) (hm : ∀ x, atI D x = ms x) (x : Int) : md x = mixI (Maps.has D) ms md x := by
  unfold mixI
  rw [h.has, hm]
  cases ms x <;> rfl
theorem mixI_end {ms md : Int → Option Value} {left : Lit → Bool} (h : ∀ kl, left kl = false) (x : Int) : mixI left ms md x = (ms x).or (md x) := by
  unfold mixI
  rw [h]
  rfl
theorem mixI_step {ms md : Int → Option Value} {left : Lit → Bool} {x : Int} {v : Value} (hx : ms x = some v) (y : Int) : updI (mixI left ms md) x (some v) y = mixI (fun z => left z && !z.sameKey (.int .i64 x)) ms md y := by
  show (if y = x then some v else if left (.int .i64 y) then md y else (ms y).or (md y)) = if (left (.int .i64 y) && !(Lit.int .i64 y).sameKey (.int .i64 x)) then md y else (ms y).or (md y)
  rw [same_int]
  by_cases e : y = x
  · rw [if_pos e, e, hx]
    simp
  · rw [if_neg e]
    simp [e]
theorem mixI_bound {ms md : Int → Option Value} {left : Lit → Bool} {N : Nat} (h1 : ∀ x, (ms x).isSome = true → 0 ≤ x ∧ x < (N : Int)) (h2 : ∀ x, (md x).isSome = true → 0 ≤ x ∧ x < (N : Int)) (x : Int) (h : (mixI left ms md x).isSome = true) : 0 ≤ x ∧ x < (N : Int) := by
  unfold mixI at h
  split at h
  · exact h2 x h
  · cases e : ms x with
    | some v => exact h1 x (by rw [e]; rfl)
    | none => rw [e] at h; exact h2 x h
set_option maxRecDepth 10000 in
set_option maxHeartbeats 1000000 in
theorem copy98 (w : World) (s d N : Nat) (ms md : Int → Option Value) (hs : IM EB w s ms) (hd : IM EB w d md) (hne : s ≠ d) (hN1 : ∀ x, (ms x).isSome = true → 0 ≤ x ∧ x < N) (hN2 : ∀ x, (md x).isSome = true → 0 ≤ x ∧ x < N) (hN : N < 9223372036854775807) :
    Calls Tryz.prog 54 #[.map (some d), .map (some s)] w fun e w' => (∃ u, e = .returned u) ∧ IM EB w' d (fun x => (ms x).or (md x)) ∧ Only [d] w w' := by
  have hsl := hs.lt
  have hdl := hd.lt
  obtain ⟨nn, D, hown, hm⟩ := hs
  have HHe := Lib.hid (held_of hown)
  have HM := Lib.hid hm
  have HD := Lib.hid hd
  have HN1 := Lib.hid hN1
  have HN2 := Lib.hid hN2
  clear hm hd hN1 hN2
  go_enter Tryz.func54, Tryz.ntmps54
  go_wp2_with (first | (at_range; refine wpList_range_own _ rfl _ 31 rfl 3 48 int_key Tryz.underlying31 (RE EB) s nn D rfl hown ?_; intro w2 hrg0 hg0 hs0))
  try go_frame
  have hbl2 : Below w.heap.size w w2 := ⟨hg0.os, hg0.tape, hg0.output, by omega, fun i hi => hg0.block i hi (by simp)⟩
  have HS2 : Hid (CopyR w w2 s d w.heap.size nn D ms md) := Lib.hid ⟨_, _, hrg0, (HD.out.block (hbl2.block _ hdl)).congr (mixI_start HHe.out HM.out), Only.of_below hbl2⟩
  clear hrg0 hg0 hs0 hbl2 hown
  go_loopw [] (fun wr => Hid (CopyR w wr s d w.heap.size nn D ms md)) (fun wr => wr.rangeLeft s w.heap.size)
  case atStart => exact HS2
  case round =>
    obtain ⟨left, cnt, hrg, hPr, hOr⟩ := hrel.out
    have HPr := Lib.hid hPr
    have HOr := Lib.hid hOr
    have HRG := Lib.hid hrg
    clear hPr hOr hrg
    go_wp2_with (first | (at_next; refine wpList_next_ranges _ rfl _ rfl 3 int_key (RE EB) (Value.int .i64) blkV (fun key kl h => by obtain ⟨x, hx, _⟩ := Maps.keyOf_int_inv Tryz.underlying3 h; exact ⟨x, hx⟩) (fun v y h => by obtain ⟨b, _, e⟩ := (RE.inv h).1; exact ⟨b, e⟩) s w.heap.size nn D left cnt rfl HRG.out ?_ ?_))
    · intro hc0 hl0
      have HL0 := Lib.hid hl0
      clear hc0 hl0
      go_wp2
      go_end0
      exact ⟨⟨_, rfl⟩, HPr.out.congr (mixI_end HL0.out), HOr.out⟩
    · intro x c kl y1 y2 w3 cnt3 hkey hlk hv hat hrg3 hlt hg3 hs3 hen
      obtain ⟨x', ex, rfl, hwx⟩ := Maps.keyOf_int_inv Tryz.underlying3 hkey
      cases ex
      obtain ⟨hEB, hy⟩ := RE.inv hv
      have hms : ms x = some (blkV c) := by
        rw [← HM.out x]
        unfold atI
        rw [hat]
        cases hy
        rfl
      have hbd := HN1.out x (by rw [hms]; rfl)
      have hd3 : IM EB w3 d (mixI left ms md) := HPr.out.iter HRG.out hg3 (by have := hdl; omega)
      have hO3 : Only [d] w w3 := by
        refine ⟨hg3.os.trans HOr.out.os, hg3.tape.trans HOr.out.tape, hg3.output.trans HOr.out.output, Nat.le_trans HOr.out.size hg3.size, fun b hb hn => ?_⟩
        exact (hg3.block b (Nat.lt_of_lt_of_le hb HOr.out.size) (by simp; omega)).trans (HOr.out.block b hb hn)
      have hd4 := hd3.block (w' := w3.alloc (.cells (blkL c).toArray 48)) (heap_alloc_lt hd3.lt)
      obtain ⟨w4, hmu, hm4, hg4⟩ := hd4.store (t := 31) (e := 48) (N := N) Tryz.underlying31 (mixI_bound HN1.out HN2.out) (by unfold maxLen; omega) (x := x) (v := blkV c) (Wf.of (by omega) (by omega)) hEB
      have HM4 := Lib.hid (hm4.congr (mixI_step hms))
      have HG4 := Lib.hid hg4
      have HRG3 := Lib.hid hrg3
      have HLT := Lib.hid hlt
      have HO4 := Lib.hid ((hO3.new (.cells (blkL c).toArray 48)).trans (Only.of_grown hg4 (by simp)))
      have hit : w.heap.size < w3.heap.size := by
        obtain ⟨es, clock, since, seen, c0, _, _, _, _, hi, _⟩ := hrg3
        exact (Array.getElem?_eq_some_iff.1 hi).1
      have HIt := Lib.hid hit
      clear hkey hlk hat hrg3 hlt hg3 hs3 hv hy hms hbd hd3 hO3 hd4 hm4 hg4 hit hEB hwx
      go_wp2
      go_roundw
      case rel =>
        have k1 := (HRG3.out.alloc (.cells (blkL c).toArray 48)).kept HG4.out (by simp; exact fun e => hne e) (by simp; omega)
        exact Lib.hid ⟨fun z => left z && !z.sameKey (Lit.int IntKind.i64 x), cnt3, k1, HM4.out, HO4.out⟩
      case measure =>
        have k1 := (HRG3.out.alloc (.cells (blkL c).toArray 48)).kept HG4.out (by simp; exact fun e => hne e) (by simp; omega)
        rw [k1.left_eq, HRG.out.left_eq]
        exact HLT.out
end Go.Proofs.YtdhidcoglioalaaGreat.Walks
namespace Go.Proofs.YtdhidcoglioalaaGreat.Walks
open Go.RowKit Plain
set_option linter.unusedVariables false
theorem ret_i {k : IntKind} {a b : Int} (h : a = b) : Ending.returned (.int k a) = .returned (.int k b) := by rw [h]
theorem ret_b {a b : Bool} (h : a = b) : Ending.returned (.bool a) = .returned (.bool b) := by rw [h]
section
variable {w w' : World} {j : JLoc} {q : PLoc} {J J' : Jn} {P P' : Pl}
theorem jfree_any (h : JP w j q J P) : Calls Tryz.prog 6 #[jv j] w fun e w' => e = .returned (.int .i64 (J.free)) ∧ ∃ n, w' = w.drewN n := by
  have hm := jmay_any h
  unfold jmay at hm
  unfold Jn.free
  have c1 := h.jn.c1
  have c4 := h.jn.c4
  have hl := h.ok.logn
  have hu := h.ok.used
  have hn4 := h.pl.ok.most
  clear h
  obtain ⟨L, hL⟩ : ∃ L, L = J.log := ⟨_, rfl⟩
  obtain ⟨U, hU⟩ : ∃ U, U = J.used := ⟨_, rfl⟩
  rw [← hL] at c1 hl hu
  rw [← hU] at c4 hu
  rw [← hL, ← hU]
  cases hd : J.broken
  · rw [hd] at hm
    have HM := Lib.hid hm
    clear hm hd hL hU
    simp only [Bool.false_eq_true, if_false]
    by_cases h0 : U + 1 ≤ L
    · have e : ((L - U - 1 : Nat) : Int) = (L : Int) - (U : Int) - 1 := by omega
      rw [e]
      clear e
      go_enter Tryz.func6, Tryz.ntmps6
      go_wp2_with fail
      refine Calls.mono HM.out ?_
      rintro e w' ⟨rfl, rfl⟩
      go_wp2_with fail
      go_region
      go_wp2
      go_ret
      exact ⟨by simp; omega, 1, rfl⟩
    · obtain rfl : U = L := by omega
      have e : ((U - U - 1 : Nat) : Int) = 0 := by omega
      rw [e]
      clear e h0
      go_enter Tryz.func6, Tryz.ntmps6
      go_wp2_with fail
      refine Calls.mono HM.out ?_
      rintro e w' ⟨rfl, rfl⟩
      go_wp2_with fail
      go_region
      go_wp2
      go_ret
      exact ⟨by simp; omega, 1, rfl⟩
  · rw [hd] at hm
    have HM := Lib.hid hm
    clear hm hd hL hU
    go_enter Tryz.func6, Tryz.ntmps6
    go_wp2_with fail
    refine Calls.mono HM.out ?_
    rintro e w' ⟨rfl, rfl⟩
    go_wp2
    go_ret
    exact ⟨by simp, 0, rfl⟩
theorem jplace_any (h : JP w j q J P) (k : Nat) (hk : k ≤ 8192) : Calls Tryz.prog 20 #[jv j, .int .i64 k] w fun e w' => e = .returned (.int .i64 (J.place k : Nat)) ∧ ∃ n, w' = w.drewN n := by
  have c1 := h.jn.c1
  have c3 := h.jn.c3
  have hl2 := h.ok.log2
  have hl := h.ok.logn
  have ha := h.ok.at_
  have hn4 := h.pl.ok.most
  unfold Jn.place
  clear h
  obtain ⟨L, hL⟩ : ∃ L, L = J.log := ⟨_, rfl⟩
  obtain ⟨A, hA⟩ : ∃ A, A = J.at_ := ⟨_, rfl⟩
  rw [← hL] at c1 hl2 hl ha
  rw [← hA] at c3 ha
  rw [← hL, ← hA]
  clear hL hA
  go_enter Tryz.func20, Tryz.ntmps20
  go_wp2_with fail
  go_quiet (fail)
  go_wp2
  go_ret
  refine ⟨ret_i ?_, _, rfl⟩
  have hm := Nat.mod_lt (A + k) (show 0 < L by omega)
  rw [show ((A : Int) + (k : Int)) % (L : Int) = (((A + k) % L : Nat) : Int) by rw [Int.natCast_emod, Int.natCast_add]]
  unfold wrap64
  omega
theorem logMay_any {w : World} {q : PLoc} {P : Pl} (h : PlateAt w q P) (L : Int) (hL : -9223372036854775808 ≤ L ∧ L ≤ 9223372036854775807) : Calls Tryz.prog 28 #[pv q, .int .i64 L] w fun e w' => e = .returned (.bool (decide (2 ≤ L ∧ L + 3 ≤ P.n))) ∧ w = w' := by
  have hn4 := h.ok.most
  have HSz := Lib.hid (size_any w q P h)
  clear h
  obtain ⟨n, hn⟩ : ∃ n, n = P.n := ⟨_, rfl⟩
  rw [← hn] at hn4 HSz ⊢
  clear hn
  by_cases h2 : 2 ≤ L
  · go_enter Tryz.func28, Tryz.ntmps28
    go_wp2_with fail
    refine Calls.mono HSz.out ?_
    rintro e w' ⟨rfl, rfl⟩
    go_wp2
    go_ret
    refine ⟨ret_b ?_, rfl⟩
    rw [decide_eq_decide]
    omega
  · have hq : decide (2 ≤ L ∧ L + 3 ≤ (n : Int)) = false := decide_eq_false (by omega)
    rw [hq]
    clear hq
    go_enter Tryz.func28, Tryz.ntmps28
    go_wp2
    go_ret
    exact ⟨by simp, rfl⟩
theorem putAll_ok {n : Nat} {f : Nat → Option Blk} {l : List (Nat × Blk)} (h1 : ∀ i, n ≤ i → f i = none) (h2 : ∀ i b, f i = some b → Flat b) (hl : ∀ x ∈ l, x.1 < n ∧ Flat x.2) : (∀ i, n ≤ i → putAll f l i = none) ∧ (∀ i b, putAll f l i = some b → Flat b) := by
  induction l using snoc_ind with
  | nil => exact ⟨h1, h2⟩
  | append_singleton l x ih =>
    obtain ⟨i1, i2⟩ := ih fun y hy => hl y (by simp [hy])
    have hx := hl x (by simp)
    have e : putAll f (l ++ [x]) = upd (putAll f l) x.1 (some x.2) := by simp [putAll]
    rw [e]
    refine ⟨fun i hi => ?_, fun i b hb => ?_⟩
    · rw [upd_other _ _ (by omega)]; exact i1 i hi
    · by_cases e2 : i = x.1
      · rw [e2, upd_same] at hb
        cases hb
        exact hx.2
      · rw [upd_other _ _ e2] at hb
        exact i2 i b hb
theorem ok_wrote {n : Nat} (h : J.Ok n) {l : List (Nat × Blk)} (hl : ∀ x ∈ l, x.1 < n - 2 - J.log ∧ Flat x.2) (hu : J.used + l.length + 1 ≤ J.log) (ht : J.turn < 4611686018427387904) : (J.wrote l).Ok n := by
  obtain ⟨i1, i2⟩ := putAll_ok h.pend h.flat hl
  have h2 := h.log2
  exact ⟨h2, h.logn, Nat.mod_lt _ (by show 0 < J.log; omega), hu, ht, h.head, h.head0, i1, i2⟩
theorem pmap_or (f : Nat → Option Blk) (l : List (Nat × Blk)) (x : Int) : (pmap (putAll (fun _ => none) l) x).or (pmap f x) = pmap (putAll f l) x := by
  unfold pmap
  by_cases h : 0 ≤ x
  · simp only [if_pos h]
    rw [putAll_or l f]
    cases putAll (fun _ => none) l x.toNat <;> rfl
  · simp only [if_neg h]; rfl
theorem pmap_bound {f : Nat → Option Blk} {N : Nat} (h : ∀ i, N ≤ i → f i = none) (x : Int) (hx : (pmap f x).isSome = true) : 0 ≤ x ∧ x < (N : Int) := by
  unfold pmap at hx
  by_cases h0 : 0 ≤ x
  · rw [if_pos h0] at hx
    refine ⟨h0, Int.not_le.1 fun hle => ?_⟩
    rw [h x.toNat (by omega)] at hx
    cases hx
  · rw [if_neg h0] at hx; cases hx
set_option maxRecDepth 10000 in
theorem wrote_any (h : JP w j q J P) {s : Nat} {l : List (Nat × Blk)} (hs : IM EB w s (pmap (putAll (fun _ => none) l))) (hsp : s ≠ j.p) (hsm : s ≠ j.m) (hl : ∀ x ∈ l, x.1 < P.n - 2 - J.log ∧ Flat x.2) (hu : J.used + l.length + 1 ≤ J.log) (ht : J.turn < 4611686018427387904) :
    Calls Tryz.prog 23 #[jv j, .int .i64 l.length, .map (some s)] w fun e w' => (∃ u, e = .returned u) ∧ JP w' j q (J.wrote l) P ∧ Only (j.R q) w w' := by
  obtain ⟨i1, _⟩ := putAll_ok (f := fun _ => none) (fun _ _ => rfl) (fun _ _ e => by cases e) hl
  have HC := Lib.hid (copy98 w s j.m (P.n - 2 - J.log) _ _ hs h.jn.mp hsm (pmap_bound i1) h.bound (by have := h.pl.ok.most; omega))
  have c6 := h.jn.c6
  have hl4 := h.pl.ok.most
  have hln := h.ok.logn
  have H := Lib.hid h
  have HL := Lib.hid hl
  clear h hs i1 hl
  obtain ⟨m, hm⟩ : ∃ m, m = l.length := ⟨_, rfl⟩
  rw [← hm] at hu ⊢
  have HM := Lib.hid hm
  clear hm
  go_enter Tryz.func23, Tryz.ntmps23
  go_wp2_with fail
  refine Calls.mono HC.out ?_
  rintro e w1 ⟨⟨u, rfl⟩, him, ho⟩
  have h1 := H.out.setMap ho (him.congr (pmap_or J.pend l)) ⟨H.out.ok.log2, H.out.ok.logn, H.out.ok.at_, H.out.ok.used, H.out.ok.turn, H.out.ok.head, H.out.ok.head0, (putAll_ok H.out.ok.pend H.out.ok.flat HL.out).1, (putAll_ok H.out.ok.pend H.out.ok.flat HL.out).2⟩
  have c1 := h1.jn.c1
  have c3 := h1.jn.c3
  have c4 := h1.jn.c4
  have c5 := h1.jn.c5
  have f3 := h1.jn.fz 3
  have f4 := h1.jn.fz 4
  have f5 := h1.jn.fz 5
  have hl2 := h1.ok.log2
  have ha := h1.ok.at_
  have H1 := Lib.hid h1
  have HO := Lib.hid ho
  clear h1 him ho c6
  obtain ⟨L, hL⟩ : ∃ L, L = J.log := ⟨_, rfl⟩
  obtain ⟨A, hA⟩ : ∃ A, A = J.at_ := ⟨_, rfl⟩
  obtain ⟨U, hU⟩ : ∃ U, U = J.used := ⟨_, rfl⟩
  obtain ⟨T, hT⟩ : ∃ T, T = J.turn := ⟨_, rfl⟩
  simp only at c1 c3 c4 c5 ha hl2
  rw [← hL] at c1 hl2 ha hu hln
  rw [← hA] at c3 ha
  rw [← hU] at c4 hu
  rw [← hT] at c5 ht
  have HLe := Lib.hid hL
  have HAe := Lib.hid hA
  have HUe := Lib.hid hU
  have HTe := Lib.hid hT
  clear hL hA hU hT
  go_wp2_with fail
  go_region
  go_wp2
  go_end0
  have hO := H1.out.ok
  have hW := ok_wrote H.out.ok HL.out (by rw [← HM.out, ← HUe.out, ← HLe.out]; exact hu) (by rw [← HTe.out]; exact ht)
  have e3 : ((A : Int) + (m : Int) + 1) % (L : Int) = (((J.at_ + l.length + 1) % J.log : Nat) : Int) := by
    rw [Int.natCast_emod, HAe.out, HM.out, HLe.out]; rfl
  have e4 : ((U : Int) + ((m : Int) + 1)) = ((J.used + l.length + 1 : Nat) : Int) := by rw [HUe.out, HM.out]; omega
  have e5 : ((T : Int) + 1) = ((J.turn + 1 : Nat) : Int) := by rw [HTe.out]; omega
  rw [e3, e4, e5]
  have k1 := H1.out.setCell (i := 3) (v := .int .i64 (((J.at_ + l.length + 1) % J.log : Nat) : Int)) (J' := { J with pend := putAll J.pend l, at_ := (J.at_ + l.length + 1) % J.log }) ⟨hO.log2, hO.logn, hW.at_, hO.used, hO.turn, hO.head, hO.head0, hO.pend, hO.flat⟩ (by simp) (by simp) (by simp) (by simp) (by simp) (by simp) (by simp) (by simp) rfl
  have k2 := k1.setCell (i := 4) (v := .int .i64 ((J.used + l.length + 1 : Nat) : Int)) (J' := { J with pend := putAll J.pend l, at_ := (J.at_ + l.length + 1) % J.log, used := J.used + l.length + 1 }) ⟨hO.log2, hO.logn, hW.at_, hW.used, hO.turn, hO.head, hO.head0, hO.pend, hO.flat⟩ (by simp) (by simp) (by simp) (by simp) (by simp) (by simp) (by simp) (by simp) rfl
  have k3 := k2.setCell (i := 5) (v := .int .i64 ((J.turn + 1 : Nat) : Int)) (J' := J.wrote l) hW (by simp [Jn.wrote]) (by simp [Jn.wrote]) (by simp [Jn.wrote]) (by simp [Jn.wrote]) (by simp [Jn.wrote]) (by simp [Jn.wrote]) (by simp) (by simp) rfl
  refine ⟨⟨_, rfl⟩, k3.drew, ?_⟩
  exact ((((HO.out.mono (fun r hr => by simp at hr; rw [hr]; exact JLoc.inM)).setCell JLoc.inP _).setCell JLoc.inP _).setCell JLoc.inP _).drew
end
end Go.Proofs.YtdhidcoglioalaaGreat.Walks
