/-
  One map's elements are put into another.
-/
import Derived.Test.YtdhidcoglioalaaJE
namespace Go.Proofs.Ytdhidcoglioalaa.Walks
open Go.RowKit Plain
open Go.Maps (Keyed IsMap)
set_option linter.unusedVariables false
attribute [local go_sem ↓] exec_load116 exec_store116 exec_alloc116 exec_load112 exec_store112 exec_alloc112 exec_build3 exec_build4
attribute [local go_sem] isPt_mk adOf_mk isI_mk iOf_mk cellsV_mk sctL_length blkL_length setCells_drew oneN_sct oneN_blk roomN_new isRow_new cellL_new alloc_setN roomN_past isRow_past cellL_past roomN_drew isRow_drew cellL_drew setCells_size setCells_past

/-- Some of a map's elements are put over another's. -/
def mixI (left : Lit → Bool) (ms md : Int → Option Value) (x : Int) : Option Value := if left (.int .i64 x) then md x else (ms x).or (md x)
/-- A loop over the map s that puts its elements into the map d. -/
def CopyR (w wr : World) (s d it nn : Nat) (D : DM) (ms md : Int → Option Value) : Prop := ∃ left cnt, wr.ranges Try.prog 3 (RE EB) s it nn D left cnt ∧ IM EB wr d (mixI left ms md) ∧ Only [d] w wr
theorem IM.iter {w w' : World} {E E' : Value → Prop} {r it n cnt : Nat} {D : DM} {left : Lit → Bool} {b : Nat} {m : Int → Option Value} (h : IM E w b m) (hr : w.ranges Try.prog 3 (RE E') r it n D left cnt) (hg : w.grownBy w' (some it)) (hq : b ≠ it) : IM E w' b m :=
  h.block (hg.block b h.lt (fun e => hq (by cases e; rfl)))
theorem IM.congr {E : Value → Prop} {w : World} {b : Nat} {m m' : Int → Option Value} (h : IM E w b m) (e : ∀ x, m x = m' x) : IM E w b m' := by
  have : m = m' := funext e
  rw [← this]
  exact h
theorem mixI_start {D : DM} {ms md : Int → Option Value} (h : Held EB D) (hm : ∀ x, atI D x = ms x) (x : Int) : md x = mixI (Maps.has D) ms md x := by
  unfold mixI
  rw [h.has, hm]
  cases ms x <;> rfl
theorem mixI_end {ms md : Int → Option Value} {left : Lit → Bool} (h : ∀ kl, left kl = false) (x : Int) : mixI left ms md x = (ms x).or (md x) := by
  unfold mixI
  rw [h]
  rfl
theorem mixI_step {ms md : Int → Option Value} {left : Lit → Bool} {x : Int} {v : Value} (hx : ms x = some v) (y : Int) : updI (mixI left ms md) x (some v) y = mixI (fun z => left z && !z.sameKey (.int .i64 x)) ms md y := by
  show (if y = x then some v else if left (.int .i64 y) then md y else (ms y).or (md y)) = if (left (.int .i64 y) && !(Lit.int .i64 y).sameKey (.int .i64 x)) then md y else (ms y).or (md y)
  rw [same_int]
  by_cases e : y = x
  · rw [if_pos e, e, hx]
    simp
  · rw [if_neg e]
    simp [e]
theorem mixI_bound {ms md : Int → Option Value} {left : Lit → Bool} {N : Nat} (h1 : ∀ x, (ms x).isSome = true → 0 ≤ x ∧ x < (N : Int)) (h2 : ∀ x, (md x).isSome = true → 0 ≤ x ∧ x < (N : Int)) (x : Int) (h : (mixI left ms md x).isSome = true) : 0 ≤ x ∧ x < (N : Int) := by
  unfold mixI at h
  split at h
  · exact h2 x h
  · cases e : ms x with
    | some v => exact h1 x (by rw [e]; rfl)
    | none => rw [e] at h; exact h2 x h
set_option maxRecDepth 10000 in
set_option maxHeartbeats 1000000 in
theorem copy98 (w : World) (s d N : Nat) (ms md : Int → Option Value) (hs : IM EB w s ms) (hd : IM EB w d md) (hne : s ≠ d) (hN1 : ∀ x, (ms x).isSome = true → 0 ≤ x ∧ x < N) (hN2 : ∀ x, (md x).isSome = true → 0 ≤ x ∧ x < N) (hN : N < 9223372036854775807) :
    Calls Try.prog 98 #[.map (some d), .map (some s)] w fun e w' => (∃ u, e = .returned u) ∧ IM EB w' d (fun x => (ms x).or (md x)) ∧ Only [d] w w' := by
  have hsl := hs.lt
  have hdl := hd.lt
  obtain ⟨nn, D, hown, hm⟩ := hs
  have HHe := Lib.hid (held_of hown)
  have HM := Lib.hid hm
  have HD := Lib.hid hd
  have HN1 := Lib.hid hN1
  have HN2 := Lib.hid hN2
  clear hm hd hN1 hN2
  go_enter Try.func98, Try.ntmps98
  go_wp2_with (first | (at_range; refine wpList_range_own _ rfl _ 106 rfl 3 112 int_key Try.underlying106 (RE EB) s nn D rfl hown ?_; intro w2 hrg0 hg0 hs0))
  try go_frame
  have hbl2 : Below w.heap.size w w2 := ⟨hg0.os, hg0.tape, hg0.output, by omega, fun i hi => hg0.block i hi (by simp)⟩
  have HS2 : Hid (CopyR w w2 s d w.heap.size nn D ms md) := Lib.hid ⟨_, _, hrg0, (HD.out.block (hbl2.block _ hdl)).congr (mixI_start HHe.out HM.out), Only.of_below hbl2⟩
  clear hrg0 hg0 hs0 hbl2 hown
  go_loopw [] (fun wr => Hid (CopyR w wr s d w.heap.size nn D ms md)) (fun wr => wr.rangeLeft s w.heap.size)
  case atStart => exact HS2
  case round =>
    obtain ⟨left, cnt, hrg, hPr, hOr⟩ := hrel.out
    have HPr := Lib.hid hPr
    have HOr := Lib.hid hOr
    have HRG := Lib.hid hrg
    clear hPr hOr hrg
    go_wp2_with (first | (at_next; refine wpList_next_ranges _ rfl _ rfl 3 int_key (RE EB) (Value.int .i64) blkV (fun key kl h => by obtain ⟨x, hx, _⟩ := Maps.keyOf_int_inv Try.underlying3 h; exact ⟨x, hx⟩) (fun v y h => by obtain ⟨b, _, e⟩ := (RE.inv h).1; exact ⟨b, e⟩) s w.heap.size nn D left cnt rfl HRG.out ?_ ?_))
    · intro hc0 hl0
      have HL0 := Lib.hid hl0
      clear hc0 hl0
      go_wp2
      go_end0
      exact ⟨⟨_, rfl⟩, HPr.out.congr (mixI_end HL0.out), HOr.out⟩
    · intro x c kl y1 y2 w3 cnt3 hkey hlk hv hat hrg3 hlt hg3 hs3 hen
      obtain ⟨x', ex, rfl, hwx⟩ := Maps.keyOf_int_inv Try.underlying3 hkey
      cases ex
      obtain ⟨hEB, hy⟩ := RE.inv hv
      have hms : ms x = some (blkV c) := by
        rw [← HM.out x]
        unfold atI
        rw [hat]
        cases hy
        rfl
      have hbd := HN1.out x (by rw [hms]; rfl)
      have hd3 : IM EB w3 d (mixI left ms md) := HPr.out.iter HRG.out hg3 (by have := hdl; omega)
      have hO3 : Only [d] w w3 := by
        refine ⟨hg3.os.trans HOr.out.os, hg3.tape.trans HOr.out.tape, hg3.output.trans HOr.out.output, Nat.le_trans HOr.out.size hg3.size, fun b hb hn => ?_⟩
        exact (hg3.block b (Nat.lt_of_lt_of_le hb HOr.out.size) (by simp; omega)).trans (HOr.out.block b hb hn)
      have hd4 := hd3.block (w' := w3.alloc (.cells (blkL c).toArray 112)) (heap_alloc_lt hd3.lt)
      obtain ⟨w4, hmu, hm4, hg4⟩ := hd4.store (t := 106) (e := 112) (N := N) Try.underlying106 (mixI_bound HN1.out HN2.out) (by unfold maxLen; omega) (x := x) (v := blkV c) (Wf.of (by omega) (by omega)) hEB
      have HM4 := Lib.hid (hm4.congr (mixI_step hms))
      have HG4 := Lib.hid hg4
      have HRG3 := Lib.hid hrg3
      have HLT := Lib.hid hlt
      have HO4 := Lib.hid ((hO3.new (.cells (blkL c).toArray 112)).trans (Only.of_grown hg4 (by simp)))
      have hit : w.heap.size < w3.heap.size := by
        obtain ⟨es, clock, since, seen, c0, _, _, _, _, hi, _⟩ := hrg3
        exact (Array.getElem?_eq_some_iff.1 hi).1
      have HIt := Lib.hid hit
      clear hkey hlk hat hrg3 hlt hg3 hs3 hv hy hms hbd hd3 hO3 hd4 hm4 hg4 hit hEB hwx
      go_wp2
      go_roundw
      case rel =>
        have k1 := (HRG3.out.alloc (.cells (blkL c).toArray 112)).kept HG4.out (by simp; exact fun e => hne e) (by simp; omega)
        exact Lib.hid ⟨fun z => left z && !z.sameKey (Lit.int IntKind.i64 x), cnt3, k1, HM4.out, HO4.out⟩
      case measure =>
        have k1 := (HRG3.out.alloc (.cells (blkL c).toArray 112)).kept HG4.out (by simp; exact fun e => hne e) (by simp; omega)
        rw [k1.left_eq, HRG.out.left_eq]
        exact HLT.out
end Go.Proofs.Ytdhidcoglioalaa.Walks
