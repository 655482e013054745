/-
  What the laws say of a journal, in plain words.
-/
import Derived.Test.YtdhidcoglioalaaGreatM32
namespace Go.Proofs.YtdhidcoglioalaaGreat.Plain
open Jn
structure Deed where
  blocks : List Int
  b : Byte
  clear : Bool
def deedE (P : Pl) (J : Jn) (d : Deed) : Int := if d.clear then clearE P J else commitE P J (putsL (deedL d.b d.blocks))
def deedP (P : Pl) (J : Jn) (d : Deed) : Pl := if d.clear then clearP P J else commitP P J (putsL (deedL d.b d.blocks))
def deedJ (P : Pl) (J : Jn) (d : Deed) : Jn := if d.clear then clearJ P J else commitJ P J (putsL (deedL d.b d.blocks))
def deedN (now : Nat → Byte) (d : Deed) : Nat → Byte := if d.clear then now else nextB now (deedL d.b d.blocks)
/-- A plate that lives, and a journal on it, so many deeds behind its making. -/
structure KS (n L : Nat) (P : Pl) (J : Jn) (now : Nat → Byte) (c : Nat) : Prop where
  inv : ∃ S, Inv n S J (nowF now) ∧ Live P S (fun _ => none)
  n : P.n = n
  log : J.log = L
  turn : J.turn ≤ c + 1
  head : J.head ≤ c + 2
theorem KS.mono {n L : Nat} {P : Pl} {J : Jn} {now : Nat → Byte} {c c' : Nat} (h : KS n L P J now c) (hc : c ≤ c') : KS n L P J now c' := ⟨h.inv, h.n, h.log, by have := h.turn; omega, by have := h.head; omega⟩
theorem made_ks {n log : Nat} (hn : n ≤ 4096) (h2 : 2 ≤ log) (h3 : log + 3 ≤ n) : formatE (Pl.made n) log = 0 ∧ KS n log (formatP (Pl.made n) log) (formatJ log) (fun _ => 0) 0 ∧ (formatP (Pl.made n) log).fails = false := by
  obtain ⟨e, S, h, hL, hN, hF⟩ := format_fresh (fresh_made n) hn h2 h3
  have : nowF (fun _ => 0) = fun _ => zeroB := by
    funext i j
    by_cases hi : i < 12 <;> simp [nowF, oneB, zeroB, hi]
  exact ⟨e, ⟨⟨S, by rw [this]; exact h, hL⟩, hN, rfl, Nat.le_refl _, Nat.le_refl _⟩, hF⟩
/-- The power went in a deed's midst. -/
structure KD (n L : Nat) (P : Pl) (now : Nat → Byte) (c : Nat) : Prop where
  down : ∃ S J, Inv n S J (nowF now) ∧ Down P S n ∧ J.log = L ∧ J.turn ≤ c + 1 ∧ J.head ≤ c + 2
theorem KS.deed {n L : Nat} {P : Pl} {J : Jn} {now : Nat → Byte} {c : Nat} (h : KS n L P J now c) (h0 : Can P 0) (hc : c ≤ 1000) (d : Deed) (h12 : 12 + L + 2 ≤ n) (hl : (deedL d.b d.blocks).length + 1 ≤ L) :
    (deedE P J d = 0 ∧ KS n L (deedP P J d) (deedJ P J d) (deedN now d) (c + 1) ∧ (deedP P J d).fails = P.fails) ∨
    (deedE P J d = 50 ∧ P.fails = true ∧ (KD n L (deedP P J d) now (c + 1) ∨ KD n L (deedP P J d) (deedN now d) (c + 1))) := by
  obtain ⟨S, hI, hL⟩ := h.inv
  have hlog := h.log
  have ht := h.turn
  have hh := h.head
  unfold deedE deedP deedJ deedN
  by_cases hcl : d.clear = true
  · simp only [hcl, if_true]
    obtain ⟨c1, c2⟩ := hI.clear hL h.n h0 (by omega)
    by_cases hcan : Can P (clearM J n)
    · obtain ⟨e1, e2, S', f1, f2, f3, _⟩ := c1 hcan
      refine .inl ⟨e1, ⟨⟨S', by rw [e2]; exact f1, f2⟩, f3.n.trans h.n, by rw [e2]; exact hlog, by rw [e2]; show J.turn ≤ _; omega, by rw [e2]; show J.head + 1 ≤ _; omega⟩, f3.fails⟩
    · obtain ⟨e1, e2, S', J', f1, f2, f3⟩ := c2 hcan
      refine .inr ⟨e1, Classical.byContradiction fun hf => hcan (can_any (by simpa using hf) _), .inl ⟨S', J', f1, f3, ?_⟩⟩
      rcases f2 with rfl | rfl
      · exact ⟨hlog, by omega, by omega⟩
      · exact ⟨hlog, by show J.turn ≤ _; omega, by show J.head + 1 ≤ _; omega⟩
  · simp only [hcl, Bool.false_eq_true, if_false]
    have hD := deedL_ok d.b d.blocks
    rcases hI.commit hL h.n h0 (by omega) (by omega) hD (by omega) (by omega) with ⟨e1, ⟨S', f1, f2⟩, f3, f4, f5, f6, f7⟩ | ⟨e1, e2, S', J', f1, f2, f3, f4, f5⟩
    · rw [nowAll_deed _ _ hD.lt] at f1
      exact .inl ⟨e1, ⟨⟨S', f1, f2⟩, f3, by omega, by omega, by omega⟩, f4⟩
    · rw [nowAll_deed _ _ hD.lt] at f1
      refine .inr ⟨e1, e2, ?_⟩
      rcases f1 with f1 | f1
      · exact .inl ⟨S', J', f1, f5, by omega, by omega, by omega⟩
      · exact .inr ⟨S', J', f1, f5, by omega, by omega, by omega⟩
/-- The power is back, and the journal is opened. -/
theorem KD.open_ {n L : Nat} {P : Pl} {now : Nat → Byte} {c : Nat} (h : KD n L P now c) : P.dead = true ∧ P.boot.flushE = 0 ∧ ∃ J, openJ P.boot.flush = some J ∧ KS n L P.boot.flush J now c ∧ P.boot.flush.fails = false := by
  obtain ⟨S, J, hI, hD, hlog, ht, hh⟩ := h.down
  obtain ⟨b1, b2, b3⟩ := boot_down hD
  obtain ⟨o1, o2, o3, o4, o5⟩ := open_inv hI.core b1 b2 b3
  exact ⟨hD.dead, o1, J, o2, ⟨⟨S, hI, o3⟩, o4, hlog, ht, hh⟩, o5⟩
theorem KS.open_ {n L : Nat} {P : Pl} {J : Jn} {now : Nat → Byte} {c : Nat} (h : KS n L P J now c) (hf : P.fails = false) : P.flushE = 0 ∧ openJ P.flush = some J ∧ KS n L P.flush J now c ∧ P.flush.fails = false := by
  obtain ⟨S, hI, hL⟩ := h.inv
  obtain ⟨o1, o2, o3, o4, o5⟩ := open_inv hI.core hL h.n hf
  exact ⟨o1, o2, ⟨⟨S, hI, o3⟩, o4, h.log, h.turn, h.head⟩, o5⟩
theorem KS.fail {n L : Nat} {P : Pl} {J : Jn} {now : Nat → Byte} {c : Nat} (h : KS n L P J now c) (k : Int) (keep : List Bool) : KS n L (P.fail k keep) J now c ∧ (P.fail k keep).fails = decide (0 ≤ k) ∧ Can (P.fail k keep) 0 := by
  obtain ⟨S, hI, hL⟩ := h.inv
  have e : P.fail k keep = P.failed k keep := by unfold Pl.fail; rw [hL.dead]; simp
  rw [e]
  refine ⟨⟨⟨S, hI, ⟨hL.dead, hL.stays, hL.waits⟩⟩, h.n, h.log, h.turn, h.head⟩, rfl, fun hf => ?_⟩
  have : decide (0 ≤ k) = true := hf
  show (((0 : Nat) : Int)) ≤ k
  simpa using this
theorem KS.dead {n L : Nat} {P : Pl} {J : Jn} {now : Nat → Byte} {c : Nat} (h : KS n L P J now c) : P.dead = false := by obtain ⟨S, _, hL⟩ := h.inv; exact hL.dead
theorem KS.live {n L : Nat} {P : Pl} {J : Jn} {now : Nat → Byte} {c : Nat} (h : KS n L P J now c) : J.broken = false ∧ J.Ok n := by obtain ⟨S, hI, _⟩ := h.inv; exact ⟨hI.live, hI.ok⟩
theorem KS.read {n L : Nat} {P : Pl} {J : Jn} {now : Nat → Byte} {c : Nat} (h : KS n L P J now c) {i : Nat} (hi : i + L + 2 < n) : readE P J i = 0 ∧ readB P J i = nowF now i ∧ readJ P J i = J := by
  obtain ⟨S, hI, hL⟩ := h.inv
  have := h.log
  exact hI.read hL h.n (by omega)
theorem oneB_inj {a b : Byte} (h : oneB a = oneB b) : a = b := by
  have := congrFun h 0
  simpa [oneB] using this
/-- Are all twelve blocks so? -/
def allB (now nowX : Nat → Byte) : Bool := (List.range 12).all fun i => now i == nowX i
theorem allB_same (now : Nat → Byte) : allB now now = true := by simp [allB]
theorem allB_eq {now nowX : Nat → Byte} (h : allB now nowX = true) : nowF now = nowF nowX := by
  funext i
  unfold nowF
  by_cases hi : i < 12
  · rw [if_pos hi, if_pos hi]
    have := List.all_eq_true.1 h i (List.mem_range.2 hi)
    rw [eq_of_beq this]
  · rw [if_neg hi, if_neg hi]
/-- What a journal holds behind a fall, as the law finds out. -/
def heldB (nowX now next : Nat → Byte) : Nat → Byte := if allB nowX now then now else next
theorem held_of_kd {n L : Nat} {P : Pl} {J : Jn} {nowX now next : Nat → Byte} {c : Nat} (h : KS n L P J nowX c) (hx : nowX = now ∨ nowX = next) : (allB nowX now || allB nowX next) = true ∧ KS n L P J (heldB nowX now next) c := by
  unfold heldB
  cases e : allB nowX now
  · rcases hx with rfl | rfl
    · rw [allB_same] at e; cases e
    · exact ⟨by rw [allB_same]; rfl, by simpa using h⟩
  · refine ⟨rfl, ?_⟩
    obtain ⟨⟨S, hI, hL⟩, h2, h3, h4, h5⟩ := h
    rw [allB_eq e] at hI
    exact ⟨⟨S, by simpa using hI, hL⟩, h2, h3, h4, h5⟩
end Go.Proofs.YtdhidcoglioalaaGreat.Plain
