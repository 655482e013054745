/-
  A plate, its journals and the law's box of blocks, from call to call.
-/
import Derived.Test.YtdhidcoglioalaaJW
namespace Go.Proofs.Ytdhidcoglioalaa.Walks
open Go.RowKit Plain Jn
set_option linter.unusedVariables false
section
variable {w w' : World} {j : JLoc} {q : PLoc} {J J' : Jn} {P P' : Pl}
/-- The journal's and the law's own box are kept by what the law's box is written. -/
theorem JP.box {g : Nat} (h : JP w j (q.banX [g]) J P) (hg : g ∉ j.R q) (vs : List Value) : JP (w.setCells g 0 vs) j (q.banX [g]) J P :=
  h.other (Only.setCells (R := [g]) (b := g) (by simp) vs 0 (Only.refl _ _)) (fun b hb => by simp only [List.mem_singleton] at hb; subst hb; exact ⟨by simp, hg⟩)
theorem room_of {w : World} {g : Nat} {f : Nat → Byte} (h : w.heap[g]? = some (.cells (twL f).toArray 67 (0, 0))) : RoomN 12 w ⟨g, 0, none⟩ :=
  ⟨rfl, fun i hi => ⟨by rw [show (⟨g, 0, none⟩ : Addr).off + i = i by show 0 + i = i; omega, cell_of_row _ _ _ _ _ _ h, List.getElem?_toArray, twL_get f hi]; rfl, by unfold World.frozen?; simp only [h]; rfl⟩⟩
theorem heap_set_tw {w : World} {g : Nat} {f f' : Nat → Byte} (h : w.heap[g]? = some (.cells (twL f).toArray 67 (0, 0))) : (w.setCells g 0 (twL f')).heap[g]? = some (.cells (twL f').toArray 67 (0, 0)) := by
  have := set_cells g 67 (twL f') 0 w (twL f) h (by rw [twL_length, twL_length]; omega)
  rw [this]
  rw [List.take_zero, List.nil_append, Nat.zero_add, List.drop_of_length_le (by rw [twL_length, twL_length]; omega), List.append_nil]
theorem openE_bad (h1 : P.flushE = 0) (h2 : openJ P.flush = none) : openE P = 70 := by
  unfold openE
  rw [h1, if_neg (by simp), h2]
theorem openE_good (h1 : P.flushE = 0) (h2 : openJ P.flush = some J) : openE P = 0 := by
  unfold openE
  rw [h1, if_neg (by simp), h2]
end
theorem JP.re {w w' : World} {j : JLoc} {q : PLoc} {J : Jn} {P P' : Pl} {X : List Nat} (h : JP w j q J P) (ho : Only q.R w w') (hp : PlateAt w' (q.banX X) P') (hn : P'.n = P.n) : JP w' j (q.banX X) J P' :=
  ⟨hp, (h.jn.only ho h.np h.nm).ban X, by rw [hn]; exact h.ok, List.mem_append_right _ h.bp, List.mem_append_right _ h.bm, h.np, h.nm⟩
structure Plt (w wr : World) (Q : PLoc) (g : Nat) (now : Nat → Byte) (P : Pl) : Prop where
  pl : PlateAt wr Q P
  box : wr.heap[g]? = some (.cells (twL now).toArray 67 (0, 0))
  be : Below w.heap.size w wr
  out : g ∉ Q.R
  new : ∀ b ∈ Q.R, w.heap.size ≤ b
structure Liv (w wr : World) (j : JLoc) (Q : PLoc) (g : Nat) (now : Nat → Byte) (J : Jn) (P : Pl) (n L c : Nat) : Prop where
  jp : JP wr j Q J P
  ks : KS n L P J now c
  nf : P.fails = false
  box : wr.heap[g]? = some (.cells (twL now).toArray 67 (0, 0))
  be : Below w.heap.size w wr
  out : g ∉ j.R Q
  new : ∀ b ∈ j.R Q, w.heap.size ≤ b
section
variable {w wr w' : World} {j : JLoc} {Q : PLoc} {g n L c : Nat} {now : Nat → Byte} {J : Jn} {P P' : Pl}
theorem Plt.ix (h : Plt w wr Q g now P) : IsRow 12 wr ⟨g, 0, none⟩ := (row_of h.box).is (twL_length _)
theorem Plt.cl (h : Plt w wr Q g now P) : cellL 12 wr ⟨g, 0, none⟩ = twL now := (row_of h.box).cells (twL_length _)
theorem Plt.only (h : Plt w wr Q g now P) (ho : Only Q.R wr w') (hp : PlateAt w' Q P') : Plt w w' Q g now P' :=
  ⟨hp, hkeepO ho h.out h.box, R_fresh h.be ho h.new, h.out, h.new⟩
theorem Plt.crash (h : Plt w wr Q g now P) : Calls Try.prog 17 #[pv Q, .slice none 0 0] wr fun e w' => e = .returned (.int .i64 P.may) ∧ Plt w w' Q g now (P.crash []) :=
  Calls.mono (crash_any wr Q P h.pl none [] 0 (Bools.nil _ _) (fun h0 => absurd rfl h0)) fun e w' ⟨h1, h2, h3⟩ => ⟨h1, h.only h3 h2⟩
theorem Plt.boot (h : Plt w wr Q g now P) : Calls Try.prog 18 #[pv Q] wr fun e w' => e = .returned (.int .i64 0) ∧ Plt w w' Q g now P.boot :=
  Calls.mono (boot_any wr Q P h.pl) fun e w' ⟨h1, h2, h3⟩ => ⟨h1, h.only h3 h2⟩
theorem Plt.turn (h : Plt w wr Q g now P) (i bit : Int) : Calls Try.prog 27 #[pv Q, .int .i64 i, .int .i64 bit] wr fun e w' => e = .returned (.int .i64 (P.turnE i bit)) ∧ Plt w w' Q g now (P.turn i bit) :=
  Calls.mono (turn_any wr Q P h.pl i bit) fun e w' ⟨h1, h2, h3⟩ => ⟨h1, h.only h3 h2⟩
theorem Plt.open_ (h : Plt w wr Q g now P) (h1 : P.flushE = 0) (h2 : openJ P.flush = some J) (h3 : KS n L P.flush J now c) (h4 : P.flush.fails = false) :
    Calls Try.prog 36 #[pv Q] wr fun e w' => ∃ o Q', e = .returned (.tuple #[jv o, .int .i64 0]) ∧ pv Q' = pv Q ∧ Liv w w' o Q' g now J P.flush n L c ∧ ∀ k, Liv w wr k Q g now J P n L c → Liv w w' k Q' g now J P.flush n L c := by
  refine Calls.mono (open_any wr Q P h.pl) ?_
  intro e w' hO
  unfold OpenR at hO
  rw [openE_good h1 h2, if_neg (by decide)] at hO
  obtain ⟨o, J', e1, rfl, hj, hp, hm, ho⟩ := hO
  rw [h2] at e1
  cases e1
  have hgl := lt_of_heap h.box
  refine ⟨o, Q.banX [o.p, o.m], rfl, rfl, ⟨hj, h3, h4, hkeepO ho h.out h.box, R_fresh h.be ho h.new, ?_, ?_⟩, ?_⟩
  · intro hx
    simp only [JLoc.R, List.mem_cons] at hx
    rcases hx with e | e | hx
    · omega
    · omega
    · exact h.out hx
  · intro b hb
    have := h.be.size
    simp only [JLoc.R, List.mem_cons] at hb
    rcases hb with e | e | hx
    · omega
    · omega
    · exact h.new b hx
  · intro k hk
    exact ⟨hk.jp.re ho hj.pl (flush_alive h1).2, h3, h4, hkeepO ho h.out h.box, R_fresh h.be ho h.new, hk.out, hk.new⟩
theorem Liv.plt (h : Liv w wr j Q g now J P n L c) : Plt w wr Q g now P := ⟨h.jp.pl, h.box, h.be, fun hm => h.out (JLoc.inQ hm), fun b hb => h.new b (JLoc.inQ hb)⟩
theorem Liv.ix (h : Liv w wr j Q g now J P n L c) : IsRow 12 wr ⟨g, 0, none⟩ := h.plt.ix
theorem Liv.cl (h : Liv w wr j Q g now J P n L c) : cellL 12 wr ⟨g, 0, none⟩ = twL now := h.plt.cl
theorem Liv.below (h : Liv w wr j Q g now J P n L c) (hb : Below wr.heap.size wr w') : Liv w w' j Q g now J P n L c :=
  ⟨h.jp.below hb, h.ks, h.nf, (hb.block _ (lt_of_heap h.box)).trans h.box, Below.step h.be hb, h.out, h.new⟩
theorem Liv.all (h : Liv w wr j Q g now J P n L c) (h12 : 12 + L + 2 ≤ n) : Calls Try.prog 37 #[jv j, twV now] wr fun e w' => e = .returned (.bool true) ∧ Below wr.heap.size wr w' := by
  have := all_is h.jp h.ks.dead now now (fun i hi => by have := h.ks.read (i := i) (by omega); unfold nowF at this; rw [if_pos hi] at this; exact this)
  rw [allB_same] at this
  exact Calls.mono this fun e w' ⟨h1, h2, h3⟩ => ⟨h1, h3⟩
theorem Liv.free (h : Liv w wr j Q g now J P n L c) {m : Nat} (hm : J.free = m) : Calls Try.prog 41 #[jv j] wr fun e w' => e = .returned (.int .i64 m) ∧ Below wr.heap.size wr w' := by
  have := jfree_any h.jp
  rw [hm] at this
  exact Calls.mono this fun e w' ⟨h1, k, h2⟩ => ⟨h1, by rw [h2]; exact below_drewN (Below.refl _ _) k⟩
theorem Liv.open_ (h : Liv w wr j Q g now J P n L c) :
    Calls Try.prog 36 #[pv Q] wr fun e w' => ∃ o Q', e = .returned (.tuple #[jv o, .int .i64 0]) ∧ pv Q' = pv Q ∧ Liv w w' o Q' g now J P.flush n L c ∧ ∀ k, Liv w wr k Q g now J P n L c → Liv w w' k Q' g now J P.flush n L c := by
  obtain ⟨h1, h2, h3, h4⟩ := h.ks.open_ h.nf
  exact h.plt.open_ h1 h2 h3 h4
theorem Liv.clear (h : Liv w wr j Q g now J P n L c) (hc : c ≤ 1000) : Calls Try.prog 40 #[jv j] wr fun e w' => e = .returned (.int .i64 0) ∧ Liv w w' j Q g now J.cleared (clearP P J) n L (c + 1) := by
  obtain ⟨h1, h2, h3, h4⟩ := h.ks.clear h.nf hc
  have := clear_any h.jp (by have := h.ks.head; omega)
  rw [h1] at this
  refine Calls.mono this ?_
  rintro e w' ⟨rfl, hj, ho⟩
  rw [h4] at hj h2
  exact ⟨rfl, hj, h2, h3, hkeepO ho h.out h.box, R_fresh h.be ho h.new, h.out, h.new⟩
/-- The crash, the boot and the opening after it. -/
theorem Liv.back (h : Liv w wr j Q g now J P n L c) (hp : Plt w w' Q g now (P.crash []).boot) :
    Calls Try.prog 36 #[pv Q] w' fun e w'' => ∃ o Q', e = .returned (.tuple #[jv o, .int .i64 0]) ∧ Liv w w'' o Q' g now J (P.crash []).boot.flush n L c := by
  obtain ⟨h1, h2, h3, h4⟩ := h.ks.crash
  exact Calls.mono (hp.open_ h1 h2 h3 h4) fun e w' ⟨o, Q', h1, _, h2, _⟩ => ⟨o, Q', h1, h2⟩
end
end Go.Proofs.Ytdhidcoglioalaa.Walks
