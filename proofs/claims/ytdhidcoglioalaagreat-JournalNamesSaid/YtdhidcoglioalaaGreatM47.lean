/-
  Calls of both: Read.
  Calls of both: Read, the walk.
  Puts are copied.
-/
import Derived.Test.YtdhidcoglioalaaGreatM46
import Derived.Test.YtdhidcoglioalaaGreatM44
import Derived.Deep.RegionHeldLaw
namespace Go.Proofs.YtdhidcoglioalaaGreat.Walks
open Go.RowKit Plain Jn
set_option linter.unusedVariables false
section
variable {sp : Sp} {w0 w w' : World} {x m g n off len : Nat} {a : Array Value} {q : PLoc} {r : RLoc} {j : JLoc} {o : Option (JLoc × Nat)} {J J' J2 : Jn} {P P' P2 : Pl}
theorem jread_zero (h : JP w j q J P) (i : Int) (hz : readE P J i = 0) : Calls Tryz.prog 4 #[jv j, .int .i64 i] w fun e w' => (∃ g o, e = .returned (.tuple #[.slice (some ⟨g, o, none⟩) 48 48, .int .i64 0]) ∧ w.heap.size ≤ g ∧ RowAt w' ⟨g, o, none⟩ (blkL (readB P J i)) ∧ RoomN 48 w' ⟨g, o, none⟩) ∧ readJ P J i = J ∧ Below w.heap.size w w' := by
  have hz' := hz
  unfold readE at hz
  cases hb : J.broken with
  | true => rw [hb] at hz; simp at hz
  | false =>
    rw [hb] at hz
    simp only [Bool.false_eq_true, if_false] at hz
    by_cases h0 : i < 0 ∨ (J.blocks P.n : Int) ≤ i
    · rw [if_pos h0] at hz; cases hz
    · rw [if_neg h0] at hz
      cases hp : J.pend i.toNat with
      | some b =>
        obtain ⟨k, rfl⟩ : ∃ k : Nat, i = k := ⟨i.toNat, by omega⟩
        simp only [Int.toNat_natCast] at hp
        have e1 : readB P J k = b := by unfold readB; simp only [Int.toNat_natCast, hp]
        have e2 : readJ P J k = J := by unfold readJ; rw [hb, if_neg h0]; simp only [Int.toNat_natCast, hp]; simp
        rw [e1, e2]
        refine Calls.mono (read_pend h k hb (by omega) hp) ?_
        rintro e w' ⟨⟨g, rfl, h1, h2, h3⟩, _, h4⟩
        exact ⟨⟨g, 0, rfl, h1, h2, h3⟩, rfl, h4⟩
      | none =>
        rw [hp] at hz
        simp only at hz
        have hh : P.has (J.home i.toNat) = 0 := by
          by_cases hh : P.has (J.home i.toNat) = 0
          · exact hh
          · rw [if_pos hh] at hz; exact absurd hz hh
        have hd := (Pl.has_zero hh).1
        have e2 : readJ P J i = J := by unfold readJ; rw [hb, if_neg h0, hp]; simp [hh]
        refine Calls.mono (jread_bel h hd i) ?_
        rintro e w' ⟨⟨v, rfl, hv⟩, _, h4⟩
        unfold ReadV at hv
        rw [if_pos hz'] at hv
        obtain ⟨g, o, rfl, h1, h2, h3⟩ := hv
        rw [hz']
        exact ⟨⟨g, o, rfl, h1, h2, h3⟩, e2, h4⟩
/-- Bytes that may be written over. -/
structure Pk (sp : Sp) (w0 w : World) (x : Nat) (q : PLoc) (r : RLoc) (j : JLoc) (m g off len : Nat) : Prop where
  cells : ∀ i, i < len → ∃ c : Int, w.cell? ⟨g, off + i, none⟩ = some (.int .u8 c) ∧ w.frozen? ⟨g, off + i, none⟩ = false
  gq : g ∈ q.ban
  gr : g ∈ r.ban
  nq : g ∉ q.R
  nr : g ∉ r.R
  nx : g ≠ x
  np : g ≠ j.p
  nm : g ≠ j.m
  nd : g ≠ m
  ge : w0.heap.size ≤ g
  gs : ∀ g' D, sp = some (g', D) → g ≠ g'
theorem Pk.only (h : Pk sp w0 w x q r j m g off len) {R : List Nat} (ho : Only R w w') (hR : g ∉ R) : Pk sp w0 w' x q r j m g off len :=
  have hc : ∀ i, i < len → ∃ c : Int, w'.cell? ⟨g, off + i, none⟩ = some (.int .u8 c) ∧ w'.frozen? ⟨g, off + i, none⟩ = false := fun i hi => by
    obtain ⟨c, h1, h2⟩ := h.cells i hi
    exact ⟨c, ho.cell hR h1, by unfold World.frozen? at h2 ⊢; simp only [ho.block g (block_lt_of_cell h1) hR]; exact h2⟩
  { h with cells := hc }
theorem Pk.below (h : Pk sp w0 w x q r j m g off len) (hb : Below w.heap.size w w') : Pk sp w0 w' x q r j m g off len := h.only (R := []) (Only.of_below hb) (by simp)
theorem Pk.notR (h : Pk sp w0 w x q r j m g off len) : g ∉ j.R q := fun hm => by
  simp only [JLoc.R, List.mem_cons] at hm
  rcases hm with e | e | e
  · exact h.np e
  · exact h.nm e
  · exact h.nq e
theorem Pk.notM (h : Pk sp w0 w x q r j m g off len) : g ∉ m :: r.R := fun hm => by
  rcases List.mem_cons.1 hm with e | e
  · exact h.nd e
  · exact h.nr e
theorem Pk.set (h : Pk sp w0 w x q r j m g off len) {i : Nat} (c : Int) : Pk sp w0 (w.setCell ⟨g, off + i, none⟩ (.int .u8 c)) x q r j m g off len :=
  have hc : ∀ k, k < len → ∃ d : Int, (w.setCell ⟨g, off + i, none⟩ (.int .u8 c)).cell? ⟨g, off + k, none⟩ = some (.int .u8 d) ∧ (w.setCell ⟨g, off + i, none⟩ (.int .u8 c)).frozen? ⟨g, off + k, none⟩ = false := fun k hk => by
    obtain ⟨d, h1, h2⟩ := h.cells k hk
    by_cases e : k = i
    · subst e
      exact ⟨_, World.cell?_setCell_same _ _ _ h1, by rw [World.frozen?_setCell]; exact h2⟩
    · exact ⟨d, by rw [World.cell?_setCell_other _ _ _ _ (fun h => e (by injection h with _ h2 _; omega))]; exact h1, by rw [World.frozen?_setCell]; exact h2⟩
  { h with cells := hc }
theorem BT.pk (h : BT sp w0 w x q r (some (j, m)) J J' P P') (hk : Pk sp w0 w x q r j m g off len) (i : Nat) (c : Int) : BT sp w0 (w.setCell ⟨g, off + i, none⟩ (.int .u8 c)) x q r (some (j, m)) J J' P P' :=
  h.poke (R := [g]) ((Only.refl _ _).setCell (p := ⟨g, off + i, none⟩) (by simp) _) (fun y hy => by simp at hy; subst hy; exact ⟨hk.gq, hk.gr, hk.nq, hk.nr, hk.nx, hk.ge⟩) (fun y hy => by simp at hy; subst hy; exact hk.gs) (fun y hy j' m' e => by simp at hy; subst hy; cases e; exact ⟨hk.np, hk.nm, hk.nd⟩)
theorem BT.old (h : BT sp w0 w x q r (some (j, m)) J J' P P') {g : Nat} (hg : w.heap.size ≤ g) : g ∉ q.R ∧ g ∉ r.R ∧ g ≠ x ∧ g ≠ j.p ∧ g ≠ j.m ∧ g ≠ m ∧ w0.heap.size ≤ g := by
  have k := h.jn j m rfl
  have l1 := k.jp.lt j.p JLoc.inP
  have l2 := k.jp.lt j.m JLoc.inM
  have l3 := k.rj.lt
  have l4 := h.bn.lt
  exact ⟨fun hm => by have := h.bn.mix.pl.lt _ hm; omega, fun hm => by have := h.bn.mix.rf.x.lt _ hm; omega, by omega, by omega, by omega, by omega, Nat.le_trans h.bn.mix.be.size hg⟩
theorem room_cells {w : World} {g o : Nat} {b : Blk} (h2 : RowAt w ⟨g, o, none⟩ (blkL b)) (h3 : RoomN 48 w ⟨g, o, none⟩) : ∀ i, i < 48 → ∃ c : Int, w.cell? ⟨g, o + i, none⟩ = some (.int .u8 c) ∧ w.frozen? ⟨g, o + i, none⟩ = false := fun i hi => by
  have hB := bys_row h2
  rcases hB.2 with h | ⟨b', off', e, hc⟩
  · have := bytesB_length b; rw [h] at this; simp at this
  · cases e
    have := hc i (by rw [bytesB_length]; exact hi)
    exact ⟨_, this, (h3.2 i hi).2⟩
theorem c_read0 (h : BT sp w0 w x q r (some (j, m)) J J P P) (i : Int) (hz : readE P J i = 0) : Calls Tryz.prog 4 #[jv j, .int .i64 i] w fun e w' => ∃ g off, e = .returned (.tuple #[.slice (some ⟨g, off, none⟩) 48 48, .int .i64 0]) ∧ BT sp w0 w' x (q.banX [g]) (r.banX [g]) (some (j, m)) J J P P ∧ Bys w' (some ⟨g, off, none⟩) (bytesB (readB P J i)) ∧ Pk sp w0 w' x (q.banX [g]) (r.banX [g]) j m g off 48 ∧ Below w.heap.size w w' := by
  refine Calls.mono (jread_zero (h.jn j m rfl).jp i hz) ?_
  rintro e w' ⟨⟨g, off, rfl, h1, h2, h3⟩, _, hb⟩
  obtain ⟨n1, n2, n3, n4, n5, n6, n7⟩ := h.old h1
  have hc := room_cells h2 h3
  obtain ⟨c0, hc0, _⟩ := hc 0 (by omega)
  have hlt := block_lt_of_cell hc0
  exact ⟨g, off, rfl, h.banned hb (fun y hy => by simp at hy; subst hy; exact ⟨h1, hlt⟩), bys_row h2, ⟨hc, List.mem_append_left _ (by simp), List.mem_append_left _ (by simp), n1, n2, n3, n4, n5, n6, n7, fun g' D e he => by have := (h.bn.spc.d g' D e).2.1; omega⟩, hb⟩
theorem m_read0 (h : BT sp w0 w x q r (some (j, m)) J J P P) (i : Int) (hz : readE P J i = 0) {l : List Byte} (hB : Bys w (some ⟨g, off, none⟩) l) (hk : Pk sp w0 w x q r j m g off len) : Calls Tryz.prog 86 #[mv m, .int .i64 i] w fun e w' => ∃ a c, e = .returned (.tuple #[.slice a 48 c, .int .i64 0]) ∧ BT sp w0 w' x q r (some (j, m)) J (readJ P J i) P P ∧ Bys w' a (bytesB (readB P J i)) ∧ Bys w' (some ⟨g, off, none⟩) l ∧ Pk sp w0 w' x q r j m g off len := by
  refine Calls.mono (rj_read (h.jn j m rfl).rj i) ?_
  rintro e w' ⟨⟨v, rfl, hv⟩, hj, ho⟩
  unfold DocV at hv
  rw [if_pos hz] at hv
  obtain ⟨a, c, rfl, hB2, _⟩ := hv
  rw [hz]
  exact ⟨a, c, rfl, h.docu hj ho, hB2, hB.only ho (fun ad e => by cases e; exact hk.notM), hk.only ho hk.notM⟩
theorem c_readN (h : BT sp w0 w x q r (some (j, m)) J J P P) (i : Int) (hz : readE P J i ≠ 0) : Calls Tryz.prog 4 #[jv j, .int .i64 i] w fun e w' => e = .returned (.tuple #[.slice none 0 0, .int .i64 (readE P J i)]) ∧ BT sp w0 w' x q r (some (j, m)) (readJ P J i) J P P ∧ Only (j.R q) w w' := by
  refine Calls.mono (jread_any (h.jn j m rfl).jp i) ?_
  rintro e w' ⟨⟨v, rfl, hv⟩, hj, ho⟩
  unfold ReadV at hv
  rw [if_neg hz] at hv
  subst hv
  exact ⟨rfl, h.prog hj ho, ho⟩
theorem m_readN (h : BT sp w0 w x q r (some (j, m)) J2 J P P) (i : Int) (hz : readE P J i ≠ 0) : Calls Tryz.prog 86 #[mv m, .int .i64 i] w fun e w' => e = .returned (.tuple #[.slice none 0 0, .int .i64 (readE P J i)]) ∧ BT sp w0 w' x q r (some (j, m)) J2 (readJ P J i) P P := by
  refine Calls.mono (rj_read (h.jn j m rfl).rj i) ?_
  rintro e w' ⟨⟨v, rfl, hv⟩, hj, ho⟩
  unfold DocV at hv
  rw [if_neg hz] at hv
  subst hv
  exact ⟨rfl, h.docu hj ho⟩
theorem readJ_zero {i : Int} (h : readE P J i = 0) : readJ P J i = J := by
  unfold readE at h
  unfold readJ
  split
  · rfl
  · split
    · rfl
    · rename_i h1 h2
      rw [if_neg h1, if_neg h2] at h
      cases hp : J.pend i.toNat with
      | some b => rfl
      | none =>
        rw [hp] at h
        simp only at h ⊢
        by_cases hh : P.has (J.home i.toNat) = 0
        · rw [if_neg (by simp [hh])]
        · rw [if_pos hh] at h; exact absurd h hh
end
end Go.Proofs.YtdhidcoglioalaaGreat.Walks
namespace Go.Proofs.YtdhidcoglioalaaGreat.Walks
open Go.RowKit Plain Jn
set_option linter.unusedVariables false
section
variable {sp : Sp} {w0 w w' : World} {x m g n off len : Nat} {a : Array Value} {q : PLoc} {r : RLoc} {j : JLoc} {o : Option (JLoc × Nat)} {J J' J2 : Jn} {P P' P2 : Pl}
set_option maxRecDepth 20000 in
set_option maxHeartbeats 8000000 in
theorem calls_read (h : BT sp w0 w x q r (some (j, m)) J J P P) (hdw : DW P) (s : Nat) (S : Prop) (hS : S → Sure P) (hJ : JBd J s) {kd A bit : Int} {la ka ba : Option Addr} {ln lc kc bc kl bl : Nat} (h2 : kd % 9 = 1) :
    Calls Tryz.prog 60 #[xv x, .agg #[.int .i64 kd, .int .i64 A, .int .i64 bit, .slice la ln lc, .slice ka kl kc, .slice ba bl bc]] w fun e w' => e = .returned (.bool true) ∧ All sp w0 w' x (s + 1) S P.n := by
  obtain ⟨n, hn⟩ : ∃ n, n = P.n := ⟨_, rfl⟩
  rw [← hn]
  have HFin : Hid (∀ w' q' r', BT sp w0 w' x q' r' (some (j, m)) (readJ P J A) (readJ P J A) P P → All sp w0 w' x (s + 1) S n) := Lib.hid fun w' q' r' h => h.all (Goes.refl S P) hdw hS hn (readJ_bound A hJ.up)
  have HBr := Lib.hid (bring_any kd 9)
  rw [h2] at HBr
  have H := Lib.hid h
  clear h hdw hS hJ h2 hn
  go_enter Tryz.func60, Tryz.ntmps60
  go_upto_region 1 with (fail)
  obtain ⟨wa, hwa⟩ : ∃ x, x = w.alloc (.cells #[.int .i64 kd, .int .i64 A, .int .i64 bit, .slice la ln lc, .slice ka kl kc, .slice ba bl bc] 43) := ⟨_, rfl⟩
  have hba : Below w.heap.size w wa := by rw [hwa]; exact Below.new _ _
  have t0 : wa.cell? ⟨w.heap.size, 0, none⟩ = some (.int .i64 kd) := by rw [hwa, cell_new]; rfl
  have t1 : wa.cell? ⟨w.heap.size, 1, none⟩ = some (.int .i64 A) := by rw [hwa, cell_new]; rfl
  have HB := Lib.hid (H.out.below hba)
  obtain ⟨g, hg⟩ : ∃ g, g = w.heap.size := ⟨_, rfl⟩
  obtain ⟨n1, n2, n3, n4, n5, n6, n7⟩ := H.out.old (g := g) (by omega)
  have HNj : Hid (g ∉ j.R q) := Lib.hid fun hm => by
    simp only [JLoc.R, List.mem_cons] at hm
    rcases hm with e | e | e
    · exact n4 e
    · exact n5 e
    · exact n1 e
  rw [← hg] at t0 t1
  rw [← hg, ← hwa]
  clear hwa hba hg n1 n2 n3 n4 n5 n6 n7
  go_wp2_with fail
  refine Calls.mono (HBr.out wa (by decide) (by decide)) ?_
  rintro e wx ⟨rfl, rfl⟩
  have s1 := HB.out.jx
  clear t0 HBr
  by_cases hz : readE P J A = 0
  · have HZ := Lib.hid hz
    have HC1 : Hid (∀ w', Below wa.heap.size wa w' → Calls Tryz.prog 4 #[jv j, .int .i64 A] w' fun e w'' => ∃ gb off, e = .returned (.tuple #[.slice (some ⟨gb, off, none⟩) 48 48, .int .i64 0]) ∧ (BT sp w0 w'' x (q.banX [gb]) (r.banX [gb]) (some (j, m)) J J P P ∧ Bys w'' (some ⟨gb, off, none⟩) (bytesB (readB P J A)) ∧ Pk sp w0 w'' x (q.banX [gb]) (r.banX [gb]) j m gb off 48 ∧ w''.cell? ⟨g, 1, none⟩ = some (.int .i64 A))) := Lib.hid fun w' hb => by
      refine Calls.mono (c_read0 (HB.out.below hb) A hz) ?_
      rintro e w'' ⟨gb, off, rfl, h1, h2, h3, h4⟩
      exact ⟨gb, off, rfl, h1, h2, h3, keepc h4 (keepc hb t1)⟩
    have hS : Below wa.heap.size wa wa := Below.refl _ _
    clear hz
    go_upto_region 20 with (fail)
    go_cut [10, 11] from 105 to 114 (fun v10 v11 wx => ∃ gb off, v10 = .slice (some ⟨gb, off, none⟩) 48 48 ∧ v11 = .int .i64 0 ∧ Hid (BT sp w0 wx x (q.banX [gb]) (r.banX [gb]) (some (j, m)) J J P P ∧ Bys wx (some ⟨gb, off, none⟩) (bytesB (readB P J A)) ∧ Pk sp w0 wx x (q.banX [gb]) (r.banX [gb]) j m gb off 48 ∧ wx.cell? ⟨g, 1, none⟩ = some (.int .i64 A)))
    case first =>
      go_region_with ((go_at_call 4; ((with_reducible refine Calls.mono (HC1.out _ ?_) ?_); (first | with_reducible exact hS | with_reducible exact Below.drew hS | with_reducible exact Below.step hS (Below.new _ _) | with_reducible exact Below.step (Below.drew hS) (Below.new _ _) | with_reducible exact Below.drew (Below.step hS (Below.new _ _))); rintro e w1 ⟨gb, off, rfl, hb⟩; have HB1 := Lib.hid hb; clear hb)))
      all_goals
        go_wp2
        go_meet
        exact ⟨gb, off, rfl, rfl, HB1⟩
    case rest =>
      obtain ⟨gb, off, rfl, rfl, HB1⟩ := hcut
      clear s1 t1 HC1 hS HB
      obtain ⟨Q, hQ⟩ : ∃ Q : PLoc, Q = q.banX [gb] := ⟨_, rfl⟩
      obtain ⟨R, hR⟩ : ∃ R : RLoc, R = r.banX [gb] := ⟨_, rfl⟩
      rw [← hQ, ← hR] at HB1
      clear hQ hR
      have t1 := HB1.out.2.2.2
      have s3 := HB1.out.1.mx
      have HC2 : Hid (∀ w', Below wc.heap.size wc w' → Calls Tryz.prog 86 #[mv m, .int .i64 A] w' fun e w'' => ∃ a c, e = .returned (.tuple #[.slice a 48 c, .int .i64 0]) ∧ (BT sp w0 w'' x Q R (some (j, m)) J J P P ∧ Bys w'' a (bytesB (readB P J A)) ∧ Bys w'' (some ⟨gb, off, none⟩) (bytesB (readB P J A)) ∧ Pk sp w0 w'' x Q R j m gb off 48)) := Lib.hid fun w' hb => by
        refine Calls.mono (m_read0 (HB1.out.1.below hb) A HZ.out (HB1.out.2.1.below hb) (HB1.out.2.2.1.below hb)) ?_
        rintro e w'' ⟨a, c, rfl, h1, h2, h3, h4⟩
        rw [readJ_zero HZ.out] at h1
        exact ⟨a, c, rfl, h1, h2, h3, h4⟩
      have hS : Below wc.heap.size wc wc := Below.refl _ _
      obtain ⟨wd, hwd⟩ : ∃ wd, wd = wc := ⟨_, rfl⟩
      subst hwd
      go_upto_region 21 with (fail)
      go_cut [12, 13] from 115 to 124 (fun v12 v13 wx => ∃ a c, v12 = .slice a 48 c ∧ v13 = .int .i64 0 ∧ Hid (BT sp w0 wx x Q R (some (j, m)) J J P P ∧ Bys wx a (bytesB (readB P J A)) ∧ Bys wx (some ⟨gb, off, none⟩) (bytesB (readB P J A)) ∧ Pk sp w0 wx x Q R j m gb off 48))
      case first =>
        go_region_with ((go_at_call 86; ((with_reducible refine Calls.mono (HC2.out _ ?_) ?_); (first | with_reducible exact hS | with_reducible exact Below.drew hS | with_reducible exact Below.step hS (Below.new _ _) | with_reducible exact Below.step (Below.drew hS) (Below.new _ _) | with_reducible exact Below.drew (Below.step hS (Below.new _ _))); rintro e w1 ⟨a, c, rfl, hb⟩; have HB2 := Lib.hid hb; clear hb)))
        all_goals
          go_wp2
          go_meet
          exact ⟨a, c, rfl, rfl, HB2⟩
      case rest =>
        obtain ⟨a, c, rfl, rfl, HB2⟩ := hcut
        clear s3 t1 HC2 hS HB1
        go_wp2_with fail
        refine Calls.mono (eqBs_is (r := true) (bytesB_length _) (bytesB_length _) (decide_eq_true rfl) HB2.out.2.2.1 HB2.out.2.1) ?_
        rintro e w3 ⟨rfl, hb3⟩
        have HB3 : Hid (BT sp w0 w3 x Q R (some (j, m)) J J P P ∧ Pk sp w0 w3 x Q R j m gb off 48) := Lib.hid ⟨HB2.out.1.below hb3, HB2.out.2.2.2.below hb3⟩
        clear hb3 HB2
        go_wp2_with fail
        go_loopw [14] (fun i wr => ∃ k : Nat, k ≤ 48 ∧ i = .int .i64 k ∧ Hid (BT sp w0 wr x Q R (some (j, m)) J J P P ∧ Pk sp w0 wr x Q R j m gb off 48)) (fun i _ => 48 - (RowKit.intOf i).toNat)
        case atStart => exact ⟨0, by omega, rfl, HB3⟩
        case round =>
          clear HB3
          obtain ⟨k, hk, rfl, HR⟩ := hrel
          by_cases hlt : k < 48
          · obtain ⟨ch, hc, hf⟩ := HR.out.2.cells k hlt
            go_wp2
            go_roundw
            case rel => exact ⟨k + 1, by omega, by go_num, Lib.hid ⟨HR.out.1.pk HR.out.2 k _, HR.out.2.set _⟩⟩
            case measure => simp [RowKit.intOf]; omega
          · go_wp2
            go_ret
            exact ⟨rfl, HFin.out _ Q R (by rw [readJ_zero HZ.out]; exact HR.out.1)⟩
  · have HC1 : Hid (∀ w', Below wa.heap.size wa w' → Calls Tryz.prog 4 #[jv j, .int .i64 A] w' fun e w'' => e = .returned (.tuple #[.slice none 0 0, .int .i64 (readE P J A)]) ∧ (BT sp w0 w'' x q r (some (j, m)) (readJ P J A) J P P ∧ w''.cell? ⟨g, 1, none⟩ = some (.int .i64 A))) := Lib.hid fun w' hb => by
      refine Calls.mono (c_readN (HB.out.below hb) A hz) ?_
      rintro e w'' ⟨rfl, h1, h2⟩
      exact ⟨rfl, h1, h2.cell HNj.out (keepc hb t1)⟩
    have HC2 : Hid (∀ w', BT sp w0 w' x q r (some (j, m)) (readJ P J A) J P P → Calls Tryz.prog 86 #[mv m, .int .i64 A] w' fun e w'' => e = .returned (.tuple #[.slice none 0 0, .int .i64 (readE P J A)]) ∧ BT sp w0 w'' x q r (some (j, m)) (readJ P J A) (readJ P J A) P P) := Lib.hid fun w' h => m_readN h A hz
    obtain ⟨z, hze⟩ : ∃ z, z = readE P J A := ⟨_, rfl⟩
    rw [← hze] at HC1 HC2
    have hS : Below wa.heap.size wa wa := Below.refl _ _
    clear hz hze
    go_upto_region 20 with (fail)
    go_cut [10, 11] from 105 to 114 (fun v10 v11 wx => v10 = .slice none 0 0 ∧ v11 = .int .i64 z ∧ Hid (BT sp w0 wx x q r (some (j, m)) (readJ P J A) J P P ∧ wx.cell? ⟨g, 1, none⟩ = some (.int .i64 A)))
    case first =>
      go_region_with ((go_at_call 4; ((with_reducible refine Calls.mono (HC1.out _ ?_) ?_); (first | with_reducible exact hS | with_reducible exact Below.drew hS | with_reducible exact Below.step hS (Below.new _ _) | with_reducible exact Below.step (Below.drew hS) (Below.new _ _) | with_reducible exact Below.drew (Below.step hS (Below.new _ _))); rintro e w1 ⟨rfl, hb⟩; have HB1 := Lib.hid hb; clear hb)))
      all_goals
        go_wp2
        go_meet
        exact ⟨rfl, rfl, HB1⟩
    case rest =>
      obtain ⟨rfl, rfl, HB1⟩ := hcut
      clear s1 t1 HC1 hS HB
      have t1 := HB1.out.2
      have s3 := HB1.out.1.mx
      obtain ⟨wd, hwd⟩ : ∃ wd, wd = wc := ⟨_, rfl⟩
      subst hwd
      go_upto_region 21 with (fail)
      go_cut [12, 13] from 115 to 124 (fun v12 v13 wx => v12 = .slice none 0 0 ∧ v13 = .int .i64 z ∧ Hid (BT sp w0 wx x q r (some (j, m)) (readJ P J A) (readJ P J A) P P))
      case first =>
        go_region_with ((go_at_call 86; ((with_reducible refine Calls.mono (HC2.out _ (by first | exact HB1.out.1 | exact HB1.out.1.below (Below.refl _ _).drew)) ?_); rintro e w1 ⟨rfl, hb⟩; have HB2 := Lib.hid hb; clear hb)))
        all_goals
          go_wp2
          go_meet
          exact ⟨rfl, rfl, HB2⟩
      case rest =>
        obtain ⟨rfl, rfl, HB2⟩ := hcut
        clear s3 t1 HC2 HB1
        go_wp2_with fail
        refine Calls.mono (eqBs_is (l := []) (l' := []) (r := true) rfl rfl rfl (Bys.nil _ _) (Bys.nil _ _)) ?_
        rintro e w3 ⟨rfl, hb3⟩
        have HB3 := Lib.hid (HB2.out.below hb3)
        clear hb3 HB2
        go_wp2_with fail
        go_loopw [14] (fun i wr => i = .int .i64 0 ∧ w3 = wr) (fun _ _ => 0)
        case atStart => exact ⟨rfl, rfl⟩
        case round =>
          obtain ⟨rfl, rfl⟩ := hrel
          go_wp2
          go_ret
          exact ⟨rfl, HFin.out _ q r HB3.out⟩
end
end Go.Proofs.YtdhidcoglioalaaGreat.Walks
namespace Go.Proofs.YtdhidcoglioalaaGreat.Walks
open Go.RowKit Plain Jn
set_option linter.unusedVariables false
/-- append(l, put), in a region that draws its order. -/
theorem step_append_q {w : World} {ops : Array Oper} {o : Oper} {a : Act} {K : Act → World → Prop} {Q : Exit → Act → World → Prop} {X : Prop} (T TS : TypeId) (hgd : o.guard = none) (s x : Operand)
    (ho : o.op = .call { callee := .builtin .append, args := #[s, x], argTypes := #[TS, TS] }) (hTS : Tryz.prog.underlying TS = some (.slice T)) (hinfo : (Tryz.prog.info? T).map (fun i => (i.zero, i.size, i.bytes)) = some (some (.agg #[.int .i64 0, .slice none 0 0]), 2, 32)) (hT5 : T ≠ 5)
    (base : Nat) (N : List Nat) (v : Value) (l : List (Int × List Byte)) (hs : a.eval s = v) (hown : OwnQ T w base N v l)
    (g c2 : Nat) (y : Int × List Byte) (da : Option Addr) (yl dc : Nat) (hyl : y.2.length = yl) (hx : a.eval x = .slice (some ⟨g, 0, none⟩) 1 c2) (hg : w.heap[g]? = some (.cells #[.int .i64 y.1, .slice da yl dc] T (0, 0))) (hd : Dat w N (.slice da yl dc) y.2) (hbase : base ≤ w.heap.size) (n : Nat) (hn : l.length = n) (hlen : n ≤ 10000) (r : List (Int × List Byte)) (hr : l ++ [y] = r)
    (h : ∀ a' cap' w', OwnQ T w' base N (.slice a' (n + 1) cap') r → Below base w w' → (∀ (b : Nat) (cs : Array Value) (t : TypeId), t ≠ T → w.heap[b]? = some (.cells cs t (0, 0)) → w'.heap[b]? = w.heap[b]?) → K (a.put o.dst (.slice a' (n + 1) cap')) w') :
    if Region.wanted o (yielded ops a.tmps) = true then Oper.wp Tryz.prog o a w K Q else X := by
  obtain ⟨i0, hi, hz0, hz1, hz2⟩ := info_parts hinfo
  subst hn hr hyl
  obtain ⟨vs, hrow, hdat⟩ := hown.row
  have hvl : vs.length = l.length * 2 := hrow.1
  refine step_append_lies w hgd s x TS ho base T i0 _ 2 32 hTS hi hz0 hz1 hz2 rfl (by decide) v l.length vs hs hrow ⟨g, 0, none⟩ 1 c2 [.int .i64 y.1, .slice da y.2.length dc] hx (by simp)
    (World.news_of_block hg) (fun u hu => by simp only [List.mem_cons, List.not_mem_nil, or_false] at hu; rcases hu with rfl | rfl <;> rfl) (by omega)
      (by unfold maxLen; omega) (by omega) hbase w.heap.size rfl ?_
  intro g' cap w' h1 h2 hat hlt
  have hkeep : ∀ (b : Nat) (cs : Array Value) (t : TypeId), t ≠ T → w.heap[b]? = some (.cells cs t (0, 0)) → w'.heap[b]? = w.heap[b]? := by
    intro b cs t ht hbk
    refine h2.block b (lt_of_heap hbk) ?_
    obtain ⟨_, ⟨e, _⟩ | ⟨g', cap', cur, e, _, hg', _⟩⟩ := hrow
    · rw [e]; simp [Value.ownBlock]
    · rw [e]
      intro he
      have : b = g' := by simpa [Value.ownBlock] using he
      subst this
      rw [hg'] at hbk
      cases hbk
      exact ht rfl
  have hbel : Below base w w' := by
    refine ⟨h2.os, h2.tape, h2.output, h2.size, fun i hi => h2.block i (by omega) ?_⟩
    obtain ⟨_, ⟨e, _⟩ | ⟨g', cap', cur, e, hg', _⟩⟩ := hrow
    · rw [e]; simp [Value.ownBlock]
    · rw [e]
      intro he
      have : i = g' := by simpa [Value.ownBlock] using he
      omega
  have hdk : ∀ {u : Value} {d : List Byte}, Dat w N u d → Dat w' N u d := fun hu => ⟨hu.own.of fun b hb => by
    obtain ⟨_, _, cs, hcs⟩ := hu.own.blk hb
    exact hkeep b cs 5 (fun e => hT5 e.symm) hcs, hu.out⟩
  refine h _ _ w' ⟨vs ++ [.int .i64 y.1, .slice da y.2.length dc], by rw [List.length_append]; exact h1, fun k x2 hx2 => ?_⟩ hbel hkeep
  by_cases hk : k < l.length
  · rw [List.getElem?_append_left hk] at hx2
    obtain ⟨da2, dc2, b1, b2, b3⟩ := hdat k x2 hx2
    exact ⟨da2, dc2, by rw [List.getElem?_append_left (by omega)]; exact b1, by rw [List.getElem?_append_left (by omega)]; exact b2, hdk b3⟩
  · have hk2 : k = l.length := by
      have := (List.getElem?_eq_some_iff.1 hx2).1
      simp at this
      omega
    subst hk2
    rw [List.getElem?_append_right (by omega)] at hx2
    simp only [Nat.sub_self, List.getElem?_cons_zero, Option.some.injEq] at hx2
    subst hx2
    refine ⟨da, dc, ?_, ?_, hdk hd⟩
    · rw [List.getElem?_append_right (by omega), hvl, Nat.sub_self]; rfl
    · rw [List.getElem?_append_right (by omega), hvl, show l.length * 2 + 1 - l.length * 2 = 1 by omega]; rfl
/-- Puts in memory, in blocks that are none of R. -/
structure PutsC (w : World) (R : List Nat) (a : Option Addr) (l : List (Int × List Byte)) : Prop where
  len : l.length ≤ 100
  wf : ∀ x ∈ l, Wf x.1 ∧ x.2.length ≤ 100
  mem : l = [] ∨ ∃ b off, a = some ⟨b, off, none⟩ ∧ b ∉ R ∧ ∀ k (h : k < l.length), ∃ da dc, PutAt w R b (off + k * 2) l[k] da dc ∧ (da = none → dc = 0)
section
variable {w w' : World} {R N : List Nat} {a : Option Addr} {l : List (Int × List Byte)}
theorem PutsC.only {R' : List Nat} (h : PutsC w R a l) (ho : Only R' w w') (hR : ∀ b ∈ R', b ∈ R) : PutsC w' R a l :=
  ⟨h.len, h.wf, h.mem.imp id fun ⟨b, off, e, hn, hc⟩ => ⟨b, off, e, hn, fun k hk => by
    obtain ⟨da, dc, c, hd⟩ := hc k hk
    exact ⟨da, dc, ⟨ho.cell (fun hm => hn (hR _ hm)) c.c0, ho.cell (fun hm => hn (hR _ hm)) c.c1, c.bys.only ho (fun ad e hm => c.out ad e (hR _ hm)), c.out, c.wf⟩, hd⟩⟩⟩
theorem PutsC.below (h : PutsC w R a l) (hb : Below w.heap.size w w') : PutsC w' R a l := h.only (R' := []) (Only.of_below hb) (fun b hb => by simp at hb)
theorem PutsC.puts (h : PutsC w R a l) : PutsAt w R a l :=
  ⟨by have := h.len; omega, h.mem.imp id fun ⟨b, off, e, hn, hc⟩ => ⟨b, off, e, hn, fun k hk => by obtain ⟨da, dc, c, _⟩ := hc k hk; exact ⟨da, dc, c⟩⟩⟩
/-- Fresh puts. -/
theorem OwnQ.putsC {base n c : Nat} (h : OwnQ 39 w base (List.range base) (.slice a n c) l) (hR : ∀ b ∈ R, b < base) (h1 : l.length ≤ 100) (h2 : ∀ x ∈ l, Wf x.1 ∧ x.2.length ≤ 100) : PutsC w R a l := by
  refine ⟨h1, h2, ?_⟩
  rcases h.form with ⟨e, _⟩ | ⟨g, c', e, _, hb, _, _, hc⟩
  · exact .inl e
  · simp only [Value.slice.injEq] at e
    obtain ⟨rfl, _, _⟩ := e
    refine .inr ⟨g, 0, rfl, fun hm => by have := hR g hm; omega, fun k hk => ?_⟩
    obtain ⟨da, dc, b1, b2, b3⟩ := hc k _ (List.getElem?_eq_getElem hk)
    have hx := h2 _ (List.getElem_mem hk)
    obtain ⟨a2, c2, e2, hB, _, hnc⟩ := b3.own.bys (by omega)
    simp only [Value.slice.injEq] at e2
    obtain ⟨rfl, _, rfl⟩ := e2
    exact ⟨da, dc, ⟨by rw [Nat.zero_add]; exact b1, by rw [Nat.zero_add]; exact b2, hB, fun ad e hm => b3.out ad.block (by rw [e]; rfl) (List.mem_range.2 (hR _ hm)), hx.1⟩, hnc⟩
theorem OwnQ.putsQ {base n c : Nat} (h : OwnQ 150 w base (List.range base) (.slice a n c) l) (hR : ∀ b ∈ N, b < base) (h1 : l.length ≤ 100) (h2 : ∀ x ∈ l, Wf x.1 ∧ x.2.length ≤ 100) : PutsQ w N (.slice a n c) l :=
  ⟨(h.mono (Nat.zero_le _)).banned (Below.refl _ _) (fun b hb => .inl (List.mem_range.2 (hR b hb))), fun g hg hm => by have := (h.blk hg).1; have := hR g hm; omega, by omega, fun x hx => ⟨(h2 x hx).1, by have := (h2 x hx).2; omega⟩⟩
set_option maxRecDepth 10000 in
set_option maxHeartbeats 4000000 in
theorem puts_is (w : World) (a : Option Addr) (n c : Nat) (l : List (Int × List Byte)) (hn : l.length = n) (hl : PutsC w [] a l) :
    Calls Tryz.prog 85 #[.slice a n c] w fun e w' => ∃ a' c', e = .returned (.slice a' n c') ∧ OwnQ 150 w' w.heap.size (List.range w.heap.size) (.slice a' n c') l ∧ Below w.heap.size w w' := by
  have HL := Lib.hid hl
  have HN := Lib.hid hn
  have hn100 : n ≤ 100 := by rw [← hn]; exact hl.len
  clear hl hn
  go_enter Tryz.func85, Tryz.ntmps85
  go_wp2
  go_loopw [3, 4] (fun v i wr => ∃ k : Nat, k ≤ n ∧ i = .int .i64 k ∧ ∃ a' c', v = .slice a' k c' ∧ Hid (OwnQ 150 wr w.heap.size (List.range w.heap.size) (.slice a' k c') (l.take k)) ∧ Hid (Below w.heap.size w wr)) (fun _ i _ => n - (RowKit.intOf i).toNat)
  case atStart => exact ⟨0, Nat.zero_le _, rfl, none, 0, rfl, Lib.hid (by rw [List.take_zero]; exact OwnQ.nil 150 w _ _), Lib.hid (Below.refl _ _)⟩
  case round =>
    obtain ⟨k, hk, rfl, a', c', rfl, HQ, HB⟩ := hrel
    by_cases hlt : k < n
    · have hkl : k < l.length := by have := HN.out; omega
      obtain ⟨b, off, rfl, _, hc⟩ : ∃ b off, a = some ⟨b, off, none⟩ ∧ b ∉ ([] : List Nat) ∧ ∀ k (h : k < l.length), ∃ da dc, PutAt w [] b (off + k * 2) l[k] da dc ∧ (da = none → dc = 0) := by
        rcases HL.out.mem with h | h
        · rw [h] at hkl; simp at hkl
        · exact h
      obtain ⟨da, dc, hp, hdc⟩ := hc k hkl
      obtain ⟨hwx, hlx⟩ := HL.out.wf _ (List.getElem_mem hkl)
      have HT : Hid (l.take (k + 1) = l.take k ++ [l[k]]) := Lib.hid (List.take_succ_eq_append_getElem hkl)
      obtain ⟨⟨z, y⟩, hx⟩ : ∃ x, x = l[k] := ⟨_, rfl⟩
      rw [← hx] at hp hlx HT
      obtain ⟨yl, hyl⟩ : ∃ yl, yl = y.length := ⟨_, rfl⟩
      have hp0 := hp.c0
      have hp1 := hp.c1
      simp only at hp0 hp1 hlx
      rw [← hyl] at hp1 hlx
      have HYl := Lib.hid hyl
      have MK : Hid (∀ w', Below w.heap.size w w' → w'.cell? ⟨b, off + k * 2, none⟩ = some (.int .i64 z) ∧ w'.cell? ⟨b, off + k * 2 + 1, none⟩ = some (.slice da yl dc)) := Lib.hid fun w' hb => ⟨keepc hb hp0, keepc hb hp1⟩
      have HCp : Hid (∀ w', Below w.heap.size w w' → Calls Tryz.prog 64 #[.slice da yl dc] w' fun e w'' => ∃ a2 c2, e = .returned (.slice a2 yl c2) ∧ Dat w'' (List.range w.heap.size) (.slice a2 yl c2) y ∧ Below w'.heap.size w' w'') := Lib.hid fun w' hb => by
        refine Calls.mono (ry_copy w' da yl dc y HYl.out.symm (hp.bys.below hb) hdc (by omega)) ?_
        rintro e w'' ⟨u, rfl, hu, hb2⟩
        obtain ⟨a2, c2, rfl, _⟩ := hu.bys (by omega)
        rw [← HYl.out] at hu ⊢
        exact ⟨a2, c2, rfl, Dat.of hu (fun b hb' => by have := List.mem_range.1 hb'; have := hb.size; omega), hb2⟩
      have hS : Below w.heap.size w wr := HB.out
      obtain ⟨S0, S1⟩ := MK.out wr hS
      have HLen : Hid ((l.take k).length = k) := Lib.hid (by rw [List.length_take]; omega)
      obtain ⟨lk, hlk⟩ : ∃ lk, lk = l.take k := ⟨_, rfl⟩
      rw [← hlk] at HQ HT HLen
      clear hc hp hdc hx hyl hkl hwx hp0 hp1 hlk
      go_wp2_with fail
      go_region_held_law (fun w' => w'.cell? ⟨b, off + k * 2, none⟩ = some (.int .i64 z) ∧ w'.cell? ⟨b, off + k * 2 + 1, none⟩ = some (.slice da yl dc))
        (first | with_reducible exact MK.out _ hS | with_reducible exact MK.out _ hS.drew | with_reducible exact MK.out _ (below_base hS hS.size (Below.new _ _)))
        ((first
        | ((try go_simp); go_at_call 64; ((with_reducible refine Calls.mono (HCp.out _ ?_) ?_); (first | with_reducible exact hS | with_reducible exact hS.drew); rintro e w2 ⟨a2, c2, rfl, hd, hbe⟩; have hS0 := hS; have hS : Below w.heap.size w w2 := (by first | exact below_base hS0 hS0.size hbe | exact below_base hS0.drew hS0.size hbe); have HQ2 : Hid (OwnQ 150 w2 w.heap.size (List.range w.heap.size) (.slice a' k c') lk) := Lib.hid (by first | exact HQ.out.below hbe | exact HQ.out.below ((Below.refl _ _).drew.trans hbe)); have HD := Lib.hid hd; clear hd hbe))
        | (refine step_append_q 150 126 (by rfl) _ _ (by rfl) Tryz.underlying126 info150 (by decide) w.heap.size (List.range w.heap.size) (.slice a' k c') lk (by rfl) (HQ2.out.below (by first | exact Below.new _ _ | exact (Below.new _ _).drew | exact (Below.refl _ _).drew.alloc (Nat.le_refl _) _)) w2.heap.size 1 (z, y) a2 yl c2 HYl.out.symm (by rfl) (heap_alloc_new _ _) (HD.out.below (by first | exact Below.new _ _ | exact (Below.new _ _).drew | exact (Below.refl _ _).drew.alloc (Nat.le_refl _) _)) (by have := hS.size; simp; omega) k HLen.out (by omega) (l.take (k + 1)) HT.out.symm ?_; rintro a5 c5 w5 hown5 hb5 _; have hS0 := hS; have hS : Below w.heap.size w w5 := (by first | exact (below_base hS0 hS0.size (Below.new _ _)).trans hb5 | exact (below_base hS0 hS0.size (Below.new _ _)).drew.trans hb5 | exact (below_base hS0.drew hS0.size (Below.new _ _)).trans hb5); have HO5 := Lib.hid hown5; clear hown5 hb5)))
      all_goals
        go_wp2_with fail
        go_roundw
        case rel => exact ⟨k + 1, by omega, by go_num, _, _, rfl, HO5, Lib.hid hS⟩
        case measure => simp [RowKit.intOf]; omega
    · obtain rfl : k = n := by omega
      have e : l.take k = l := List.take_of_length_le (by have := HN.out; omega)
      rw [e] at HQ
      go_wp2
      go_ret
      exact ⟨a', c', rfl, HQ.out, HB.out⟩
end
end Go.Proofs.YtdhidcoglioalaaGreat.Walks
