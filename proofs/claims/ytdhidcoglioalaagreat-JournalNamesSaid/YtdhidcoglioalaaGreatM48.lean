/-
  Puts are copied, 30 at most.
  Puts that may be written over.
  Calls of both: Commit, the walk.
-/
import Derived.Test.YtdhidcoglioalaaGreatM47
namespace Go.Proofs.YtdhidcoglioalaaGreat.Walks
open Go.RowKit Plain Jn
set_option linter.unusedVariables false
section
variable {w w' : World} {R N : List Nat} {a : Option Addr} {l : List (Int × List Byte)}
set_option maxRecDepth 10000 in
set_option maxHeartbeats 4000000 in
theorem copied_is (w : World) (a : Option Addr) (n c : Nat) (l : List (Int × List Byte)) (hn : l.length = n) (hl : PutsC w [] a l) :
    Calls Tryz.prog 40 #[.slice a n c] w fun e w' => ∃ a' m c', e = .returned (.slice a' m c') ∧ (l.take 30).length = m ∧ OwnQ 39 w' w.heap.size (List.range w.heap.size) (.slice a' m c') (l.take 30) ∧ Below w.heap.size w w' := by
  have HL := Lib.hid hl
  have HN := Lib.hid hn
  have hn100 : n ≤ 100 := by rw [← hn]; exact hl.len
  clear hl hn
  obtain ⟨m, hm⟩ : ∃ m, m = min n 30 := ⟨_, rfl⟩
  have hmn : m ≤ n ∧ m ≤ 30 := by omega
  have HM := Lib.hid hm
  clear hm
  go_enter Tryz.func40, Tryz.ntmps40
  go_wp2
  go_loopw [3, 4] (fun v i wr => ∃ k : Nat, k ≤ m ∧ i = .int .i64 k ∧ ∃ a' c', v = .slice a' k c' ∧ Hid (OwnQ 39 wr w.heap.size (List.range w.heap.size) (.slice a' k c') (l.take k)) ∧ Hid (Below w.heap.size w wr)) (fun _ i _ => m - (RowKit.intOf i).toNat)
  case atStart => exact ⟨0, Nat.zero_le _, rfl, none, 0, rfl, Lib.hid (by rw [List.take_zero]; exact OwnQ.nil 39 w _ _), Lib.hid (Below.refl _ _)⟩
  case round =>
    obtain ⟨k, hk, rfl, a', c', rfl, HQ, HB⟩ := hrel
    by_cases hlt : k < m
    · have hkl : k < l.length := by have := HN.out; omega
      have hkn : k < n := by omega
      have hk30 : (k : Int) < 30 := by omega
      obtain ⟨b, off, rfl, _, hc⟩ : ∃ b off, a = some ⟨b, off, none⟩ ∧ b ∉ ([] : List Nat) ∧ ∀ k (h : k < l.length), ∃ da dc, PutAt w [] b (off + k * 2) l[k] da dc ∧ (da = none → dc = 0) := by
        rcases HL.out.mem with h | h
        · rw [h] at hkl; simp at hkl
        · exact h
      obtain ⟨da, dc, hp, hdc⟩ := hc k hkl
      obtain ⟨hwx, hlx⟩ := HL.out.wf _ (List.getElem_mem hkl)
      have HT : Hid (l.take (k + 1) = l.take k ++ [l[k]]) := Lib.hid (List.take_succ_eq_append_getElem hkl)
      obtain ⟨⟨z, y⟩, hx⟩ : ∃ x, x = l[k] := ⟨_, rfl⟩
      rw [← hx] at hp hlx HT
      obtain ⟨yl, hyl⟩ : ∃ yl, yl = y.length := ⟨_, rfl⟩
      have hp0 := hp.c0
      have hp1 := hp.c1
      simp only at hp0 hp1 hlx
      rw [← hyl] at hp1 hlx
      have HYl := Lib.hid hyl
      have MK : Hid (∀ w', Below w.heap.size w w' → w'.cell? ⟨b, off + k * 2, none⟩ = some (.int .i64 z) ∧ w'.cell? ⟨b, off + k * 2 + 1, none⟩ = some (.slice da yl dc)) := Lib.hid fun w' hb => ⟨keepc hb hp0, keepc hb hp1⟩
      have HCp : Hid (∀ w', Below w.heap.size w w' → Calls Tryz.prog 64 #[.slice da yl dc] w' fun e w'' => ∃ a2 c2, e = .returned (.slice a2 yl c2) ∧ Dat w'' (List.range w.heap.size) (.slice a2 yl c2) y ∧ Below w'.heap.size w' w'') := Lib.hid fun w' hb => by
        refine Calls.mono (ry_copy w' da yl dc y HYl.out.symm (hp.bys.below hb) hdc (by omega)) ?_
        rintro e w'' ⟨u, rfl, hu, hb2⟩
        obtain ⟨a2, c2, rfl, _⟩ := hu.bys (by omega)
        rw [← HYl.out] at hu ⊢
        exact ⟨a2, c2, rfl, Dat.of hu (fun b hb' => by have := List.mem_range.1 hb'; have := hb.size; omega), hb2⟩
      have hS : Below w.heap.size w wr := HB.out
      obtain ⟨S0, S1⟩ := MK.out wr hS
      have HLen : Hid ((l.take k).length = k) := Lib.hid (by rw [List.length_take]; omega)
      obtain ⟨lk, hlk⟩ : ∃ lk, lk = l.take k := ⟨_, rfl⟩
      rw [← hlk] at HQ HT HLen
      clear hc hp hdc hx hyl hkl hwx hp0 hp1 hlk
      go_wp2_with fail
      go_region_held_law (fun w' => w'.cell? ⟨b, off + k * 2, none⟩ = some (.int .i64 z) ∧ w'.cell? ⟨b, off + k * 2 + 1, none⟩ = some (.slice da yl dc))
        (first | with_reducible exact MK.out _ hS | with_reducible exact MK.out _ hS.drew | with_reducible exact MK.out _ (below_base hS hS.size (Below.new _ _)))
        ((first
        | ((try go_simp); go_at_call 64; ((with_reducible refine Calls.mono (HCp.out _ ?_) ?_); (first | with_reducible exact hS | with_reducible exact hS.drew); rintro e w2 ⟨a2, c2, rfl, hd, hbe⟩; have hS0 := hS; have hS : Below w.heap.size w w2 := (by first | exact below_base hS0 hS0.size hbe | exact below_base hS0.drew hS0.size hbe); have HQ2 : Hid (OwnQ 39 w2 w.heap.size (List.range w.heap.size) (.slice a' k c') lk) := Lib.hid (by first | exact HQ.out.below hbe | exact HQ.out.below ((Below.refl _ _).drew.trans hbe)); have HD := Lib.hid hd; clear hd hbe))
        | (refine step_append_q 39 40 (by rfl) _ _ (by rfl) Tryz.underlying40 info39 (by decide) w.heap.size (List.range w.heap.size) (.slice a' k c') lk (by rfl) (HQ2.out.below (by first | exact Below.new _ _ | exact (Below.new _ _).drew | exact (Below.refl _ _).drew.alloc (Nat.le_refl _) _)) w2.heap.size 1 (z, y) a2 yl c2 HYl.out.symm (by rfl) (heap_alloc_new _ _) (HD.out.below (by first | exact Below.new _ _ | exact (Below.new _ _).drew | exact (Below.refl _ _).drew.alloc (Nat.le_refl _) _)) (by have := hS.size; simp; omega) k HLen.out (by omega) (l.take (k + 1)) HT.out.symm ?_; rintro a5 c5 w5 hown5 hb5 _; have hS0 := hS; have hS : Below w.heap.size w w5 := (by first | exact (below_base hS0 hS0.size (Below.new _ _)).trans hb5 | exact (below_base hS0 hS0.size (Below.new _ _)).drew.trans hb5 | exact (below_base hS0.drew hS0.size (Below.new _ _)).trans hb5); have HO5 := Lib.hid hown5; clear hown5 hb5)))
      all_goals
        go_wp2_with fail
        go_roundw
        case rel => exact ⟨k + 1, by omega, by go_num, _, _, rfl, HO5, Lib.hid hS⟩
        case measure => simp [RowKit.intOf]; omega
    · obtain rfl : k = m := by omega
      have e : l.take k = l.take 30 := by
        have h1 := HN.out
        have h2 := HM.out
        by_cases h3 : n ≤ 30
        · rw [List.take_of_length_le (by omega), List.take_of_length_le (by omega)]
        · rw [show k = 30 by omega]
      rw [e] at HQ
      have HL3 : Hid ((l.take 30).length = k) := Lib.hid (by have h1 := HN.out; have h2 := HM.out; rw [List.length_take]; omega)
      by_cases hkn : k < n
      · have hk30 : ¬ (k : Int) < 30 := by have := HM.out; omega
        go_wp2
        go_ret
        exact ⟨a', k, c', rfl, by have h3 := HL3.out; first | exact h3 | simpa using h3, HQ.out, HB.out⟩
      · go_wp2
        go_ret
        exact ⟨a', k, c', rfl, by have h3 := HL3.out; first | exact h3 | simpa using h3, HQ.out, HB.out⟩
end
end Go.Proofs.YtdhidcoglioalaaGreat.Walks
namespace Go.Proofs.YtdhidcoglioalaaGreat.Walks
open Go.RowKit Plain Jn
set_option linter.unusedVariables false
section
variable {sp : Sp} {w0 w w' : World} {x m g gr n n1 off len : Nat} {a : Option Addr} {q : PLoc} {r : RLoc} {j : JLoc} {J J' J2 : Jn} {P P' P2 : Pl}
/-- Puts of one's own, beside both. -/
structure OwnP (sp : Sp) (w0 w : World) (x : Nat) (q : PLoc) (r : RLoc) (j : JLoc) (m gr n1 : Nat) (f : Nat → Option Addr × Nat × Nat) : Prop where
  nj : gr ∉ j.R q
  nm : gr ∉ m :: r.R
  ln : ∀ k, (f k).2.1 ≤ 4096 ∧ (f k).2.1 ≤ (f k).2.2
  row : ∀ k, k < n1 → w.cell? ⟨gr, k * 2 + 1, none⟩ = some (.slice (f k).1 (f k).2.1 (f k).2.2)
  dat : ∀ k, k < n1 → 0 < (f k).2.1 → ∃ gd, (f k).1 = some ⟨gd, 0, none⟩ ∧ gd ≠ gr ∧ Pk sp w0 w x q r j m gd 0 (f k).2.1
theorem OwnP.only {R : List Nat} {f : Nat → Option Addr × Nat × Nat} (h : OwnP sp w0 w x q r j m gr n1 f) (ho : Only R w w') (hR : (∀ b ∈ R, b ∈ j.R q) ∨ (∀ b ∈ R, b ∈ m :: r.R)) : OwnP sp w0 w' x q r j m gr n1 f :=
  ⟨h.nj, h.nm, h.ln, fun k hk => ho.cell (fun hm => hR.elim (fun h1 => h.nj (h1 _ hm)) (fun h1 => h.nm (h1 _ hm))) (h.row k hk), fun k hk h0 => by
    obtain ⟨gd, e, hne, hp⟩ := h.dat k hk h0
    exact ⟨gd, e, hne, hp.only ho (fun hm => hR.elim (fun h1 => hp.notR (h1 _ hm)) (fun h1 => hp.notM (h1 _ hm)))⟩⟩
theorem OwnP.below {f : Nat → Option Addr × Nat × Nat} (h : OwnP sp w0 w x q r j m gr n1 f) (hb : Below w.heap.size w w') : OwnP sp w0 w' x q r j m gr n1 f := h.only (R := []) (Only.of_below hb) (.inl (fun b hb => by simp at hb))
theorem Pk.poke (h : Pk sp w0 w x q r j m g off len) (b i : Nat) (c : Int) : Pk sp w0 (w.setCell ⟨b, i, none⟩ (.int .u8 c)) x q r j m g off len :=
  have hc : ∀ k, k < len → ∃ d : Int, (w.setCell ⟨b, i, none⟩ (.int .u8 c)).cell? ⟨g, off + k, none⟩ = some (.int .u8 d) ∧ (w.setCell ⟨b, i, none⟩ (.int .u8 c)).frozen? ⟨g, off + k, none⟩ = false := fun k hk => by
    obtain ⟨d, h1, h2⟩ := h.cells k hk
    by_cases e : b = g ∧ i = off + k
    · obtain ⟨rfl, rfl⟩ := e
      exact ⟨_, World.cell?_setCell_same _ _ _ h1, by rw [World.frozen?_setCell]; exact h2⟩
    · exact ⟨d, by rw [World.cell?_setCell_other _ _ _ _ (fun h => e (by injection h with h1 h2 _; exact ⟨by omega, by omega⟩))]; exact h1, by rw [World.frozen?_setCell]; exact h2⟩
  { h with cells := hc }
theorem OwnP.poke {f : Nat → Option Addr × Nat × Nat} (h : OwnP sp w0 w x q r j m gr n1 f) {b : Nat} (hb : b ≠ gr) (i : Nat) (c : Int) : OwnP sp w0 (w.setCell ⟨b, i, none⟩ (.int .u8 c)) x q r j m gr n1 f :=
  ⟨h.nj, h.nm, h.ln, fun k hk => by rw [World.cell?_setCell_other _ _ _ _ (fun h => hb (congrArg Addr.block h))]; exact h.row k hk, fun k hk h0 => by
    obtain ⟨gd, e, hne, hp⟩ := h.dat k hk h0
    exact ⟨gd, e, hne, hp.poke b i c⟩⟩
def fresh (a b : Nat) : List Nat := (List.range b).filter fun i => decide (a ≤ i)
theorem mem_fresh {a b i : Nat} : i ∈ fresh a b ↔ a ≤ i ∧ i < b := by
  unfold fresh
  rw [List.mem_filter, List.mem_range, decide_eq_true_eq]
  exact And.comm
/-- Both, and the puts that were copied since. -/
theorem OwnQ.own {wr : World} {c : Nat} {l : List (Int × List Byte)} (h : BT sp w0 w x q r (some (j, m)) J J' P P') (hb : Below w.heap.size w wr) (hq : OwnQ 39 wr w.heap.size (List.range w.heap.size) (.slice a n c) l) (hn : l.length = n) (hl : ∀ x ∈ l, x.2.length ≤ 100) :
    ∃ gr f, (n = 0 ∨ a = some ⟨gr, 0, none⟩) ∧ OwnP sp w0 wr x (q.banX (fresh w.heap.size wr.heap.size)) (r.banX (fresh w.heap.size wr.heap.size)) j m gr n f := by
  have hX : ∀ {b : Nat}, w.heap.size ≤ b → b < wr.heap.size → b ∈ (q.banX (fresh w.heap.size wr.heap.size)).ban ∧ b ∈ (r.banX (fresh w.heap.size wr.heap.size)).ban := fun h1 h2 => ⟨List.mem_append_left _ (mem_fresh.2 ⟨h1, h2⟩), List.mem_append_left _ (mem_fresh.2 ⟨h1, h2⟩)⟩
  have hnj : ∀ {b : Nat}, w.heap.size ≤ b → b ∉ j.R q ∧ b ∉ m :: r.R := fun {b} h1 => by
    obtain ⟨n1, n2, n3, n4, n5, n6, n7⟩ := h.old h1
    refine ⟨fun hm => ?_, fun hm => ?_⟩
    · simp only [JLoc.R, List.mem_cons] at hm
      rcases hm with e | e | e
      · exact n4 e
      · exact n5 e
      · exact n1 e
    · rcases List.mem_cons.1 hm with e | e
      · exact n6 e
      · exact n2 e
  have hblk := fun (g : Nat) (hg : (Value.slice a n c).ownBlock = some g) => hq.blk hg
  rcases hq.form with ⟨e, _⟩ | ⟨g, c', e, _, hg, hgl, _, hc⟩
  · subst e
    simp only [List.length_nil] at hn
    subst hn
    obtain ⟨h1, h2⟩ := hnj (Nat.le_refl w.heap.size)
    exact ⟨w.heap.size, fun _ => (none, 0, 0), .inl rfl, h1, h2, fun _ => ⟨by simp, by simp⟩, fun k hk => absurd hk (by omega), fun k hk => absurd hk (by omega)⟩
  · simp only [Value.slice.injEq] at e
    obtain ⟨rfl, _, rfl⟩ := e
    obtain ⟨_, _, cs, hcs⟩ := hblk g rfl
    have hex : ∀ k, ∃ t : Option Addr × Nat × Nat, (t.2.1 ≤ 4096 ∧ t.2.1 ≤ t.2.2) ∧ (k < n → wr.cell? ⟨g, k * 2 + 1, none⟩ = some (.slice t.1 t.2.1 t.2.2) ∧ (0 < t.2.1 → ∃ gd, t.1 = some ⟨gd, 0, none⟩ ∧ gd ≠ g ∧ Pk sp w0 wr x (q.banX (fresh w.heap.size wr.heap.size)) (r.banX (fresh w.heap.size wr.heap.size)) j m gd 0 t.2.1)) := fun k => by
      by_cases hk : k < n
      · have hkl : k < l.length := by omega
        obtain ⟨da, dc, b1, b2, b3⟩ := hc k _ (List.getElem?_eq_getElem hkl)
        have hx := hl _ (List.getElem_mem hkl)
        by_cases h0 : 0 < l[k].2.length
        · obtain ⟨gd, c2, e2, hc2, _, _, hgd, hB, hf⟩ := b3.own.at_ h0 (by omega)
          simp only [Value.slice.injEq] at e2
          obtain ⟨rfl, _, rfl⟩ := e2
          obtain ⟨_, _, cs2, hcs2⟩ := b3.own.blk (g := gd) rfl
          have hge : w.heap.size ≤ gd := by
            by_cases h1 : w.heap.size ≤ gd
            · exact h1
            · exact absurd (List.mem_range.2 (by omega)) (b3.out gd rfl)
          have hne : gd ≠ g := fun e => by rw [e, hcs] at hcs2; cases hcs2
          obtain ⟨n1, n2, n3, n4, n5, n6, n7⟩ := h.old hge
          refine ⟨(_, _, _), ⟨by show l[k].2.length ≤ 4096; omega, hc2⟩, fun _ => ⟨b2, fun _ => ⟨gd, rfl, hne, ⟨fun i hi => ?_, (hX hge hgd).1, (hX hge hgd).2, n1, n2, n3, n4, n5, n6, n7, fun g' D e he => by have := (h.bn.spc.d g' D e).2.1; omega⟩⟩⟩⟩
          rcases hB.2 with h | ⟨b', off', e, hcc⟩
          · rw [h] at h0; simp at h0
          · cases e
            exact ⟨_, hcc i hi, hf _⟩
        · obtain ⟨a2, c2, e2, _, _, hnc⟩ := b3.own.bys (by omega)
          exact ⟨(da, l[k].2.length, dc), ⟨by show l[k].2.length ≤ 4096; omega, by show l[k].2.length ≤ dc; omega⟩, fun _ => ⟨b2, fun h => absurd h h0⟩⟩
      · exact ⟨(none, 0, 0), ⟨by simp, by simp⟩, fun h => absurd h hk⟩
    obtain ⟨h1, h2⟩ := hnj hg
    exact ⟨g, fun k => (hex k).choose, .inr rfl, h1, h2, fun k => (hex k).choose_spec.1, fun k hk => ((hex k).choose_spec.2 hk).1, fun k hk => ((hex k).choose_spec.2 hk).2⟩
end
end Go.Proofs.YtdhidcoglioalaaGreat.Walks
namespace Go.Proofs.YtdhidcoglioalaaGreat.Walks
open Go.RowKit Plain Jn
set_option linter.unusedVariables false
section
variable {sp : Sp} {w0 w w' : World} {x m g gr n n1 off len : Nat} {a : Option Addr} {q : PLoc} {r : RLoc} {j : JLoc} {J J' J2 : Jn} {P P' P2 : Pl}
theorem c_commit (h : BT sp w0 w x q r (some (j, m)) J J' P P') (hh : J.head < 4611686018427387904) (ht : J.turn < 4611686018427387904) {l : List (Int × List Byte)} {n cap : Nat} (hn : l.length = n) (hl : PutsC w (j.R q) a l) : Calls Tryz.prog 7 #[jv j, .slice a n cap] w fun e w' => e = .returned (.int .i64 (commitE P J l)) ∧ BT sp w0 w' x q r (some (j, m)) (commitJ P J l) J' (commitP P J l) P' ∧ Only (j.R q) w w' := by
  refine Calls.mono (commit_any (h.jn j m rfl).jp hh ht a l n cap hn hl.puts) ?_
  rintro e w' ⟨rfl, hj, ho⟩
  exact ⟨rfl, h.prog hj ho, ho⟩
theorem m_commit (h : BT sp w0 w x q r (some (j, m)) J J' P P') (hh : J'.head < 4611686018427387904) (ht : J'.turn < 4611686018427387904) {l : List (Int × List Byte)} {n c : Nat} (hn : l.length = n) (hl : PutsQ w r.N (.slice a n c) l) : Calls Tryz.prog 84 #[mv m, .slice a n c] w fun e w' => e = .returned (.int .i64 (commitE P' J' l)) ∧ BT sp w0 w' x q r (some (j, m)) J (commitJ P' J' l) P (commitP P' J' l) ∧ Only (m :: r.R) w w' := by
  refine Calls.mono (rj_commit (h.jn j m rfl).rj hh ht a n c l hn hl) ?_
  rintro e w' ⟨rfl, hj, ho⟩
  exact ⟨rfl, h.docu hj ho, ho⟩
theorem BT.pk0 (h : BT sp w0 w x q r (some (j, m)) J J' P P') (hk : Pk sp w0 w x q r j m g 0 len) (i : Nat) (c : Int) : BT sp w0 (w.setCell ⟨g, i, none⟩ (.int .u8 c)) x q r (some (j, m)) J J' P P' := by
  have := h.pk hk i c
  rwa [Nat.zero_add] at this
theorem PutsC.any {R : List Nat} {l : List (Int × List Byte)} (h : PutsC w R a l) : PutsC w [] a l :=
  ⟨h.len, h.wf, h.mem.imp id fun ⟨b, off, e, hn, hc⟩ => ⟨b, off, e, by simp, fun k hk => by
    obtain ⟨da, dc, c, hd⟩ := hc k hk
    exact ⟨da, dc, ⟨c.c0, c.c1, c.bys, fun ad e => by simp, c.wf⟩, hd⟩⟩⟩
set_option maxRecDepth 20000 in
set_option maxHeartbeats 8000000 in
theorem calls_commit (h : BT sp w0 w x q r (some (j, m)) J J P P) (hdw : DW P) (s : Nat) (S : Prop) (hS : S → Sure P) (hJ : JBd J s) (hs : s ≤ 1000000) {kd A bit : Int} {la ka ba : Option Addr} {ln lc kc bc kl bl : Nat} (h2 : kd % 9 = 0) {l : List (Int × List Byte)} (hln : l.length = ln) (hL : PutsC w (j.R q) la l) :
    Calls Tryz.prog 60 #[xv x, .agg #[.int .i64 kd, .int .i64 A, .int .i64 bit, .slice la ln lc, .slice ka kl kc, .slice ba bl bc]] w fun e w' => e = .returned (.bool true) ∧ All sp w0 w' x (s + 1) S P.n := by
  obtain ⟨n, hn⟩ : ∃ n, n = P.n := ⟨_, rfl⟩
  rw [← hn]
  have hh : J.head < 4611686018427387904 := by have := hJ.1; omega
  have ht : J.turn < 4611686018427387904 := by have := hJ.2; omega
  have HHT := Lib.hid (And.intro hh ht)
  have HFin : Hid (∀ w' q' r', BT sp w0 w' x q' r' (some (j, m)) (commitJ P J l) (commitJ P J l) (commitP P J l) (commitP P J l) → All sp w0 w' x (s + 1) S n) := Lib.hid fun w' q' r' h => h.all (commit_goes S P J l) hdw hS hn (commitJ_bound l hJ)
  have HBr := Lib.hid (bring_any kd 9)
  rw [h2] at HBr
  have H := Lib.hid h
  have hn100 : ln ≤ 100 := by rw [← hln]; exact hL.len
  have HL0 := Lib.hid hL
  have HN := Lib.hid hln
  have HWf := Lib.hid hL.wf
  clear h hdw hS hJ hs h2 hn hh ht hL hln
  go_enter Tryz.func60, Tryz.ntmps60
  go_upto_region 1 with (fail)
  obtain ⟨wa, hwa⟩ : ∃ x, x = w.alloc (.cells #[.int .i64 kd, .int .i64 A, .int .i64 bit, .slice la ln lc, .slice ka kl kc, .slice ba bl bc] 43) := ⟨_, rfl⟩
  have hba : Below w.heap.size w wa := by rw [hwa]; exact Below.new _ _
  have t0 : wa.cell? ⟨w.heap.size, 0, none⟩ = some (.int .i64 kd) := by rw [hwa, cell_new]; rfl
  have t3 : wa.cell? ⟨w.heap.size, 3, none⟩ = some (.slice la ln lc) := by rw [hwa, cell_new]; rfl
  have HB := Lib.hid (H.out.below hba)
  have HL := Lib.hid (HL0.out.below hba)
  obtain ⟨g, hg⟩ : ∃ g, g = w.heap.size := ⟨_, rfl⟩
  obtain ⟨n1, n2, n3, n4, n5, n6, n7⟩ := H.out.old (g := g) (by omega)
  have HNj : Hid (g ∉ j.R q) := Lib.hid fun hm => by
    simp only [JLoc.R, List.mem_cons] at hm
    rcases hm with e | e | e
    · exact n4 e
    · exact n5 e
    · exact n1 e
  have HNm : Hid (g ∉ m :: r.R) := Lib.hid fun hm => by
    rcases List.mem_cons.1 hm with e | e
    · exact n6 e
    · exact n2 e
  rw [← hg] at t0 t3
  rw [← hg, ← hwa]
  have T3 := Lib.hid t3
  clear hwa hba hg n1 n2 n3 n4 n5 n6 n7 H HL0
  go_wp2_with fail
  refine Calls.mono (HBr.out wa (by decide) (by decide)) ?_
  rintro e wx ⟨rfl, rfl⟩
  clear t0 t3 HBr
  go_wp2_with fail
  go_loopw [5, 6] (fun v i wr => ∃ k : Nat, k ≤ ln ∧ i = .int .i64 k ∧ ∃ a' c', v = .slice a' k c' ∧ Hid (OwnQ 39 wr wa.heap.size (List.range wa.heap.size) (.slice a' k c') (l.take k)) ∧ Hid (Below wa.heap.size wa wr)) (fun _ i _ => ln - (RowKit.intOf i).toNat)
  case atStart => exact ⟨0, Nat.zero_le _, rfl, none, 0, rfl, Lib.hid (by rw [List.take_zero]; exact OwnQ.nil 39 wa _ _), Lib.hid (Below.refl _ _)⟩
  case round =>
    obtain ⟨k, hk, rfl, a', c', rfl, HQ, HBw⟩ := hrel
    have s3' := keepc HBw.out T3.out
    by_cases hlt : k < ln
    · have hkl : k < l.length := by have := HN.out; omega
      obtain ⟨b, off, rfl, _, hc⟩ : ∃ b off, la = some ⟨b, off, none⟩ ∧ b ∉ j.R q ∧ ∀ k (h : k < l.length), ∃ da dc, PutAt wa (j.R q) b (off + k * 2) l[k] da dc ∧ (da = none → dc = 0) := by
        rcases HL.out.mem with h | h
        · rw [h] at hkl; simp at hkl
        · exact h
      obtain ⟨da, dc, hp, hdc⟩ := hc k hkl
      obtain ⟨hwx, hlx⟩ := HWf.out _ (List.getElem_mem hkl)
      have HT : Hid (l.take (k + 1) = l.take k ++ [l[k]]) := Lib.hid (List.take_succ_eq_append_getElem hkl)
      obtain ⟨⟨z, y⟩, hx⟩ : ∃ x, x = l[k] := ⟨_, rfl⟩
      rw [← hx] at hp hlx HT
      obtain ⟨yl, hyl⟩ : ∃ yl, yl = y.length := ⟨_, rfl⟩
      have hp0 := hp.c0
      have hp1 := hp.c1
      simp only at hp0 hp1 hlx
      rw [← hyl] at hp1 hlx
      have HYl := Lib.hid hyl
      have MK : Hid (∀ w', Below wa.heap.size wa w' → w'.cell? ⟨g, 3, none⟩ = some (.slice (some ⟨b, off, none⟩) ln lc) ∧ w'.cell? ⟨b, off + k * 2, none⟩ = some (.int .i64 z) ∧ w'.cell? ⟨b, off + k * 2 + 1, none⟩ = some (.slice da yl dc)) := Lib.hid fun w' hb => ⟨keepc hb T3.out, keepc hb hp0, keepc hb hp1⟩
      have HCp : Hid (∀ w', Below wa.heap.size wa w' → Calls Tryz.prog 64 #[.slice da yl dc] w' fun e w'' => ∃ a2 c2, e = .returned (.slice a2 yl c2) ∧ Dat w'' (List.range wa.heap.size) (.slice a2 yl c2) y ∧ Below w'.heap.size w' w'') := Lib.hid fun w' hb => by
        refine Calls.mono (ry_copy w' da yl dc y HYl.out.symm (hp.bys.below hb) hdc (by omega)) ?_
        rintro e w'' ⟨u, rfl, hu, hb2⟩
        obtain ⟨a2, c2, rfl, _⟩ := hu.bys (by omega)
        rw [← HYl.out] at hu ⊢
        exact ⟨a2, c2, rfl, Dat.of hu (fun b hb' => by have := List.mem_range.1 hb'; have := hb.size; omega), hb2⟩
      have hS : Below wa.heap.size wa wr := HBw.out
      clear s3'
      obtain ⟨S0, S1, S2⟩ := MK.out wr hS
      have HLen : Hid ((l.take k).length = k) := Lib.hid (by rw [List.length_take]; omega)
      obtain ⟨lk, hlk⟩ : ∃ lk, lk = l.take k := ⟨_, rfl⟩
      rw [← hlk] at HQ HT HLen
      clear hc hp hdc hx hyl hkl hwx hp0 hp1 hlk
      go_wp2_with fail
      go_region_held_law (fun w' => w'.cell? ⟨g, 3, none⟩ = some (.slice (some ⟨b, off, none⟩) ln lc) ∧ w'.cell? ⟨b, off + k * 2, none⟩ = some (.int .i64 z) ∧ w'.cell? ⟨b, off + k * 2 + 1, none⟩ = some (.slice da yl dc))
        (first | with_reducible exact MK.out _ hS | with_reducible exact MK.out _ hS.drew | with_reducible exact MK.out _ (below_base hS hS.size (Below.new _ _)))
        ((first
        | ((try go_simp); go_at_call 64; ((with_reducible refine Calls.mono (HCp.out _ ?_) ?_); (first | with_reducible exact hS | with_reducible exact hS.drew); rintro e w2 ⟨a2, c2, rfl, hd, hbe⟩; have hS0 := hS; have hS : Below wa.heap.size wa w2 := (by first | exact below_base hS0 hS0.size hbe | exact below_base hS0.drew hS0.size hbe); have HQ2 : Hid (OwnQ 39 w2 wa.heap.size (List.range wa.heap.size) (.slice a' k c') lk) := Lib.hid (by first | exact HQ.out.below hbe | exact HQ.out.below ((Below.refl _ _).drew.trans hbe)); have HD := Lib.hid hd; clear hd hbe))
        | (refine step_append_q 39 40 (by rfl) _ _ (by rfl) Tryz.underlying40 info39 (by decide) wa.heap.size (List.range wa.heap.size) (.slice a' k c') lk (by rfl) (HQ2.out.below (by first | exact Below.new _ _ | exact (Below.new _ _).drew | exact (Below.refl _ _).drew.alloc (Nat.le_refl _) _)) w2.heap.size 1 (z, y) a2 yl c2 HYl.out.symm (by rfl) (heap_alloc_new _ _) (HD.out.below (by first | exact Below.new _ _ | exact (Below.new _ _).drew | exact (Below.refl _ _).drew.alloc (Nat.le_refl _) _)) (by have := hS.size; simp; omega) k HLen.out (by omega) (l.take (k + 1)) HT.out.symm ?_; rintro a5 c5 w5 hown5 hb5 _; have hS0 := hS; have hS : Below wa.heap.size wa w5 := (by first | exact (below_base hS0 hS0.size (Below.new _ _)).trans hb5 | exact (below_base hS0 hS0.size (Below.new _ _)).drew.trans hb5 | exact (below_base hS0.drew hS0.size (Below.new _ _)).trans hb5); have HO5 := Lib.hid hown5; clear hown5 hb5)))
      all_goals
        go_wp2_with fail
        go_roundw
        case rel => exact ⟨k + 1, by omega, by go_num, _, _, rfl, HO5, Lib.hid hS⟩
        case measure => simp [RowKit.intOf]; omega
    · obtain rfl : k = ln := by omega
      have e : l.take k = l := List.take_of_length_le (by have := HN.out; omega)
      rw [e] at HQ
      obtain ⟨gr, f, ha, hP⟩ := OwnQ.own HB.out HBw.out HQ.out HN.out (fun y hy => (HWf.out y hy).2)
      have hbt := HB.out.banned HBw.out (X := fresh wa.heap.size wr.heap.size) (fun y hy => mem_fresh.1 hy)
      obtain ⟨Q, hQe⟩ : ∃ Q, Q = q.banX (fresh wa.heap.size wr.heap.size) := ⟨_, rfl⟩
      obtain ⟨R, hRe⟩ : ∃ R, R = r.banX (fresh wa.heap.size wr.heap.size) := ⟨_, rfl⟩
      have hQR : j.R Q = j.R q := by rw [hQe]; rfl
      have HRR : Hid (R.R = r.R) := Lib.hid (by rw [hRe]; rfl)
      rw [← hQe, ← hRe] at hP hbt
      have HA := Lib.hid ha
      have HP := Lib.hid hP
      have HBt := Lib.hid hbt
      have HQR := Lib.hid hQR
      have hltj := (HB.out.jn j m rfl).jp.lt
      have HPC : Hid (PutsC wr (j.R Q) a' l) := Lib.hid (by
        rw [hQR]
        exact HQ.out.putsC hltj (by have := HN.out; omega) HWf.out)
      have HLr := Lib.hid (HL.out.below HBw.out)
      have s1 := hbt.jx
      obtain ⟨z, hz⟩ : ∃ z, z = commitE P J l := ⟨_, rfl⟩
      have HCm : Hid (Calls Tryz.prog 7 #[jv j, .slice a' k c'] wr fun e w' => e = .returned (.int .i64 z) ∧ BT sp w0 w' x Q R (some (j, m)) (commitJ P J l) J (commitP P J l) P ∧ Only (j.R Q) wr w') := Lib.hid (by rw [hz]; exact c_commit hbt HHT.out.1 HHT.out.2 HN.out HPC.out)
      have HZ := Lib.hid hz
      clear ha hP hbt hQe hRe hQR hltj e hz HQ HB
      go_wp2_with fail
      refine Calls.mono HCm.out ?_
      rintro e w5 ⟨rfl, hb5, ho5⟩
      have s3 := hb5.mx
      have t3 := ho5.cell (show g ∉ j.R Q by rw [HQR.out]; exact HNj.out) s3'
      have HB5 := Lib.hid hb5
      have HP5 := Lib.hid (HP.out.only ho5 (.inl fun b hb => hb))
      have HL5 : Hid (PutsC w5 [] la l) := Lib.hid (HLr.out.only ho5 (fun b hb => by rw [← HQR.out]; exact hb)).any
      clear hb5 ho5 s3' s1 HCm HPC HLr HBt HP
      have HC85 : Hid (∀ w', Below w5.heap.size w5 w' → Calls Tryz.prog 85 #[.slice la k lc] w' fun e w'' => ∃ a2 c2, e = .returned (.slice a2 k c2) ∧ PutsQ w'' R.N (.slice a2 k c2) l ∧ Below w'.heap.size w' w'') := Lib.hid fun w' hb => by
        refine Calls.mono (puts_is w' la k lc l HN.out (HL5.out.below hb)) ?_
        rintro e w'' ⟨a2, c2, rfl, hq, hb2⟩
        exact ⟨a2, c2, rfl, hq.putsQ (fun b hm => Nat.lt_of_lt_of_le (HB5.out.bn.mix.rf.x.ltN b hm) hb.size) (by have := HN.out; omega) HWf.out, hb2⟩
      have HC84 : Hid (∀ w' a2 c2, Below w5.heap.size w5 w' → PutsQ w' R.N (.slice a2 k c2) l → Calls Tryz.prog 84 #[mv m, .slice a2 k c2] w' fun e w'' => e = .returned (.int .i64 z) ∧ (BT sp w0 w'' x Q R (some (j, m)) (commitJ P J l) (commitJ P J l) (commitP P J l) (commitP P J l) ∧ OwnP sp w0 w'' x Q R j m gr k f) ∧ (w''.cell? ⟨x, 3, none⟩ = some (mv m) ∧ w''.cell? ⟨g, 3, none⟩ = some (.slice la k lc))) := Lib.hid fun w' a2 c2 hb hq => by
        refine Calls.mono (m_commit (HB5.out.below hb) HHT.out.1 HHT.out.2 HN.out hq) ?_
        rintro e w'' ⟨rfl, h1, ho⟩
        exact ⟨by rw [HZ.out], ⟨h1, (HP5.out.below hb).only ho (.inr fun b hb => hb)⟩, h1.mx, ho.cell (by rw [HRR.out]; exact HNm.out) (keepc hb t3)⟩
      have hS : Below w5.heap.size w5 w5 := Below.refl _ _
      have MK : Hid (∀ w', Below w5.heap.size w5 w' → w'.cell? ⟨x, 3, none⟩ = some (mv m) ∧ w'.cell? ⟨g, 3, none⟩ = some (.slice la k lc)) := Lib.hid fun w' hb => ⟨keepc hb s3, keepc hb t3⟩
      go_upto_region 10 with (fail)
      go_cut [70] from 61 to 70 (fun v70 wx => v70 = .bool false ∧ Hid (BT sp w0 wx x Q R (some (j, m)) (commitJ P J l) (commitJ P J l) (commitP P J l) (commitP P J l) ∧ OwnP sp w0 wx x Q R j m gr k f))
      case first =>
        go_region_held3 (fun w' => w'.cell? ⟨x, 3, none⟩ = some (mv m) ∧ w'.cell? ⟨g, 3, none⟩ = some (.slice la k lc))
          (first | with_reducible exact MK.out _ hS | with_reducible exact MK.out _ hS.drew | with_reducible exact HK7.out)
          ((first
          | (go_at_call 85; ((with_reducible refine Calls.mono (HC85.out _ ?_) ?_); (first | with_reducible exact hS | with_reducible exact Below.drew hS | with_reducible exact Below.step hS (Below.new _ _) | with_reducible exact Below.step (Below.drew hS) (Below.new _ _) | with_reducible exact Below.drew (Below.step hS (Below.new _ _))); rintro e w6 ⟨a2, c2, rfl, hq, hbe⟩; have hS0 := hS; have hS : Below w5.heap.size w5 w6 := (by first | exact Below.step hS0 hbe | exact Below.step hS0.drew hbe); have HQ6 := Lib.hid hq; clear hq hbe))
          | (go_at_call 84; go_loud ((with_reducible refine Calls.mono (HC84.out _ a2 c2 (by first | exact hS | exact hS.drew) (by first | exact HQ6.out | exact HQ6.out.below (Below.refl _ _).drew)) ?_); rintro e w7 ⟨rfl, hb, hk7⟩; have HB7 := Lib.hid hb; have HK7 := Lib.hid hk7; clear hb hk7))))
        all_goals
          go_wp2
          go_meet
          exact ⟨rfl, HB7⟩
      case rest =>
        obtain ⟨rfl, HB7⟩ := hcut
        clear s3 t3 HC85 HC84 hS MK HB5 HP5 HL5
        go_wp2_with fail
        go_loopw [8] (fun i wr => ∃ t : Nat, t ≤ k ∧ i = .int .i64 t ∧ Hid (BT sp w0 wr x Q R (some (j, m)) (commitJ P J l) (commitJ P J l) (commitP P J l) (commitP P J l) ∧ OwnP sp w0 wr x Q R j m gr k f)) (fun i _ => k - (RowKit.intOf i).toNat)
        case atStart => exact ⟨0, Nat.zero_le _, rfl, HB7⟩
        case round =>
          clear HB7
          obtain ⟨t, htk, rfl, HR⟩ := hrel
          by_cases hlt : t < k
          · obtain rfl : a' = some ⟨gr, 0, none⟩ := by rcases HA.out with h | h; omega; exact h
            have c1 := HR.out.2.row t hlt
            obtain ⟨hf1, hf2⟩ := HR.out.2.ln t
            obtain ⟨⟨da, dl, dc⟩, hft⟩ : ∃ y, y = f t := ⟨_, rfl⟩
            rw [← hft] at c1 hf1 hf2
            simp only at c1 hf1 hf2
            have HFt := Lib.hid hft
            clear hft c1
            go_wp2_with fail
            go_loopw [9] (fun i wr => ∃ u : Nat, u ≤ dl ∧ i = .int .i64 u ∧ Hid (BT sp w0 wr x Q R (some (j, m)) (commitJ P J l) (commitJ P J l) (commitP P J l) (commitP P J l) ∧ OwnP sp w0 wr x Q R j m gr k f)) (fun i _ => dl - (RowKit.intOf i).toNat)
            case atStart => exact ⟨0, Nat.zero_le _, rfl, HR⟩
            case round =>
              clear HR
              obtain ⟨u, hud, rfl, HR⟩ := hrel
              have c1 := HR.out.2.row t hlt
              rw [← HFt.out] at c1
              simp only at c1
              by_cases hu : u < dl
              · obtain ⟨gd, hgd, hne, hpk⟩ := HR.out.2.dat t hlt (by rw [← HFt.out]; simp only; omega)
                rw [← HFt.out] at hgd hpk
                simp only at hgd hpk
                obtain rfl := hgd
                obtain ⟨ch, hc, hf⟩ := hpk.cells u hu
                rw [Nat.zero_add] at hc hf
                have HPk := Lib.hid hpk
                have HNe := Lib.hid hne
                clear hpk hne
                go_wp2_with fail
                go_region
                go_wp2
                go_roundw
                case rel =>
                  refine ⟨u + 1, by omega, by go_num, Lib.hid ?_⟩
                  first
                    | exact ⟨HR.out.1.pk0 HPk.out u _, HR.out.2.poke HNe.out u _⟩
                    | exact ⟨(HR.out.1.below (Below.refl _ _).drew).pk0 (HPk.out.below (Below.refl _ _).drew) u _, (HR.out.2.below (Below.refl _ _).drew).poke HNe.out u _⟩
                case measure => simp [RowKit.intOf]; omega
              · go_wp2
                go_roundw
                case rel => exact ⟨t + 1, by omega, by go_num, HR⟩
                case measure => simp [RowKit.intOf]; omega
          · go_wp2
            go_ret
            exact ⟨rfl, HFin.out _ Q R HR.out.1⟩
end
end Go.Proofs.YtdhidcoglioalaaGreat.Walks
