/-
  The document's plate: a bit is turned.
-/
import Derived.Test.YtdhidcoglioalaaRefE
namespace Go.Proofs.Ytdhidcoglioalaa.Walks
open Go.RowKit Plain
set_option linter.unusedVariables false

theorem rf_turned {w : World} {r : RLoc} {P : Pl} {k m : Nat} (h : RefX w r P.n (upd P.stays k (Pl.flip (P.seen k) m)) (upd P.seen k (Pl.flip (P.seen k) m)) (upd (waitB P) k false) P.dead P.fails P.left P.keep) (hok : P.Ok) : RefAt w r (P.turned k m) :=
  ⟨h.congr (fun _ _ => rfl) (fun i _ => by
    show secL ((upd P.waits k none i).getD (upd P.stays k (Pl.flip (P.seen k) m) i)) = _
    by_cases e : i = k
    · rw [e, upd_same, upd_same, upd_same]; rfl
    · rw [upd_other _ _ e, upd_other _ _ e, upd_other _ _ e]; rfl) (fun i _ => by
    show (upd P.waits k none i).isSome = _
    by_cases e : i = k
    · rw [e, upd_same, upd_same]; rfl
    · rw [upd_other _ _ e, upd_other _ _ e]; rfl), hok.turned k m⟩
/-- A byte of a row that is none of the plate's blocks is turned. -/
theorem row_flip {w : World} {g o m : Nat} {s : Sec} (hr : w.rangeAt g o (secL s)) (hm : m / 8 < 64) :
    (w.setCell ⟨g, o + m / 8, none⟩ (.int .u8 (bits .xor .u8 ((s (m / 8)).toNat : Int) (2 ^ (m % 8) % 256)))).rangeAt g o (secL (Pl.flip s m)) := by
  rw [flip_int]
  intro j v hv
  have hj : j < 64 := by
    have := (List.getElem?_eq_some_iff.1 hv).1
    rwa [secL_length] at this
  rw [secL_get _ hj] at hv
  rw [← hv]
  unfold Pl.flip
  by_cases e : j = m / 8
  · subst e
    rw [upd_same]
    exact World.cell?_setCell_same _ _ _ (hr _ _ (secL_get s hj))
  · rw [upd_other _ _ e, World.cell?_setCell_other _ _ _ _ (fun h => e (by injection h with _ h2 _; omega))]
    exact hr _ _ (secL_get s hj)
set_option maxRecDepth 10000 in
set_option maxHeartbeats 1000000 in
theorem rf_turn (w : World) (r : RLoc) (P : Pl) (h : RefAt w r P) (i bit : Int) :
    Calls Try.prog 59 #[rv r, .int .i64 i, .int .i64 bit] w fun e w' => e = .returned (.int .i64 (P.turnE i bit)) ∧ RefAt w' r (P.turn i bit) ∧ Only r.R w w' := by
  have c3 := h.x.c3
  cases hd : P.dead
  · rw [hd] at c3
    have ht := rf_there w r P h i
    rw [there_of hd] at ht
    by_cases h0 : P.has i = 0
    · rw [decide_eq_true h0] at ht
      obtain ⟨_, h1, h2⟩ := Pl.has_zero h0
      obtain ⟨k, rfl⟩ : ∃ k : Nat, i = k := ⟨i.toNat, by omega⟩
      have hk : k < P.n := by omega
      by_cases hb : bit < 0 ∨ 512 ≤ bit
      · have e1 : P.turnE k bit = 9 := by simp [Pl.turnE, h0, hb]
        have e2 : P.turn k bit = P := by simp [Pl.turn, e1]
        rw [e1, e2]
        have HT := Lib.hid ht
        have H := Lib.hid h
        clear h ht hd h0 h1 h2 hk e1 e2
        by_cases hb0 : bit < 0
        · clear hb
          go_enter Try.func59, Try.ntmps59
          go_wp2_with fail
          refine Calls.mono HT.out ?_
          rintro e w' ⟨rfl, rfl⟩
          go_wp2
          go_ret
          exact ⟨rfl, H.out, Only.refl _ _⟩
        · have hb1 : 511 < bit := by omega
          clear hb
          go_enter Try.func59, Try.ntmps59
          go_wp2_with fail
          refine Calls.mono HT.out ?_
          rintro e w' ⟨rfl, rfl⟩
          go_wp2
          go_ret
          exact ⟨rfl, H.out, Only.refl _ _⟩
      · have e1 : P.turnE k bit = 0 := by simp [Pl.turnE, h0, hb]
        obtain ⟨m, rfl⟩ : ∃ m : Nat, bit = m := ⟨bit.toNat, by omega⟩
        have hm : m < 512 := by omega
        have hm8 : m / 8 < 64 := by omega
        have e2 : P.turn k m = P.turned k m := by simp [Pl.turn, e1]
        rw [e1, e2]
        obtain ⟨x1, c1⟩ := h.x.c1
        obtain ⟨nf, nv, nc, ng, no, nx, rfl, hnr, hng⟩ := h.x.sn k hk
        have hcp := rf_copyN (some ⟨ng, no, none⟩) nx (bytesOf (P.seen k)) 64 (bytesOf_length _) (RowV.bys (R := r.R) (c := nx) hnr) (fun e => by cases e)
        have HT := Lib.hid ht
        have HCp := Lib.hid hcp
        have H := Lib.hid h
        obtain ⟨n, hn⟩ : ∃ n, n = P.n := ⟨_, rfl⟩
        rw [← hn] at c1
        have hkn : k < n := by omega
        have hk4 : k < 4096 := by have := h.x.n2; omega
        have HN := Lib.hid hn
        have HK := Lib.hid hk
        clear h ht hd h0 h1 h2 hk hb e1 e2 hcp hnr hng hn
        go_enter Try.func59, Try.ntmps59
        go_wp2_with fail
        refine Calls.mono HT.out ?_
        rintro e w' ⟨rfl, rfl⟩
        go_wp2_with fail
        refine Calls.mono HCp.out ?_
        rintro e w1 ⟨a', c', rfl, hB, hfr, _, hb1⟩
        obtain ⟨g, o, rfl, hgl, hcc⟩ := hB.at_lt (i := 0) (by rw [bytesOf_length]; omega)
        have hgw : w.heap.size ≤ g := (hfr ⟨g, o, none⟩ rfl).1
        have hra := rangeAt_bys hB
        obtain ⟨s, hs⟩ : ∃ s, s = P.seen k := ⟨_, rfl⟩
        rw [← hs] at hra
        have hcell : w1.cell? ⟨g, o + m / 8, none⟩ = some (.int .u8 ((s (m / 8)).toNat : Int)) := hra _ _ (secL_get s hm8)
        have hfz : w1.frozen? ⟨g, o + m / 8, none⟩ = false := (hfr ⟨g, o, none⟩ rfl).2 _
        have HRa := Lib.hid hra
        have HGw := Lib.hid hgw
        have HSe := Lib.hid hs
        have HB1 := Lib.hid hb1
        clear hB hfr hra hcc hs hb1
        go_wp2_with fail
        go_region
        obtain ⟨w2, hw2⟩ : ∃ x, x = (w1.setCell ⟨g, o + m / 8, none⟩ (.int .u8 (bits .xor .u8 ((s (m / 8)).toNat : Int) (2 ^ (m % 8) % 256)))).drew := ⟨_, rfl⟩
        rw [← hw2]
        have hgR : g ∉ r.N := fun hm => by have h1 := H.out.x.ltN _ hm; have h2 := HGw.out; omega
        have hbe2 : Below w.heap.size w w2 := by rw [hw2]; exact (HB1.out.setCell (p := ⟨g, o + m / 8, none⟩) HGw.out _).drew
        have hrow : RowV w2 r.N (.slice (some ⟨g, o, none⟩) 64 c') (Pl.flip s m) := ⟨g, o, c', rfl, by rw [hw2]; exact row_flip HRa.out hm8, hgR⟩
        have h0 := H.out.x.below hbe2
        have h1 := h0.setN (i := k) hrow
        have h2 := h1.setS (i := k) (hrow.of (only_cell ((Only.refl r.R w2).setCell (p := ⟨r.nb, k, none⟩) r.inN _) (fun b hb => r.inN' hb)))
        have h3 := h2.setW (i := k) false
        obtain ⟨y1, c1⟩ := h0.c1
        obtain ⟨y0, c0⟩ := h0.c0
        obtain ⟨y2, c2⟩ := h0.c2
        rw [← HN.out] at c0 c1 c2
        obtain ⟨nf, nv, nc, ng2, no2, nx2, rfl, _, _⟩ := h0.sn k HK.out
        obtain ⟨sf, sv, sc, sg2, so2, sx2, rfl, _, _⟩ := h0.st k HK.out
        obtain ⟨ff, fc⟩ := h0.fl k HK.out
        obtain ⟨e1, e2, e3, e4, e5, e6⟩ := h0.ne
        rw [HSe.out] at h3
        have H3 := Lib.hid h3
        have HO3 := Lib.hid ((((Only.of_below (R := r.R) hbe2).setCell (p := ⟨r.nb, k, none⟩) r.inN (.slice (some ⟨g, o, none⟩) 64 c')).setCell (p := ⟨r.sb, k, none⟩) r.inS (.slice (some ⟨g, o, none⟩) 64 c')).setCell (p := ⟨r.wb, k, none⟩) r.inW (.bool false))
        clear hw2 hgR hbe2 hrow h0 h1 h2 h3 hcell hfz
        go_wp2
        go_ret
        exact ⟨rfl, rf_turned H3.out H.out.ok, HO3.out⟩
    · have e1 : P.turnE i bit = 9 := by simp [Pl.turnE, h0]; exact has_nine hd h0
      have e2 : P.turn i bit = P := by simp [Pl.turn, e1]
      rw [decide_eq_false h0] at ht
      rw [e1, e2]
      have HT := Lib.hid ht
      have H := Lib.hid h
      clear h ht hd h0 e1 e2
      go_enter Try.func59, Try.ntmps59
      go_wp2_with fail
      refine Calls.mono HT.out ?_
      rintro e w' ⟨rfl, rfl⟩
      go_wp2
      go_ret
      exact ⟨rfl, H.out, Only.refl _ _⟩
  · have h50 := has_dead (i := i) hd
    have e1 : P.turnE i bit = 50 := by simp [Pl.turnE, h50]
    have e2 : P.turn i bit = P := by simp [Pl.turn, e1]
    rw [e1, e2]
    rw [hd] at c3
    have H := Lib.hid h
    clear h hd h50 e1 e2
    go_enter Try.func59, Try.ntmps59
    go_wp2
    go_ret
    exact ⟨rfl, H.out, Only.refl _ _⟩
end Go.Proofs.Ytdhidcoglioalaa.Walks
