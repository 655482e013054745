/-
  The document's plate: reading, writing, flushing, what waits.
-/
import Derived.Test.YtdhidcoglioalaaRefC
namespace Go.Proofs.Ytdhidcoglioalaa.Walks
open Go.RowKit Plain
set_option linter.unusedVariables false

theorem bytes_secOf {l : List Byte} (h : l.length = 64) : bytesOf (secOf l) = l := by
  apply List.ext_getElem
  · rw [bytesOf_length, h]
  · intro i h1 h2
    simp [bytesOf, secOf, List.getD_eq_getElem?_getD, h2]
theorem rf_wrote {w : World} {r : RLoc} {Q : Pl} {k : Nat} {s : Sec} (h : RefX w r Q.n Q.stays (upd Q.seen k s) (upd (waitB Q) k true) Q.dead Q.fails Q.left Q.keep) (hok : Q.Ok) (hk : k < Q.n) :
    RefAt w r { Q with waits := upd Q.waits k (some s) } :=
  ⟨h.congr (fun _ _ => rfl) (fun i _ => by
    show secL ((upd Q.waits k (some s) i).getD (Q.stays i)) = _
    by_cases e : i = k
    · rw [e, upd_same, upd_same]; rfl
    · rw [upd_other _ _ e, upd_other _ _ e]; rfl) (fun i _ => by
    show (upd Q.waits k (some s) i).isSome = _
    by_cases e : i = k
    · rw [e, upd_same, upd_same]; rfl
    · rw [upd_other _ _ e, upd_other _ _ e]; rfl), hok.put hk s⟩
theorem rf_copyN {w : World} (a : Option Addr) (cap : Nat) (l : List Byte) (n : Nat) (hl : l.length = n) (hB : Bys w a l) (hn : a = none → cap = 0) :
    Calls Try.prog 52 #[.slice a n cap] w fun e w' => ∃ a' cap', e = .returned (.slice a' n cap') ∧ Bys w' a' l ∧ (∀ ad, a' = some ad → w.heap.size ≤ ad.block ∧ ∀ j, w'.frozen? ⟨ad.block, j, none⟩ = false) ∧ (a' = none → cap' = 0) ∧ Below w.heap.size w w' := by
  subst hl
  exact rf_copy w a cap l hB hn
theorem there_of {P : Pl} {i : Int} (h : P.dead = false) : thereB P i = decide (P.has i = 0) := by
  unfold thereB Pl.has
  rw [h]
  by_cases h1 : i < 0 ∨ (P.n : Int) ≤ i
  · rw [if_neg (by simp), if_pos h1]
    by_cases h2 : 0 ≤ i
    · rw [decide_eq_true h2, decide_eq_false (by omega)]; rfl
    · rw [decide_eq_false h2]; rfl
  · rw [if_neg (by simp), if_neg h1, decide_eq_true (by omega), decide_eq_true (by omega)]; rfl
theorem has_nine {P : Pl} {i : Int} (h : P.dead = false) (h0 : P.has i ≠ 0) : P.has i = 9 := by
  unfold Pl.has at h0 ⊢
  rw [h] at h0 ⊢
  by_cases h1 : i < 0 ∨ (P.n : Int) ≤ i
  · rw [if_neg (by simp), if_pos h1]
  · rw [if_neg (by simp), if_neg h1] at h0
    exact absurd rfl h0
theorem has_dead {P : Pl} {i : Int} (h : P.dead = true) : P.has i = 50 := by
  unfold Pl.has
  rw [if_pos h]
theorem RowV.bys {w : World} {R : List Nat} {g o c : Nat} {s : Sec} (h : w.rangeAt g o (secL s)) : Bys w (some ⟨g, o, none⟩) (bytesOf s) :=
  ⟨by rw [bytesOf_length]; omega, .inr ⟨g, o, rfl, fun i hi => by
    rw [bytesOf_length] at hi
    rw [h i _ (secL_get s hi)]
    simp [bytesOf]⟩⟩
theorem rangeAt_bys {w : World} {b o : Nat} {s : Sec} (h : Bys w (some ⟨b, o, none⟩) (bytesOf s)) : w.rangeAt b o (secL s) := by
  obtain ⟨b', o', e, _, hc⟩ := h.at_lt (i := 0) (by rw [bytesOf_length]; omega)
  cases e
  intro j v hv
  have hj : j < 64 := by
    have := (List.getElem?_eq_some_iff.1 hv).1
    rwa [secL_length] at this
  rw [secL_get _ hj] at hv
  rw [← hv, hc j (by rw [bytesOf_length]; exact hj)]
  simp [bytesOf]
set_option maxRecDepth 10000 in
theorem rf_read (w : World) (r : RLoc) (P : Pl) (h : RefAt w r P) (k : Nat) (hk : k < P.n) (hd : P.dead = false) : Calls Try.prog 55 #[rv r, .int .i64 k] w fun e w' => ∃ a c, e = .returned (.tuple #[.slice a 64 c, .int .i64 0]) ∧ Bys w' a (bytesOf (P.seen k)) ∧ Below w.heap.size w w' := by
  have c3 := h.x.c3
  obtain ⟨x1, c1⟩ := h.x.c1
  have ht := rf_there w r P h k
  have e0 : thereB P k = true := by unfold thereB; simp; omega
  rw [e0] at ht
  rw [hd] at c3
  obtain ⟨nf, nv, nc, g, o, c, rfl, hr, hg⟩ := h.x.sn k hk
  have hcp := rf_copy w (some ⟨g, o, none⟩) c (bytesOf (P.seen k)) (RowV.bys (R := r.R) (c := c) hr) (fun e => by cases e)
  rw [bytesOf_length] at hcp
  have HT := Lib.hid ht
  have HC := Lib.hid hcp
  obtain ⟨n, hn⟩ : ∃ n, n = P.n := ⟨_, rfl⟩
  rw [← hn] at c1
  have hkn : k < n := by omega
  clear h hk hd ht e0 hr hg hcp hn nf
  go_enter Try.func55, Try.ntmps55
  go_wp2_with fail
  refine Calls.mono HT.out ?_
  rintro e w' ⟨rfl, rfl⟩
  go_wp2_with fail
  refine Calls.mono HC.out ?_
  rintro e w' ⟨a', c', rfl, hB, _, _, hb⟩
  have HB := Lib.hid hB
  have HBe := Lib.hid hb
  clear hB hb
  go_wp2
  refine bodyPost_ret (results_tmp2 rfl _ _ _) rfl ?_
  exact ⟨a', c', rfl, HB.out, HBe.out⟩
set_option maxRecDepth 10000 in
theorem rf_readNo (w : World) (r : RLoc) (P : Pl) (h : RefAt w r P) (i : Int) (h0 : P.has i ≠ 0) : Calls Try.prog 55 #[rv r, .int .i64 i] w fun e w' => e = .returned (.tuple #[.slice none 0 0, .int .i64 (P.has i)]) ∧ w = w' := by
  have c3 := h.x.c3
  cases hd : P.dead
  · have ht := rf_there w r P h i
    rw [there_of hd, decide_eq_false h0] at ht
    rw [has_nine hd h0]
    rw [hd] at c3
    have HT := Lib.hid ht
    clear h h0 hd ht
    go_enter Try.func55, Try.ntmps55
    go_wp2_with fail
    refine Calls.mono HT.out ?_
    rintro e w' ⟨rfl, rfl⟩
    go_wp2
    refine bodyPost_ret (results_tmp2 rfl _ _ _) rfl ?_
    exact ⟨rfl, rfl⟩
  · rw [has_dead hd]
    rw [hd] at c3
    clear h h0 hd
    go_enter Try.func55, Try.ntmps55
    go_wp2
    refine bodyPost_ret (results_tmp2 rfl _ _ _) rfl ?_
    exact ⟨rfl, rfl⟩
set_option maxRecDepth 10000 in
set_option maxHeartbeats 1000000 in
theorem rf_write (w : World) (r : RLoc) (P : Pl) (h : RefAt w r P) (i : Int) (a : Option Addr) (l : List Byte) (cap : Nat) (hB : Bys w a l) (hcap : a = none → cap = 0) (hdis : l ≠ [] → ∀ ad, a = some ad → ad.block ∉ r.R) :
    Calls Try.prog 53 #[rv r, .int .i64 i, .slice a l.length cap] w fun e w' => e = .returned (.int .i64 (P.writeE i l)) ∧ RefAt w' r (P.write i l) ∧ Only r.R w w' := by
  have c3 := h.x.c3
  cases hd : P.dead
  · rw [hd] at c3
    have ht := rf_there w r P h i
    rw [there_of hd] at ht
    by_cases h0 : P.has i = 0
    · rw [decide_eq_true h0] at ht
      obtain ⟨_, h1, h2⟩ := Pl.has_zero h0
      obtain ⟨k, rfl⟩ : ∃ k : Nat, i = k := ⟨i.toNat, by omega⟩
      have hk : k < P.n := by omega
      by_cases hl : l.length = 64
      · have hf := rf_fails w r P h
        cases hg : P.goes
        · have e1 : P.writeE k l = 0 := by simp [Pl.writeE, h0, hl, hg]
          have e2 : P.write k l = { P.did with waits := upd P.did.waits k (some (secOf l)) } := by simp [Pl.write, h0, hl, hg]
          rw [e1, e2]
          rw [hg] at hf
          obtain ⟨e4, e5⟩ := did_waits P hg
          have HT := Lib.hid ht
          have HF := Lib.hid hf
          have HB := Lib.hid hB
          have HC := Lib.hid hcap
          have HD := Lib.hid hdis
          have HL := Lib.hid hl
          have hk4 : k < 4096 := by have := h.x.n2; omega
          obtain ⟨Q, hQ⟩ : ∃ Q, Q = P.did := ⟨_, rfl⟩
          rw [← hQ] at HF e5 ⊢
          have hkq : k < Q.n := by omega
          have HKQ := Lib.hid hkq
          obtain ⟨n, hn⟩ : ∃ n, n = Q.n := ⟨_, rfl⟩
          have hkn : k < n := by omega
          have HN := Lib.hid hn
          rw [hl]
          clear h hB hcap hdis ht hf hd h0 h1 h2 hk hl hg e1 e2 e4 e5 hQ hkq hn
          go_enter Try.func53, Try.ntmps53
          go_wp2_with fail
          refine Calls.mono HT.out ?_
          rintro e w' ⟨rfl, rfl⟩
          go_wp2_with fail
          refine Calls.mono HF.out ?_
          rintro e w1 ⟨rfl, hP, hO⟩
          have hB1 : Bys w1 a l := by
            by_cases h0 : l = []
            · subst h0; exact ⟨by simp, .inl rfl⟩
            · exact HB.out.only hO (HD.out h0)
          obtain ⟨x1, c1⟩ := hP.x.c1
          rw [← HN.out] at c1
          have hpx := hP.x.lt _ r.inP
          obtain ⟨nf, nv, nc, g0, o0, c0, rfl, _, _⟩ := hP.x.sn k (by have := HN.out; omega)
          have hnb := hP.x.lt _ r.inN
          have HP := Lib.hid hP
          have HO := Lib.hid hO
          have HB1 := Lib.hid hB1
          clear hP hO hB1
          have hb0 : Below w1.heap.size w1 w1 := Below.refl _ _
          go_wp2_with fail
          go_region_with
            ((go_at_call 52; go_loud ((with_reducible refine Calls.mono (rf_copyN a cap l 64 HL.out ?_ HC.out) ?_); (refine HB1.out.below ?_; (first | with_reducible exact hb0 | with_reducible exact Below.drew hb0 | with_reducible exact Below.step hb0 (Below.new _ _) | with_reducible exact Below.step (Below.drew hb0) (Below.new _ _) | with_reducible exact Below.drew (Below.step hb0 (Below.new _ _)))); rintro e w2 ⟨a', c', rfl, hB', hfr, _, hb⟩; have hbb : Below w1.heap.size w1 w2 := Below.step (by (first | with_reducible exact hb0 | with_reducible exact Below.drew hb0 | with_reducible exact Below.step hb0 (Below.new _ _) | with_reducible exact Below.step (Below.drew hb0) (Below.new _ _) | with_reducible exact Below.drew (Below.step hb0 (Below.new _ _)))) hb; have c1 := keepc hbb c1; have nc := keepc hbb nc; have nf : w2.frozen? ⟨r.nb, k, none⟩ = false := (hbb.frozen (p := ⟨r.nb, k, none⟩) hnb).trans nf; have HB2 := Lib.hid hB'; have HFr := Lib.hid hfr; have HBB := Lib.hid hbb; clear hB' hfr hb hbb)))
          all_goals
            obtain ⟨g, o, rfl, _, _⟩ := HB2.out.at_lt (i := 0) (by have := HL.out; omega)
            have hrow : RowV w2 r.N (.slice (some ⟨g, o, none⟩) 64 c') (secOf l) := ⟨g, o, c', rfl, rangeAt_bys (by rw [bytes_secOf HL.out]; exact HB2.out), fun hm => by have h1 := (HFr.out ⟨g, o, none⟩ rfl).1; have h2 := HP.out.x.ltN _ hm; simp at h1; omega⟩
            have h1 := (HP.out.x.below HBB.out).setN (i := k) hrow
            have h2 := h1.setW (i := k) true
            obtain ⟨x2, c2⟩ := h1.c2
            obtain ⟨ff, fc⟩ := h1.fl k HKQ.out
            rw [← HN.out] at c2
            have H2 := Lib.hid h2
            have HO2 := Lib.hid (((HO.out.trans (Only.of_below HBB.out)).setCell (p := ⟨r.nb, k, none⟩) r.inN (.slice (some ⟨g, o, none⟩) 64 c')).setCell (p := ⟨r.wb, k, none⟩) r.inW (.bool true))
            clear h1 h2 hrow
            go_wp2
            go_ret
            first
              | exact ⟨rfl, rf_wrote H2.out HP.out.ok HKQ.out, HO2.out⟩
              | exact ⟨rfl, rf_wrote (H2.out.below (below_drewN (Below.refl _ _) 1)) HP.out.ok HKQ.out, HO2.out.drew⟩
        · have e1 : P.writeE k l = 50 := by simp [Pl.writeE, h0, hl, hg]
          have e2 : P.write k l = P.did := by simp [Pl.write, h0, hl, hg]
          rw [e1, e2]
          rw [hg] at hf
          have HT := Lib.hid ht
          have HF := Lib.hid hf
          rw [hl]
          clear h hB hcap hdis ht hf hd h0 h1 h2 hk hl hg e1 e2
          go_enter Try.func53, Try.ntmps53
          go_wp2_with fail
          refine Calls.mono HT.out ?_
          rintro e w' ⟨rfl, rfl⟩
          go_wp2_with fail
          refine Calls.mono HF.out ?_
          rintro e w1 ⟨rfl, hP, hO⟩
          have HP := Lib.hid hP
          have HO := Lib.hid hO
          clear hP hO
          go_wp2
          go_ret
          exact ⟨rfl, HP.out, HO.out⟩
      · have e1 : P.writeE k l = 2 := by simp [Pl.writeE, h0, hl]
        have e2 : P.write k l = P := by simp [Pl.write, h0, hl]
        have hq : ((l.length : Int) != 64) = true := by simp; omega
        rw [e1, e2]
        obtain ⟨n, hn⟩ : ∃ n, n = l.length := ⟨_, rfl⟩
        rw [← hn] at hq ⊢
        have HT := Lib.hid ht
        have H := Lib.hid h
        clear h hB hcap hdis ht hd h0 h1 h2 hk hl e1 e2 hn
        go_enter Try.func53, Try.ntmps53
        go_wp2_with fail
        refine Calls.mono HT.out ?_
        rintro e w' ⟨rfl, rfl⟩
        go_wp2
        go_ret
        exact ⟨rfl, H.out, Only.refl _ _⟩
    · have e1 : P.writeE i l = 9 := by simp [Pl.writeE, h0]; exact has_nine hd h0
      have e2 : P.write i l = P := by simp [Pl.write, h0]
      rw [decide_eq_false h0] at ht
      rw [e1, e2]
      obtain ⟨n, hn⟩ : ∃ n, n = l.length := ⟨_, rfl⟩
      rw [← hn]
      have HT := Lib.hid ht
      have H := Lib.hid h
      clear h hB hcap hdis ht hd h0 e1 e2 hn
      go_enter Try.func53, Try.ntmps53
      go_wp2_with fail
      refine Calls.mono HT.out ?_
      rintro e w' ⟨rfl, rfl⟩
      go_wp2
      go_ret
      exact ⟨rfl, H.out, Only.refl _ _⟩
  · have h50 := has_dead (i := i) hd
    have e1 : P.writeE i l = 50 := by simp [Pl.writeE, h50]
    have e2 : P.write i l = P := by simp [Pl.write, h50]
    rw [e1, e2]
    rw [hd] at c3
    obtain ⟨n, hn⟩ : ∃ n, n = l.length := ⟨_, rfl⟩
    rw [← hn]
    have H := Lib.hid h
    clear h hB hcap hdis hd h50 e1 e2 hn
    go_enter Try.func53, Try.ntmps53
    go_wp2
    go_ret
    exact ⟨rfl, H.out, Only.refl _ _⟩
end Go.Proofs.Ytdhidcoglioalaa.Walks
