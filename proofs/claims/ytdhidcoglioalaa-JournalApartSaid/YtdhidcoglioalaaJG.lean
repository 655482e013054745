/-
  A journal's small calls.
-/
import Derived.Test.YtdhidcoglioalaaJF
namespace Go.Proofs.Ytdhidcoglioalaa.Walks
open Go.RowKit Plain
set_option linter.unusedVariables false
theorem ret_i {k : IntKind} {a b : Int} (h : a = b) : Ending.returned (.int k a) = .returned (.int k b) := by rw [h]
theorem ret_b {a b : Bool} (h : a = b) : Ending.returned (.bool a) = .returned (.bool b) := by rw [h]
section
variable {w w' : World} {j : JLoc} {q : PLoc} {J J' : Jn} {P P' : Pl}
theorem jfree_any (h : JP w j q J P) : Calls Try.prog 41 #[jv j] w fun e w' => e = .returned (.int .i64 (J.free)) ∧ ∃ n, w' = w.drewN n := by
  have hm := jmay_any h
  unfold jmay at hm
  unfold Jn.free
  have c1 := h.jn.c1
  have c4 := h.jn.c4
  have hl := h.ok.logn
  have hu := h.ok.used
  have hn4 := h.pl.ok.most
  clear h
  obtain ⟨L, hL⟩ : ∃ L, L = J.log := ⟨_, rfl⟩
  obtain ⟨U, hU⟩ : ∃ U, U = J.used := ⟨_, rfl⟩
  rw [← hL] at c1 hl hu
  rw [← hU] at c4 hu
  rw [← hL, ← hU]
  cases hd : J.broken
  · rw [hd] at hm
    have HM := Lib.hid hm
    clear hm hd hL hU
    simp only [Bool.false_eq_true, if_false]
    by_cases h0 : U + 1 ≤ L
    · have e : ((L - U - 1 : Nat) : Int) = (L : Int) - (U : Int) - 1 := by omega
      rw [e]
      clear e
      go_enter Try.func41, Try.ntmps41
      go_wp2_with fail
      refine Calls.mono HM.out ?_
      rintro e w' ⟨rfl, rfl⟩
      go_wp2_with fail
      go_region
      go_wp2
      go_ret
      exact ⟨by simp; omega, 1, rfl⟩
    · obtain rfl : U = L := by omega
      have e : ((U - U - 1 : Nat) : Int) = 0 := by omega
      rw [e]
      clear e h0
      go_enter Try.func41, Try.ntmps41
      go_wp2_with fail
      refine Calls.mono HM.out ?_
      rintro e w' ⟨rfl, rfl⟩
      go_wp2_with fail
      go_region
      go_wp2
      go_ret
      exact ⟨by simp; omega, 1, rfl⟩
  · rw [hd] at hm
    have HM := Lib.hid hm
    clear hm hd hL hU
    go_enter Try.func41, Try.ntmps41
    go_wp2_with fail
    refine Calls.mono HM.out ?_
    rintro e w' ⟨rfl, rfl⟩
    go_wp2
    go_ret
    exact ⟨by simp, 0, rfl⟩
theorem jplace_any (h : JP w j q J P) (k : Nat) (hk : k ≤ 8192) : Calls Try.prog 81 #[jv j, .int .i64 k] w fun e w' => e = .returned (.int .i64 (J.place k : Nat)) ∧ ∃ n, w' = w.drewN n := by
  have c1 := h.jn.c1
  have c3 := h.jn.c3
  have hl2 := h.ok.log2
  have hl := h.ok.logn
  have ha := h.ok.at_
  have hn4 := h.pl.ok.most
  unfold Jn.place
  clear h
  obtain ⟨L, hL⟩ : ∃ L, L = J.log := ⟨_, rfl⟩
  obtain ⟨A, hA⟩ : ∃ A, A = J.at_ := ⟨_, rfl⟩
  rw [← hL] at c1 hl2 hl ha
  rw [← hA] at c3 ha
  rw [← hL, ← hA]
  clear hL hA
  go_enter Try.func81, Try.ntmps81
  go_wp2_with fail
  go_quiet (fail)
  go_wp2
  go_ret
  refine ⟨ret_i ?_, _, rfl⟩
  have hm := Nat.mod_lt (A + k) (show 0 < L by omega)
  rw [show ((A : Int) + (k : Int)) % (L : Int) = (((A + k) % L : Nat) : Int) by rw [Int.natCast_emod, Int.natCast_add]]
  unfold wrap64
  omega
theorem logMay_any {w : World} {q : PLoc} {P : Pl} (h : PlateAt w q P) (L : Int) (hL : -9223372036854775808 ≤ L ∧ L ≤ 9223372036854775807) : Calls Try.prog 83 #[pv q, .int .i64 L] w fun e w' => e = .returned (.bool (decide (2 ≤ L ∧ L + 3 ≤ P.n))) ∧ w = w' := by
  have hn4 := h.ok.most
  have HSz := Lib.hid (size_any w q P h)
  clear h
  obtain ⟨n, hn⟩ : ∃ n, n = P.n := ⟨_, rfl⟩
  rw [← hn] at hn4 HSz ⊢
  clear hn
  by_cases h2 : 2 ≤ L
  · go_enter Try.func83, Try.ntmps83
    go_wp2_with fail
    refine Calls.mono HSz.out ?_
    rintro e w' ⟨rfl, rfl⟩
    go_wp2
    go_ret
    refine ⟨ret_b ?_, rfl⟩
    rw [decide_eq_decide]
    omega
  · have hq : decide (2 ≤ L ∧ L + 3 ≤ (n : Int)) = false := decide_eq_false (by omega)
    rw [hq]
    clear hq
    go_enter Try.func83, Try.ntmps83
    go_wp2
    go_ret
    exact ⟨by simp, rfl⟩
theorem putAll_ok {n : Nat} {f : Nat → Option Blk} {l : List (Nat × Blk)} (h1 : ∀ i, n ≤ i → f i = none) (h2 : ∀ i b, f i = some b → Flat b) (hl : ∀ x ∈ l, x.1 < n ∧ Flat x.2) : (∀ i, n ≤ i → putAll f l i = none) ∧ (∀ i b, putAll f l i = some b → Flat b) := by
  induction l using snoc_ind with
  | nil => exact ⟨h1, h2⟩
  | append_singleton l x ih =>
    obtain ⟨i1, i2⟩ := ih fun y hy => hl y (by simp [hy])
    have hx := hl x (by simp)
    have e : putAll f (l ++ [x]) = upd (putAll f l) x.1 (some x.2) := by simp [putAll]
    rw [e]
    refine ⟨fun i hi => ?_, fun i b hb => ?_⟩
    · rw [upd_other _ _ (by omega)]; exact i1 i hi
    · by_cases e2 : i = x.1
      · rw [e2, upd_same] at hb
        cases hb
        exact hx.2
      · rw [upd_other _ _ e2] at hb
        exact i2 i b hb
theorem ok_wrote {n : Nat} (h : J.Ok n) {l : List (Nat × Blk)} (hl : ∀ x ∈ l, x.1 < n - 2 - J.log ∧ Flat x.2) (hu : J.used + l.length + 1 ≤ J.log) (ht : J.turn < 4611686018427387904) : (J.wrote l).Ok n := by
  obtain ⟨i1, i2⟩ := putAll_ok h.pend h.flat hl
  have h2 := h.log2
  exact ⟨h2, h.logn, Nat.mod_lt _ (by show 0 < J.log; omega), hu, ht, h.head, h.head0, i1, i2⟩
theorem pmap_or (f : Nat → Option Blk) (l : List (Nat × Blk)) (x : Int) : (pmap (putAll (fun _ => none) l) x).or (pmap f x) = pmap (putAll f l) x := by
  unfold pmap
  by_cases h : 0 ≤ x
  · simp only [if_pos h]
    rw [putAll_or l f]
    cases putAll (fun _ => none) l x.toNat <;> rfl
  · simp only [if_neg h]; rfl
theorem pmap_bound {f : Nat → Option Blk} {N : Nat} (h : ∀ i, N ≤ i → f i = none) (x : Int) (hx : (pmap f x).isSome = true) : 0 ≤ x ∧ x < (N : Int) := by
  unfold pmap at hx
  by_cases h0 : 0 ≤ x
  · rw [if_pos h0] at hx
    refine ⟨h0, Int.not_le.1 fun hle => ?_⟩
    rw [h x.toNat (by omega)] at hx
    cases hx
  · rw [if_neg h0] at hx; cases hx
set_option maxRecDepth 10000 in
theorem wrote_any (h : JP w j q J P) {s : Nat} {l : List (Nat × Blk)} (hs : IM EB w s (pmap (putAll (fun _ => none) l))) (hsp : s ≠ j.p) (hsm : s ≠ j.m) (hl : ∀ x ∈ l, x.1 < P.n - 2 - J.log ∧ Flat x.2) (hu : J.used + l.length + 1 ≤ J.log) (ht : J.turn < 4611686018427387904) :
    Calls Try.prog 82 #[jv j, .int .i64 l.length, .map (some s)] w fun e w' => (∃ u, e = .returned u) ∧ JP w' j q (J.wrote l) P ∧ Only (j.R q) w w' := by
  obtain ⟨i1, _⟩ := putAll_ok (f := fun _ => none) (fun _ _ => rfl) (fun _ _ e => by cases e) hl
  have HC := Lib.hid (copy98 w s j.m (P.n - 2 - J.log) _ _ hs h.jn.mp hsm (pmap_bound i1) h.bound (by have := h.pl.ok.most; omega))
  have c6 := h.jn.c6
  have hl4 := h.pl.ok.most
  have hln := h.ok.logn
  have H := Lib.hid h
  have HL := Lib.hid hl
  clear h hs i1 hl
  obtain ⟨m, hm⟩ : ∃ m, m = l.length := ⟨_, rfl⟩
  rw [← hm] at hu ⊢
  have HM := Lib.hid hm
  clear hm
  go_enter Try.func82, Try.ntmps82
  go_wp2_with fail
  refine Calls.mono HC.out ?_
  rintro e w1 ⟨⟨u, rfl⟩, him, ho⟩
  have h1 := H.out.setMap ho (him.congr (pmap_or J.pend l)) ⟨H.out.ok.log2, H.out.ok.logn, H.out.ok.at_, H.out.ok.used, H.out.ok.turn, H.out.ok.head, H.out.ok.head0, (putAll_ok H.out.ok.pend H.out.ok.flat HL.out).1, (putAll_ok H.out.ok.pend H.out.ok.flat HL.out).2⟩
  have c1 := h1.jn.c1
  have c3 := h1.jn.c3
  have c4 := h1.jn.c4
  have c5 := h1.jn.c5
  have f3 := h1.jn.fz 3
  have f4 := h1.jn.fz 4
  have f5 := h1.jn.fz 5
  have hl2 := h1.ok.log2
  have ha := h1.ok.at_
  have H1 := Lib.hid h1
  have HO := Lib.hid ho
  clear h1 him ho c6
  obtain ⟨L, hL⟩ : ∃ L, L = J.log := ⟨_, rfl⟩
  obtain ⟨A, hA⟩ : ∃ A, A = J.at_ := ⟨_, rfl⟩
  obtain ⟨U, hU⟩ : ∃ U, U = J.used := ⟨_, rfl⟩
  obtain ⟨T, hT⟩ : ∃ T, T = J.turn := ⟨_, rfl⟩
  simp only at c1 c3 c4 c5 ha hl2
  rw [← hL] at c1 hl2 ha hu hln
  rw [← hA] at c3 ha
  rw [← hU] at c4 hu
  rw [← hT] at c5 ht
  have HLe := Lib.hid hL
  have HAe := Lib.hid hA
  have HUe := Lib.hid hU
  have HTe := Lib.hid hT
  clear hL hA hU hT
  go_wp2_with fail
  go_region
  go_wp2
  go_end0
  have hO := H1.out.ok
  have hW := ok_wrote H.out.ok HL.out (by rw [← HM.out, ← HUe.out, ← HLe.out]; exact hu) (by rw [← HTe.out]; exact ht)
  have e3 : ((A : Int) + (m : Int) + 1) % (L : Int) = (((J.at_ + l.length + 1) % J.log : Nat) : Int) := by
    rw [Int.natCast_emod, HAe.out, HM.out, HLe.out]; rfl
  have e4 : ((U : Int) + ((m : Int) + 1)) = ((J.used + l.length + 1 : Nat) : Int) := by rw [HUe.out, HM.out]; omega
  have e5 : ((T : Int) + 1) = ((J.turn + 1 : Nat) : Int) := by rw [HTe.out]; omega
  rw [e3, e4, e5]
  have k1 := H1.out.setCell (i := 3) (v := .int .i64 (((J.at_ + l.length + 1) % J.log : Nat) : Int)) (J' := { J with pend := putAll J.pend l, at_ := (J.at_ + l.length + 1) % J.log }) ⟨hO.log2, hO.logn, hW.at_, hO.used, hO.turn, hO.head, hO.head0, hO.pend, hO.flat⟩ (by simp) (by simp) (by simp) (by simp) (by simp) (by simp) (by simp) (by simp) rfl
  have k2 := k1.setCell (i := 4) (v := .int .i64 ((J.used + l.length + 1 : Nat) : Int)) (J' := { J with pend := putAll J.pend l, at_ := (J.at_ + l.length + 1) % J.log, used := J.used + l.length + 1 }) ⟨hO.log2, hO.logn, hW.at_, hW.used, hO.turn, hO.head, hO.head0, hO.pend, hO.flat⟩ (by simp) (by simp) (by simp) (by simp) (by simp) (by simp) (by simp) (by simp) rfl
  have k3 := k2.setCell (i := 5) (v := .int .i64 ((J.turn + 1 : Nat) : Int)) (J' := J.wrote l) hW (by simp [Jn.wrote]) (by simp [Jn.wrote]) (by simp [Jn.wrote]) (by simp [Jn.wrote]) (by simp [Jn.wrote]) (by simp [Jn.wrote]) (by simp) (by simp) rfl
  refine ⟨⟨_, rfl⟩, k3.drew, ?_⟩
  exact ((((HO.out.mono (fun r hr => by simp at hr; rw [hr]; exact JLoc.inM)).setCell JLoc.inP _).setCell JLoc.inP _).setCell JLoc.inP _).drew
end
end Go.Proofs.Ytdhidcoglioalaa.Walks
