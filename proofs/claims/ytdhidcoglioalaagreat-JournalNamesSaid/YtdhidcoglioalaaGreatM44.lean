/-
  What opening answered is laid into both; both are compared, sector by sector.
  Both are opened.
  The program's Format on a plate that is to fail at no doing.
-/
import Derived.Test.YtdhidcoglioalaaGreatM43
namespace Go.Proofs.YtdhidcoglioalaaGreat.Walks
open Go.RowKit Plain Jn
set_option linter.unusedVariables false
section
variable {sp : Sp} {w0 w w' : World} {x m : Nat} {q : PLoc} {r : RLoc} {j : JLoc} {o : Option (JLoc × Nat)} {J J' J2 : Jn} {P P' P2 : Pl}
set_option maxRecDepth 10000 in
theorem took_is (w : World) (x : Nat) (o : Option (JLoc × Nat)) (z : Int) (hz : o.isNone = (z != 0)) {u1 u3 : Value} (c1 : w.cell? ⟨x, 1, none⟩ = some u1) (c3 : w.cell? ⟨x, 3, none⟩ = some u3) (fz : ∀ i, w.frozen? ⟨x, i, none⟩ = false) :
    Calls Tryz.prog 82 #[xv x, jcell o, .int .i64 z, mcell o, .int .i64 z] w fun e w' => e = .returned (.bool true) ∧ w' = (w.setCell ⟨x, 1, none⟩ (jcell o)).setCell ⟨x, 3, none⟩ (mcell o) := by
  have f1 := fz 1
  have f3 := fz 3
  cases o with
  | none =>
    have hz' : ¬ z = 0 := by simpa using hz.symm
    unfold jcell mcell
    go_enter Tryz.func82, Tryz.ntmps82
    go_wp2
    go_ret
    first | exact ⟨rfl, rfl⟩ | (refine ⟨?_, rfl⟩; simp [hz'])
  | some t =>
    have hz' : z = 0 := by simpa using hz.symm
    subst hz'
    unfold jcell mcell
    go_enter Tryz.func82, Tryz.ntmps82
    go_wp2
    go_ret
    first | exact ⟨rfl, rfl⟩ | (refine ⟨?_, rfl⟩; simp)
theorem eqBs_is {l l' : List Byte} {n n' : Nat} {r : Bool} {a a' : Option Addr} {cap cap' : Nat} {w : World} (hn : l.length = n) (hn' : l'.length = n') (hr : decide (l = l') = r) (hB : Bys w a l) (hB' : Bys w a' l') :
    Calls Tryz.prog 65 #[.slice a n cap, .slice a' n' cap'] w fun e w' => e = .returned (.bool r) ∧ Below w.heap.size w w' := by
  rw [← hn, ← hn', ← hr]
  exact eqBytes_any a a' cap cap' l l' w hB hB'
theorem IntsN.below {a : Option Addr} {l : List Nat} (h : IntsN w a l) (hb : Below w.heap.size w w') : IntsN w' a l := Ints.below h hb
theorem eqN_is {l : List Nat} {n : Nat} {a a' : Option Addr} {cap cap' : Nat} (hn : n = l.length) (hB : IntsN w a l) (hB' : IntsN w a' l) :
    Calls Tryz.prog 89 #[.slice a n cap, .slice a' n cap'] w fun e w' => e = .returned (.bool true) ∧ Below w.heap.size w w' :=
  eqI_is (r := true) (by rw [List.length_map]; exact hn.symm) (by rw [List.length_map]; exact hn.symm) (decide_eq_true rfl) hB hB'
set_option maxRecDepth 10000 in
set_option maxHeartbeats 4000000 in
theorem sectors_is (h : BN sp w0 w x q r P P) (hdw : DW P) : Calls Tryz.prog 63 #[xv x] w fun e w' => e = .returned (.bool true) ∧ Below w.heap.size w w' := by
  have H := Lib.hid h
  have s0 := h.c0
  have s2 := h.c2
  have MK : Hid (∀ w', Below w.heap.size w w' → w'.cell? ⟨x, 0, none⟩ = some (pv q) ∧ w'.cell? ⟨x, 2, none⟩ = some (rv r)) := Lib.hid fun w' hb => ⟨keepc hb h.c0, keepc hb h.c2⟩
  have HWs := wsD_eq hdw
  obtain ⟨l, hl⟩ : ∃ l, l = P.ws := ⟨_, rfl⟩
  obtain ⟨n, hn⟩ : ∃ n, n = l.length := ⟨_, rfl⟩
  have HLn := Lib.hid hn
  have HD1 : Hid (∀ w', Below w.heap.size w w' → Calls Tryz.prog 27 #[pv q] w' fun e w'' => e = .returned (.bool P.dead) ∧ w' = w'') := Lib.hid fun w' hb => dead_any w' q P (h.below hb).mix.pl
  have HD2 : Hid (∀ w', Below w.heap.size w w' → Calls Tryz.prog 79 #[rv r] w' fun e w'' => e = .returned (.bool P.dead) ∧ w' = w'') := Lib.hid fun w' hb => rf_dead w' r P (h.below hb).mix.rf
  have HW1 : Hid (∀ w', Below w.heap.size w w' → Calls Tryz.prog 90 #[pv q] w' fun e w'' => ∃ a c, e = .returned (.slice a n c) ∧ IntsN w'' a l ∧ Below w'.heap.size w' w'') := Lib.hid fun w' hb => by
    have := waits_any w' q P (h.below hb).mix.pl
    rw [HWs, ← hl, ← hn] at this
    exact Calls.mono this (fun e w'' ⟨a, c, h1, h2, _, h4⟩ => ⟨a, c, h1, h2, h4⟩)
  have HW2 : Hid (∀ w', Below w.heap.size w w' → Calls Tryz.prog 91 #[rv r] w' fun e w'' => ∃ a c, e = .returned (.slice a n c) ∧ IntsN w'' a l ∧ Below w'.heap.size w' w'') := Lib.hid fun w' hb => by
    have := rf_waits w' r P (h.below hb).mix.rf
    rw [← hl, ← hn] at this
    exact this
  have HR1 : Hid (∀ w', Below w.heap.size w w' → ∀ k : Nat, k < P.n → ∃ z, Calls Tryz.prog 15 #[pv q, .int .i64 k] w' (fun e w'' => ∃ a m c, e = .returned (.tuple #[.slice a m c, .int .i64 z]) ∧ m = (if P.dead then 0 else 64) ∧ Bys w'' a (if P.dead then [] else bytesOf (P.seen k)) ∧ Below w'.heap.size w' w'') ∧ Calls Tryz.prog 92 #[rv r, .int .i64 k] w' (fun e w'' => ∃ a m c, e = .returned (.tuple #[.slice a m c, .int .i64 z]) ∧ m = (if P.dead then 0 else 64) ∧ Bys w'' a (if P.dead then [] else bytesOf (P.seen k)) ∧ Below w'.heap.size w' w'')) := Lib.hid fun w' hb k hk => by
    have hB := h.below hb
    cases hd : P.dead
    · refine ⟨0, Calls.mono (read_ok w' q P hB.mix.pl k hk hd) ?_, Calls.mono (rf_read w' r P hB.mix.rf k hk hd) ?_⟩
      · rintro e w'' ⟨hb', g, rfl, _, h2⟩
        exact ⟨_, _, _, rfl, rfl, bys_sec h2, hb'⟩
      · rintro e w'' ⟨a, c, rfl, h2, hb'⟩
        exact ⟨_, _, _, rfl, rfl, h2, hb'⟩
    · have h0 : P.has k ≠ 0 := by unfold Pl.has; rw [hd]; simp
      refine ⟨P.has k, Calls.mono (read_no w' q P hB.mix.pl k h0) ?_, Calls.mono (rf_readNo w' r P hB.mix.rf k h0) ?_⟩
      · rintro e w'' ⟨rfl, rfl⟩
        exact ⟨_, 0, _, rfl, rfl, Bys.nil _ _, Below.refl _ _⟩
      · rintro e w'' ⟨rfl, rfl⟩
        exact ⟨_, 0, _, rfl, rfl, Bys.nil _ _, Below.refl _ _⟩
  have HSz : Hid (∀ w', Below w.heap.size w w' → Calls Tryz.prog 88 #[rv r] w' fun e w'' => e = .returned (.int .i64 P.n) ∧ w' = w'') := Lib.hid fun w' hb => rf_size w' r P (h.below hb).mix.rf
  have hn4 : P.n ≤ 4096 := h.mix.rf.ok.most
  obtain ⟨N, hN⟩ : ∃ N, N = P.n := ⟨_, rfl⟩
  obtain ⟨dd, hdd⟩ : ∃ dd, dd = P.dead := ⟨_, rfl⟩
  rw [← hN] at hn4 HSz HR1
  rw [← hdd] at HD1 HD2 HR1
  have hS : Below w.heap.size w w := Below.refl _ _
  clear h hdw HWs hl hn hN hdd
  go_enter Tryz.func63, Tryz.ntmps63
  go_upto_region 1 with (fail)
  go_cut [32] from 8 to 32 (fun v32 wx => v32 = .bool false ∧ Hid (Below w.heap.size w wx))
  case first =>
    cases dd
    all_goals
      go_region_held3 (fun w' => w'.cell? ⟨x, 0, none⟩ = some (pv q) ∧ w'.cell? ⟨x, 2, none⟩ = some (rv r))
        (first | with_reducible exact MK.out _ hS | with_reducible exact MK.out _ hS.drew)
        ((first
        | (go_at_call 27; ((with_reducible refine Calls.mono (HD1.out _ ?_) ?_); (first | with_reducible exact hS | with_reducible exact Below.drew hS | with_reducible exact Below.step hS (Below.new _ _) | with_reducible exact Below.step (Below.drew hS) (Below.new _ _) | with_reducible exact Below.drew (Below.step hS (Below.new _ _))); rintro e w' ⟨rfl, rfl⟩))
        | (go_at_call 79; ((with_reducible refine Calls.mono (HD2.out _ ?_) ?_); (first | with_reducible exact hS | with_reducible exact Below.drew hS | with_reducible exact Below.step hS (Below.new _ _) | with_reducible exact Below.step (Below.drew hS) (Below.new _ _) | with_reducible exact Below.drew (Below.step hS (Below.new _ _))); rintro e w' ⟨rfl, rfl⟩))
        | (go_at_call 90; ((with_reducible refine Calls.mono (HW1.out _ ?_) ?_); (first | with_reducible exact hS | with_reducible exact Below.drew hS | with_reducible exact Below.step hS (Below.new _ _) | with_reducible exact Below.step (Below.drew hS) (Below.new _ _) | with_reducible exact Below.drew (Below.step hS (Below.new _ _))); rintro e wa ⟨a1, c1, rfl, hI, hb⟩; have HI1 := Lib.hid hI; (first | (have HI2 := Lib.hid (HI2.out.below hb)) | (have HI2 := Lib.hid (HI2.out.below ((Below.refl _ _).drew.trans hb))) | skip); have hS : Below w.heap.size w wa := (by first | exact Below.step hS hb | exact Below.step hS.drew hb); clear hI hb))
        | (go_at_call 91; ((with_reducible refine Calls.mono (HW2.out _ ?_) ?_); (first | with_reducible exact hS | with_reducible exact Below.drew hS | with_reducible exact Below.step hS (Below.new _ _) | with_reducible exact Below.step (Below.drew hS) (Below.new _ _) | with_reducible exact Below.drew (Below.step hS (Below.new _ _))); rintro e wb ⟨a2, c2, rfl, hI, hb⟩; have HI2 := Lib.hid hI; (first | (have HI1 := Lib.hid (HI1.out.below hb)) | (have HI1 := Lib.hid (HI1.out.below ((Below.refl _ _).drew.trans hb))) | skip); have hS : Below w.heap.size w wb := (by first | exact Below.step hS hb | exact Below.step hS.drew hb); clear hI hb))
        | (go_at_call 89; go_loud ((with_reducible refine Calls.mono (eqN_is HLn.out (by first | exact HI1.out | exact HI1.out.below (Below.refl _ _).drew) (by first | exact HI2.out | exact HI2.out.below (Below.refl _ _).drew)) ?_); rintro e wd ⟨rfl, hb⟩; have hS : Below w.heap.size w wd := (by first | exact Below.step hS hb | exact Below.step hS.drew hb); clear hb))))
      all_goals
        go_wp2
        go_meet
        exact ⟨rfl, Lib.hid (by first | exact hS | exact hS.drew)⟩
  case rest =>
    obtain ⟨rfl, HB⟩ := hcut
    clear hS
    go_wp2_with fail
    go_loopw [3] (fun i wr => ∃ k : Nat, k ≤ N ∧ i = .int .i64 k ∧ Hid (Below w.heap.size w wr)) (fun i _ => N - (RowKit.intOf i).toNat)
    case atStart => exact ⟨0, Nat.zero_le _, rfl, HB⟩
    case round =>
      clear HB
      obtain ⟨k, hk, rfl, HB⟩ := hrel
      obtain ⟨t0, t2⟩ := MK.out _ HB.out
      by_cases hlt : k < N
      · obtain ⟨z, hc1, _⟩ := HR1.out wr HB.out k hlt
        have HC1 := Lib.hid hc1
        clear hc1
        go_wp2_with fail
        refine Calls.mono (HSz.out _ HB.out) ?_
        rintro e w' ⟨rfl, rfl⟩
        go_wp2_with fail
        refine Calls.mono HC1.out ?_
        rintro e w1 ⟨a1, m1, c1, rfl, hm1, hB1, hb1⟩
        have HB1 := Lib.hid (Below.step HB.out hb1)
        have HY1 := Lib.hid hB1
        have HM1 := Lib.hid hm1
        obtain ⟨t0, t2⟩ := MK.out _ HB1.out
        obtain ⟨z2, _, hc2⟩ := HR1.out w1 HB1.out k hlt
        have HC2 := Lib.hid hc2
        clear hc2 hb1 hB1 hm1
        go_wp2_with fail
        refine Calls.mono HC2.out ?_
        rintro e w2 ⟨a2, m2, c2, rfl, hm2, hB2, hb2⟩
        have HB2 := Lib.hid (Below.step HB1.out hb2)
        have HY2 := Lib.hid hB2
        have HY1 := Lib.hid (HY1.out.below hb2)
        have HM2 := Lib.hid hm2
        clear hb2 hB2 hm2
        go_wp2_with fail
        refine Calls.mono (eqBs_is (r := true) (by rw [HM1.out]; cases dd <;> simp [bytesOf_length]) (by rw [HM2.out]; cases dd <;> simp [bytesOf_length]) (decide_eq_true rfl) HY1.out HY2.out) ?_
        rintro e w3 ⟨rfl, hb3⟩
        have HB3 := Lib.hid (Below.step HB2.out hb3)
        clear hb3
        go_wp2
        go_roundw
        case rel => exact ⟨k + 1, by omega, by go_num, HB3⟩
        case measure => simp [RowKit.intOf]; omega
      · go_wp2_with fail
        refine Calls.mono (HSz.out _ HB.out) ?_
        rintro e w' ⟨rfl, rfl⟩
        go_wp2
        go_ret
        exact ⟨rfl, HB.out⟩
end
end Go.Proofs.YtdhidcoglioalaaGreat.Walks
namespace Go.Proofs.YtdhidcoglioalaaGreat.Walks
open Go.RowKit Plain Jn
set_option linter.unusedVariables false
theorem replay_turn (S : Nat → Sec) (log blocks : Nat) : ∀ (f a t u : Nat) (l : List (Nat × Blk)) (p : Nat → Option Blk) {y : Nat × Nat × Nat × (Nat → Option Blk)}, replay S log blocks f a t u l p = some y → y.2.1 ≤ t + f := by
  intro f
  induction f with
  | zero => intro a t u l p y h; unfold replay at h; cases h; exact Nat.le_refl _
  | succ f ih =>
    intro a t u l p y h
    unfold replay at h
    simp only at h
    split at h
    · cases h; simp only; omega
    · split at h
      · cases h
      · split at h
        · cases h; simp only; omega
        · split at h
          · have := ih _ _ _ _ _ h; omega
          · split at h
            · cases h
            · have := ih _ _ _ _ _ h; omega
/-- How great a journal's numbers are. -/
def JBd (J : Jn) (s : Nat) : Prop := J.head ≤ 2199023255552 + s ∧ J.turn ≤ 2199023255552 + s
theorem heads2_at {P : Pl} {a : Hd} (h : heads2 P = some a) : ∃ i, headAt P i = some a := by
  unfold heads2 at h
  split at h
  · rename_i x y h0 h1
    split at h
    · simp only [Option.some.injEq] at h
      split at h
      · subst h; exact ⟨_, h1⟩
      · subst h; exact ⟨_, h0⟩
    · cases h
  · cases h
theorem openJ_bound {P : Pl} {J : Jn} (hn : P.n ≤ 4096) (h : openJ P = some J) (s : Nat) : JBd J s := by
  unfold openJ at h
  split at h
  · cases h
  · rename_i a ha
    obtain ⟨i, hi⟩ := heads2_at ha
    have hb := headAt_bound hi
    split at h
    · cases h
    · rename_i x t u p hr
      cases h
      have := replay_turn _ _ _ _ _ _ _ _ _ hr
      have h1 := hb.turn
      have h2 := hb.next
      have h3 := hb.logn
      simp only at this
      exact ⟨by simp only; omega, by simp only; omega⟩
theorem commitJ_bound {P : Pl} {J : Jn} {s : Nat} (l : List (Int × List Byte)) (h : JBd J s) : JBd (commitJ P J l) (s + 1) := by
  obtain ⟨h1, h2⟩ := h
  unfold commitJ
  split
  · exact ⟨by omega, by omega⟩
  · unfold putJ
    split
    · split
      · exact ⟨by simp only [brk]; omega, by simp only [brk]; omega⟩
      · split
        · exact ⟨by simp only [brk, cleared]; omega, by simp only [brk, cleared]; omega⟩
        · exact ⟨by simp only [wrote, cleared]; omega, by simp only [wrote, cleared]; omega⟩
    · split
      · exact ⟨by simp only [brk]; omega, by simp only [brk]; omega⟩
      · exact ⟨by simp only [wrote]; omega, by simp only [wrote]; omega⟩
theorem clearJ_bound {P : Pl} {J : Jn} {s : Nat} (h : JBd J s) : JBd (clearJ P J) (s + 1) := by
  obtain ⟨h1, h2⟩ := h
  unfold clearJ
  split
  · exact ⟨by omega, by omega⟩
  · split
    · exact ⟨by simp only [brk]; omega, by simp only [brk]; omega⟩
    · exact ⟨by simp only [cleared]; omega, by simp only [cleared]; omega⟩
theorem readJ_bound {P : Pl} {J : Jn} {s : Nat} (i : Int) (h : JBd J s) : JBd (readJ P J i) s := by
  unfold readJ
  split
  · exact h
  · split
    · exact h
    · split
      · exact h
      · split
        · exact h
        · exact h
theorem JBd.up {J : Jn} {s : Nat} (h : JBd J s) : JBd J (s + 1) := ⟨by have := h.1; omega, by have := h.2; omega⟩
/-- A plate that is to fail at no doing, and is not dead. -/
def Sure (P : Pl) : Prop := P.fails = false ∧ P.dead = false
theorem sure_goes {P : Pl} (h : Sure P) : P.goes = false ∧ P.did = P := by
  constructor
  · unfold Pl.goes; rw [h.1]; rfl
  · unfold Pl.did; rw [if_neg (by rw [h.1]; simp)]
theorem sure_flush {P : Pl} (h : Sure P) : Sure P.flush := by
  obtain ⟨hg, hd⟩ := sure_goes h
  unfold Pl.flush
  rw [if_neg (by rw [h.2]; simp), hg, hd]
  exact ⟨h.1, h.2⟩
theorem sure_flushE {P : Pl} (h : Sure P) : P.flushE = 0 := by
  obtain ⟨hg, hd⟩ := sure_goes h
  unfold Pl.flushE
  rw [if_neg (by rw [h.2]; simp), hg]
  rfl
theorem sure_write {P : Pl} (h : Sure P) (i : Int) (b : List Byte) : Sure (P.write i b) := by
  obtain ⟨hg, hd⟩ := sure_goes h
  unfold Pl.write
  split
  · exact h
  · split
    · exact h
    · rw [hg, hd]
      exact ⟨h.1, h.2⟩
theorem sure_act {P : Pl} (h : Sure P) (x : Wk) : Sure (x.act P) := by
  cases x with
  | wr i s => exact sure_write h _ _
  | fl => exact sure_flush h
theorem sure_run (l : List Wk) : ∀ {P : Pl}, Sure P → Sure (runP l P) := by
  induction l with
  | nil => intro P h; exact h
  | cons x l ih =>
    intro P h
    unfold runP
    split
    · exact sure_act h x
    · exact ih (sure_act h x)
/-- As a plate is behind the power is back. -/
def upP (P : Pl) : Pl := if P.dead then P.boot else P
theorem up_sure {P : Pl} (h : P.fails = false) : Sure (upP P) := by
  unfold upP
  split
  · exact ⟨rfl, rfl⟩
  · rename_i hd; exact ⟨h, by simpa using hd⟩
theorem up_n (P : Pl) : (upP P).n = P.n := by unfold upP; split <;> rfl
theorem dw_up {P : Pl} (h : DW P) : DW (upP P) := by
  unfold upP
  split
  · exact dw_boot P
  · exact h
theorem flush_n (P : Pl) : P.flush.n = P.n := by
  unfold Pl.flush
  split
  · rfl
  · split
    · unfold Pl.did; split
      · split <;> rfl
      · rfl
    · unfold Pl.did; split
      · split <;> rfl
      · rfl
section
variable {sp : Sp} {w0 w w' : World} {x m : Nat} {q : PLoc} {r : RLoc} {j : JLoc} {o : Option (JLoc × Nat)} {J J' J2 : Jn} {P P' P2 : Pl}
/-- What is so of both, between two calls. -/
def All (sp : Sp) (w0 w : World) (x : Nat) (s : Nat) (S : Prop) (n : Nat) : Prop :=
  ∃ q r o J P, BT sp w0 w x q r o J J P P ∧ DW P ∧ (S → Sure P) ∧ P.n = n ∧ (o ≠ none → JBd J s)
theorem BN.of (h : BT sp w0 w x q r o J J' P P') : BN sp w0 w x q r P P' := h.bn
theorem up_live (P : Pl) : (upP P).dead = false := by
  unfold upP
  split
  · rfl
  · rename_i hd; simpa using hd
set_option maxRecDepth 10000 in
set_option maxHeartbeats 4000000 in
theorem open_is (h : BN sp w0 w x q r P P) (hdw : DW P) (s : Nat) (S : Prop) (hS : S → P.fails = false) : Calls Tryz.prog 83 #[xv x] w fun e w' => e = .returned (.bool true) ∧ All sp w0 w' x s S P.n := by
  obtain ⟨n, hn⟩ : ∃ n, n = P.n := ⟨_, rfl⟩
  have hn4 : P.n ≤ 4096 := h.mix.rf.ok.most
  obtain ⟨Q, hQ⟩ : ∃ Q, Q = upP P := ⟨_, rfl⟩
  have HQn : Hid (Q.n = n ∧ n ≤ 4096) := Lib.hid ⟨by rw [hQ, up_n, hn], by rw [hn]; exact hn4⟩
  have HQd : Hid (DW Q.flush ∧ (S → Sure Q.flush)) := Lib.hid ⟨by rw [hQ]; exact dw_flush (dw_up hdw), fun k => by rw [hQ]; exact sure_flush (up_sure (hS k))⟩
  have H := Lib.hid h
  have s0 := h.c0
  have s2 := h.c2
  have HD := rf_dead w r P h.mix.rf
  obtain ⟨dd, hdd⟩ : ∃ dd, dd = P.dead := ⟨_, rfl⟩
  rw [← hdd] at HD
  have HDh := Lib.hid HD
  have HQ := Lib.hid hQ
  have HDD := Lib.hid hdd
  rw [← hn]
  clear h hdw hS hn hn4 hQ hdd HD
  go_enter Tryz.func83, Tryz.ntmps83
  go_wp2_with fail
  refine Calls.mono HDh.out ?_
  rintro e w' ⟨rfl, rfl⟩
  cases dd
  case' true =>
    have HBo := Lib.hid (boot_any w q P H.out.mix.pl)
    go_wp2_with fail
    refine Calls.mono HBo.out ?_
    rintro e w1 ⟨rfl, hp1, ho1⟩
    have hb1 := H.out.first hp1 ho1
    have s0 := hb1.c0
    have s2 := hb1.c2
    have HB1 := Lib.hid hb1
    have HBr := Lib.hid (rf_boot w1 r P hb1.mix.rf)
    clear hb1 hp1 ho1
    go_wp2_with fail
    refine Calls.mono HBr.out ?_
    rintro e w2 ⟨rfl, hp2, ho2⟩
    have hb2 := HB1.out.second hp2 ho2
    have e : Q = P.boot := by rw [HQ.out]; unfold upP; rw [← HDD.out]; simp
    rw [← e] at hb2
    have s0 := hb2.c0
    have s2 := hb2.c2
    have HB := Lib.hid hb2
    clear hb2 hp2 ho2 HB1 HBr HBo e
  case' false =>
    have hb2 := H.out
    have e : Q = P := by rw [HQ.out]; unfold upP; rw [← HDD.out]; simp
    obtain ⟨w2, hw2⟩ : ∃ w2, w2 = w := ⟨_, rfl⟩
    subst hw2
    rw [← e] at hb2
    have HB := Lib.hid hb2
    clear hb2 e
  all_goals
    have HO1 := Lib.hid (open_any w2 q Q HB.out.mix.pl)
    go_wp2_with fail
    refine Calls.mono HO1.out ?_
    rintro e w3 hE
    unfold OpenR at hE
    by_cases hz : openE Q = 0
    · rw [if_neg (by rw [hz]; simp)] at hE
      obtain ⟨j, J, hJ, rfl, hj, g1, g2, ho⟩ := hE
      have hm := HB.out.made hj g1 g2 ho
      have s0 := hm.bn.c0
      have s2 := hm.bn.c2
      have HM := Lib.hid hm
      have HO2 := Lib.hid (rj_open hm.bn.mix.rf)
      have HJ := Lib.hid hJ
      have HZ := Lib.hid hz
      clear hm hj g1 g2 ho hJ hz HO1
      go_wp2_with fail
      refine Calls.mono HO2.out ?_
      rintro e w4 hE
      obtain ⟨m, rfl, hr, g3⟩ := hE.ok J HZ.out HJ.out
      obtain ⟨hn', hj'⟩ := HM.out.made hr g3 hE.only
      have HN := Lib.hid hn'
      have HJJ := Lib.hid hj'
      obtain ⟨u1, c1⟩ := hn'.c1
      obtain ⟨u3, c3⟩ := hn'.c3
      have HT := Lib.hid (took_is w4 x (some (j, m)) 0 rfl c1 c3 hn'.fz)
      clear hE hr g3 hn' hj' c1 c3 HO2 s0 s2
      go_wp2_with fail
      refine Calls.mono HT.out ?_
      rintro e w5 ⟨rfl, rfl⟩
      go_wp2
      go_ret
      refine ⟨rfl, _, _, some (j, m), J, Q.flush, HN.out.took (some (j, m)) rfl rfl (fun j' m' e => by cases e; exact HJJ.out), HQd.out.1, HQd.out.2, by rw [flush_n]; exact HQn.out.1, fun _ => openJ_bound (by rw [flush_n, HQn.out.1]; exact HQn.out.2) HJ.out s⟩
    · rw [if_pos hz] at hE
      obtain ⟨rfl, hp, ho⟩ := hE
      have hm := HB.out.first hp ho
      have s0 := hm.c0
      have s2 := hm.c2
      have HM := Lib.hid hm
      have HO2 := Lib.hid (rj_open hm.mix.rf)
      have HZ := Lib.hid hz
      obtain ⟨z, hze⟩ : ∃ z, z = openE Q := ⟨_, rfl⟩
      have HZe := Lib.hid hze
      rw [← hze]
      clear hm hp ho hz hze HO1
      go_wp2_with fail
      refine Calls.mono HO2.out ?_
      rintro e w4 hE
      obtain ⟨rfl, hr⟩ := hE.no HZ.out
      have hn' := HM.out.second hr hE.only
      have HN := Lib.hid hn'
      obtain ⟨u1, c1⟩ := hn'.c1
      obtain ⟨u3, c3⟩ := hn'.c3
      rw [← HZe.out]
      have HT := Lib.hid (took_is w4 x none z (by have := HZ.out; rw [← HZe.out] at this; simp [this]) c1 c3 hn'.fz)
      clear hE hr hn' c1 c3 HO2 s0 s2
      go_wp2_with fail
      refine Calls.mono HT.out ?_
      rintro e w5 ⟨rfl, rfl⟩
      go_wp2
      go_ret
      refine ⟨rfl, _, _, none, formatJ 2, Q.flush, HN.out.took none rfl rfl (fun j' m' e => by cases e), HQd.out.1, HQd.out.2, by rw [flush_n]; exact HQn.out.1, fun e => absurd rfl e⟩
end
end Go.Proofs.YtdhidcoglioalaaGreat.Walks
namespace Go.Proofs.YtdhidcoglioalaaGreat.Walks
open Go.RowKit Plain Jn
set_option linter.unusedVariables false
theorem sure_err {P : Pl} (h : Sure P) {i : Nat} (hi : i < P.n) (s : Sec) : (Wk.wr i s).err P = 0 := by
  obtain ⟨hg, _⟩ := sure_goes h
  show P.writeE i (bytesOf s) = 0
  have h0 : P.has i = 0 := by
    unfold Pl.has
    rw [if_neg (by rw [h.2]; simp), if_neg (by omega)]
  unfold Pl.writeE
  rw [if_neg (by rw [h0]; simp), if_neg (by rw [bytesOf_length]; simp), hg]
  rfl
def InW (n : Nat) : Wk → Prop
  | .wr i _ => i < n
  | .fl => True
theorem sure_runE (l : List Wk) : ∀ {P : Pl}, Sure P → (∀ x ∈ l, InW P.n x) → runE l P = 0 := by
  induction l with
  | nil => intro P _ _; rfl
  | cons x l ih =>
    intro P h hl
    have hx : x.err P = 0 := by
      cases x with
      | wr i s => exact sure_err h (hl (.wr i s) (by simp)) s
      | fl => exact sure_flushE h
    unfold runE
    rw [if_neg (by rw [hx]; simp)]
    exact ih (sure_act h x) (fun y hy => by rw [act_n]; exact hl y (by simp [hy]))
theorem sure_format {P : Pl} (h : Sure P) (A : Int) : Sure (formatP P A) ∧ (formatE P A = 0 ∨ (formatE P A = 9 ∧ (A < 2 ∨ (P.n : Int) < A + 3) ∧ formatP P A = P)) ∧ (formatP P A).n = P.n := by
  unfold formatP formatE
  simp only [h.2, Bool.false_eq_true, if_false]
  by_cases hr : A < 2 ∨ (P.n : Int) < A + 3
  · rw [if_pos hr, if_pos hr]
    exact ⟨h, .inr ⟨rfl, hr, rfl⟩, rfl⟩
  · rw [if_neg hr, if_neg hr]
    have e1 : runE (zerosW P.n) P = 0 := sure_runE _ h (fun x hx => by
      unfold zerosW at hx
      obtain ⟨i, hi, rfl⟩ := List.mem_map.1 hx
      have := List.mem_range.1 hi
      show 2 + i < P.n
      omega)
    have s1 := sure_run (zerosW P.n) h
    have e2 : runE (formatW P.n A.toNat) (runP (zerosW P.n) P) = 0 := sure_runE _ s1 (fun x hx => by
      rw [runP_n]
      unfold formatW at hx
      simp only [List.mem_cons, List.not_mem_nil, or_false] at hx
      rcases hx with rfl | rfl | rfl | rfl
      · trivial
      · show 0 < P.n; omega
      · show 1 < P.n; omega
      · trivial)
    rw [e1, e2]
    simp only [ne_eq, not_true_eq_false, if_false]
    exact ⟨sure_run _ s1, .inl trivial, by rw [runP_n, runP_n]⟩
section
variable {sp : Sp} {w0 w w' : World} {x m : Nat} {q : PLoc} {r : RLoc} {j : JLoc} {o : Option (JLoc × Nat)} {J J' J2 : Jn} {P P' P2 : Pl}
set_option maxRecDepth 10000 in
theorem format_err (h : PlateAt w q P) (hd : P.dead = false) (A : Int) (hA : -9223372036854775808 ≤ A ∧ A ≤ 9223372036854775807) (hr : A < 2 ∨ (P.n : Int) < A + 3) :
    Calls Tryz.prog 9 #[pv q, .int .i64 A] w fun e w' => e = .returned (.tuple #[.pointer none, .int .i64 9]) ∧ PlateAt w' q P ∧ Only q.R w w' := by
  obtain ⟨w2, hw2⟩ : ∃ x, x = (w.alloc (.cells #[pv q] 30)).alloc (.cells #[.int .i64 A] 3) := ⟨_, rfl⟩
  have hb2 : Below w.heap.size w w2 := by rw [hw2]; exact Below.step (Below.new _ _) (Below.new _ _)
  have hB1 : w2.heap[w.heap.size]? = some (.cells #[pv q] 30 (0, 0)) := by rw [hw2]; exact (heap_alloc_lt (by simp)).trans (heap_alloc_new _ _)
  have hB2 : w2.heap[w.heap.size + 1]? = some (.cells #[.int .i64 A] 3 (0, 0)) := by
    rw [hw2]
    have := heap_alloc_new (w.alloc (.cells #[pv q] 30)) (.cells #[.int .i64 A] 3)
    rw [World.size_alloc] at this
    exact this
  have hp2 := h.below hb2
  have c1 : w2.cell? ⟨w.heap.size, 0, none⟩ = some (pv q) := one_of hB1
  have c2 : w2.cell? ⟨w.heap.size + 1, 0, none⟩ = some (.int .i64 A) := one_of hB2
  have HP2 := Lib.hid hp2
  have HBe := Lib.hid hb2
  have HDd := Lib.hid (dead_any w2 q P hp2)
  rw [hd] at HDd
  have HSz := Lib.hid (size_any w2 q P hp2)
  have hn1 : P.n ≠ 0 := by have := h.ok.pos; omega
  have HLm := Lib.hid (logMay_any hp2 A hA)
  rw [decide_eq_false (show ¬ (2 ≤ A ∧ A + 3 ≤ (P.n : Int)) by omega)] at HLm
  obtain ⟨n, hn⟩ : ∃ n, n = P.n := ⟨_, rfl⟩
  rw [← hn] at HSz hn1
  clear h hd hr hb2 hB1 hB2 hp2 hn
  go_enter Tryz.func9, Tryz.ntmps9
  go_upto_region 1 with (fail)
  rw [← hw2]
  clear hw2
  go_wp2_with fail
  refine Calls.mono HDd.out ?_
  rintro e w' ⟨rfl, rfl⟩
  go_wp2_with fail
  refine Calls.mono HSz.out ?_
  rintro e w' ⟨rfl, rfl⟩
  go_wp2_with fail
  refine Calls.mono HLm.out ?_
  rintro e w' ⟨rfl, rfl⟩
  go_wp2
  refine bodyPost_ret (results_tmp2 rfl _ _ _) rfl ?_
  exact ⟨rfl, HP2.out, Only.of_below HBe.out⟩
structure FormA (w w' : World) (q : PLoc) (P : Pl) (A : Int) (e : Ending) : Prop where
  ok : formatE P A = 0 → ∃ j, e = .returned (.tuple #[jv j, .int .i64 0]) ∧ JP w' j (q.banX [j.p, j.m]) (formatJ A.toNat) (formatP P A) ∧ w.heap.size ≤ j.p ∧ w.heap.size ≤ j.m
  no : formatE P A ≠ 0 → e = .returned (.tuple #[.pointer none, .int .i64 (formatE P A)]) ∧ PlateAt w' q (formatP P A)
  only : Only q.R w w'
theorem format_is (h : PlateAt w q P) (hs : Sure P) (A : Int) (hA : -9223372036854775808 ≤ A ∧ A ≤ 9223372036854775807) : Calls Tryz.prog 9 #[pv q, .int .i64 A] w fun e w' => FormA w w' q P A e := by
  obtain ⟨_, h1 | ⟨h1, h2, h3⟩, _⟩ := sure_format hs A
  · have hA0 : 0 ≤ A := by
      by_cases h0 : 0 ≤ A
      · exact h0
      · unfold formatE at h1
        rw [if_neg (by rw [hs.2]; simp), if_pos (by omega)] at h1
        cases h1
    obtain ⟨k, rfl⟩ : ∃ k : Nat, A = k := ⟨A.toNat, by omega⟩
    refine Calls.mono (format_ok h k h1) ?_
    rintro e w' ⟨j, rfl, hj, g1, g2, ho⟩
    exact ⟨fun _ => ⟨j, rfl, hj, g1, g2⟩, fun hn => absurd h1 hn, ho⟩
  · refine Calls.mono (format_err h hs.2 A hA h2) ?_
    rintro e w' ⟨rfl, hp, ho⟩
    exact ⟨(fun h0 => by rw [h1] at h0; cases h0), fun _ => ⟨by rw [h1], by rw [h3]; exact hp⟩, ho⟩
end
end Go.Proofs.YtdhidcoglioalaaGreat.Walks
