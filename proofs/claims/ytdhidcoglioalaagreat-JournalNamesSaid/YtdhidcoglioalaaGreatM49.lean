/-
  A call of both, and the same sectors.
  The walk of JournalPlays.
-/
import Derived.Test.YtdhidcoglioalaaGreatM46
import Derived.Test.YtdhidcoglioalaaGreatM47
import Derived.Test.YtdhidcoglioalaaGreatM48
namespace Go.Proofs.YtdhidcoglioalaaGreat.Walks
open Go.RowKit Plain Jn
set_option linter.unusedVariables false
section
variable {sp : Sp} {w0 w w' : World} {x m g gr n n1 off len : Nat} {a : Option Addr} {q : PLoc} {r : RLoc} {j : JLoc} {J J' J2 : Jn} {P P' P2 : Pl}
theorem n_may (w : World) : Calls Tryz.prog 14 #[.pointer none] w fun e w' => e = .returned (.int .i64 1) ∧ w = w' := by
  go_enter Tryz.func14, Tryz.ntmps14
  go_wp2
  go_ret
  exact ⟨rfl, rfl⟩
theorem n_clear (w : World) : Calls Tryz.prog 8 #[.pointer none] w fun e w' => e = .returned (.int .i64 1) ∧ w = w' := by
  have HM := Lib.hid (n_may w)
  go_enter Tryz.func8, Tryz.ntmps8
  go_wp2_with fail
  refine Calls.mono HM.out ?_
  rintro e w' ⟨rfl, rfl⟩
  go_wp2
  go_ret
  exact ⟨rfl, rfl⟩
/-- What a call of both is handed. -/
structure Arg (w0 w : World) (q : PLoc) (j : JLoc) (S : Prop) (kd A : Int) (la : Option Addr) (l : List (Int × List Byte)) (ka : Option Addr) (kc : Nat) (K : List Bool) (ba : Option Addr) (bc : Nat) (B : List Byte) : Prop where
  old : Old w0 ka kc K ba bc B
  a : -9223372036854775808 ≤ A ∧ A ≤ 9223372036854775807
  h4 : S → kd % 9 ≠ 4
  h8 : kd % 9 = 8 → S
  l : PutsC w (j.R q) la l
/-- The latter half of a step: what both tell, and their sectors. -/
def Tells (w0 : World) (x s n : Nat) (S : Prop) : Prop := ∀ w, All sp w0 w x s S n → ∃ q r o J P, BT sp w0 w x q r o J J P P ∧ DW P ∧ (S → Sure P) ∧ P.n = n ∧ (o ≠ none → JBd J s)
theorem calls_is (h : BT sp w0 w x q r (some (j, m)) J J P P) (hdw : DW P) (s : Nat) (S : Prop) (hS : S → Sure P) (hJ : JBd J s) (hs : s ≤ 1000000) {kd A bit : Int} {la ka ba : Option Addr} {ln lc kc bc kl bl : Nat} (h3 : kd % 9 < 3) {l : List (Int × List Byte)} (hln : l.length = ln) (hL : PutsC w (j.R q) la l) :
    Calls Tryz.prog 60 #[xv x, .agg #[.int .i64 kd, .int .i64 A, .int .i64 bit, .slice la ln lc, .slice ka kl kc, .slice ba bl bc]] w fun e w' => e = .returned (.bool true) ∧ All sp w0 w' x (s + 1) S P.n := by
  rcases (by omega : kd % 9 = 0 ∨ kd % 9 = 1 ∨ kd % 9 = 2) with h0 | h0 | h0
  · exact calls_commit h hdw s S hS hJ hs h0 hln hL
  · exact calls_read h hdw s S hS hJ h0
  · exact calls_clear h hdw s S hS hJ hs h0
theorem tb_blocks (h : BT sp w0 w x q r (some (j, m)) J J P P) : Calls Tryz.prog 5 #[jv j] w fun e w' => e = .returned (.int .i64 (J.blocks P.n)) ∧ ∃ n, w' = w.drewN n := jblocks_any (h.jn j m rfl).jp
theorem tb_blocks2 (h : BT sp w0 w x q r (some (j, m)) J J P P) : Calls Tryz.prog 61 #[mv m] w fun e w' => e = .returned (.int .i64 (J.blocks P.n)) ∧ ∃ n, w' = w.drewN n := rj_blocks (h.jn j m rfl).rj
theorem tb_free (h : BT sp w0 w x q r (some (j, m)) J J P P) : Calls Tryz.prog 6 #[jv j] w fun e w' => e = .returned (.int .i64 (J.free)) ∧ ∃ n, w' = w.drewN n := jfree_any (h.jn j m rfl).jp
theorem tb_free2 (h : BT sp w0 w x q r (some (j, m)) J J P P) : Calls Tryz.prog 62 #[mv m] w fun e w' => e = .returned (.int .i64 (J.free)) ∧ ∃ n, w' = w.drewN n := rj_free (h.jn j m rfl).rj
theorem All.up {s n : Nat} {S : Prop} (h : All sp w0 w x s S n) : All sp w0 w x (s + 1) S n := by
  obtain ⟨q, r, o, J, P, h1, h2, h3, h4, h5⟩ := h
  exact ⟨q, r, o, J, P, h1, h2, h3, h4, fun e => (h5 e).up⟩
theorem All.below {s n : Nat} {S : Prop} (h : All sp w0 w x s S n) (hb : Below w.heap.size w w') : All sp w0 w' x s S n := by
  obtain ⟨q, r, o, J, P, h1, h2⟩ := h
  exact ⟨q, r, o, J, P, h1.below hb, h2⟩
set_option maxRecDepth 20000 in
set_option maxHeartbeats 8000000 in
theorem step_is {o : Option (JLoc × Nat)} (h : BT sp w0 w x q r o J J P P) (hdw : DW P) (s : Nat) (S : Prop) (hS : S → Sure P) (hJ : o ≠ none → JBd J s) (hs : s ≤ 1000000) {kd A bit : Int} {la ka ba : Option Addr} {ln lc kc bc kl bl : Nat} {K : List Bool} {B : List Byte} (hO : Old w0 ka kc K ba bc B) (hA : -9223372036854775808 ≤ A ∧ A ≤ 9223372036854775807)
    (h4 : S → kd % 9 ≠ 4) (h8 : kd % 9 = 8 → S) (hkl : K.length = kl) (hbl : B.length = bl) {l : List (Int × List Byte)} (hln : l.length = ln) (hL : ∀ j m, o = some (j, m) → PutsC w (j.R q) la l) :
    Calls Tryz.prog 39 #[xv x, .agg #[.int .i64 kd, .int .i64 A, .int .i64 bit, .slice la ln lc, .slice ka kl kc, .slice ba bl bc]] w fun e w' => e = .returned (.bool true) ∧ All sp w0 w' x (s + 1) S P.n := by
  obtain ⟨n, hn⟩ : ∃ n, n = P.n := ⟨_, rfl⟩
  rw [← hn]
  have HBr := Lib.hid (bring_any kd 9)
  obtain ⟨kk, hkk⟩ : ∃ kk : Nat, kd % 9 = kk := ⟨(kd % 9).toNat, by omega⟩
  obtain ⟨wa, hwa⟩ : ∃ x, x = w.alloc (.cells #[.int .i64 kd, .int .i64 A, .int .i64 bit, .slice la ln lc, .slice ka kl kc, .slice ba bl bc] 43) := ⟨_, rfl⟩
  have hba : Below w.heap.size w wa := by rw [hwa]; exact Below.new _ _
  have hcell : ∀ i, wa.cell? ⟨w.heap.size, i, none⟩ = (#[Value.int .i64 kd, .int .i64 A, .int .i64 bit, .slice la ln lc, .slice ka kl kc, .slice ba bl bc] : Array Value)[i]? := fun i => by rw [hwa]; exact cell_new _ _ _ _
  have t0 : wa.cell? ⟨w.heap.size, 0, none⟩ = some (.int .i64 kd) := hcell 0
  have t1 : wa.cell? ⟨w.heap.size, 1, none⟩ = some (.int .i64 A) := hcell 1
  have t2 : wa.cell? ⟨w.heap.size, 2, none⟩ = some (.int .i64 bit) := hcell 2
  have t3 : wa.cell? ⟨w.heap.size, 3, none⟩ = some (.slice la ln lc) := hcell 3
  have t4 : wa.cell? ⟨w.heap.size, 4, none⟩ = some (.slice ka kl kc) := hcell 4
  have t5 : wa.cell? ⟨w.heap.size, 5, none⟩ = some (.slice ba bl bc) := hcell 5
  have hB := h.below hba
  have s3 := hB.c3
  have s1 := hB.c1
  have HB := Lib.hid hB
  have HOut : Hid (3 ≤ kd % 9 → Calls Tryz.prog 59 #[xv x, .agg #[.int .i64 kd, .int .i64 A, .int .i64 bit, .slice la ln lc, .slice ka kl kc, .slice ba bl bc]] wa fun e w' => e = .returned (.bool true) ∧ All sp w0 w' x (s + 1) S n) := Lib.hid fun h3 => by
    have := outside_is (bit := bit) (la := la) (ln := ln) (lc := lc) hB hdw s S hS hJ hO hA h4 h8 h3 hkl hbl
    rw [← hn] at this
    exact Calls.mono this (fun e w' ⟨h1, h2⟩ => ⟨h1, h2.up⟩)
  have HCa : Hid (∀ j m, o = some (j, m) → kd % 9 < 3 → Calls Tryz.prog 60 #[xv x, .agg #[.int .i64 kd, .int .i64 A, .int .i64 bit, .slice la ln lc, .slice ka kl kc, .slice ba bl bc]] wa fun e w' => e = .returned (.bool true) ∧ All sp w0 w' x (s + 1) S n) := Lib.hid fun j m e h3 => by
    subst e
    have := calls_is (A := A) (bit := bit) (ka := ka) (kc := kc) (kl := kl) (ba := ba) (bc := bc) (bl := bl) (lc := lc) hB hdw s S hS (hJ (by simp)) hs h3 hln ((hL j m rfl).below hba)
    rw [← hn] at this
    exact this
  have HNo : Hid (o = none → All sp w0 wa x (s + 1) S n) := Lib.hid fun e => ⟨q, r, o, J, P, hB, hdw, hS, hn.symm, fun h => absurd e h⟩
  have HK := Lib.hid hkk
  have hk9 : kk < 9 := by omega
  have HBl : Hid (∀ w1 s, All sp w0 w1 x s S n → Calls Tryz.prog 63 #[xv x] w1 fun e w' => e = .returned (.bool true) ∧ All sp w0 w' x s S n) := Lib.hid fun w1 s h => by
    obtain ⟨q, r, o, J, P, h1, h2, h3⟩ := h
    refine Calls.mono (sectors_is h1.bn h2) ?_
    rintro e w' ⟨rfl, hb⟩
    exact ⟨rfl, q, r, o, J, P, h1.below hb, h2, h3⟩
  obtain ⟨g, hg⟩ : ∃ g, g = w.heap.size := ⟨_, rfl⟩
  clear h hdw hS hJ hs hO hA h4 h8 hkl hbl hln hL hn hcell hba hkk hB
  go_enter Tryz.func39, Tryz.ntmps39
  go_upto_region 1 with (fail)
  rw [← hwa]
  rw [← hg] at t0 t1 t2 t3 t4 t5
  rw [← hg]
  clear hwa hg
  go_wp2_with fail
  refine Calls.mono (HBr.out wa (by decide) (by decide)) ?_
  rintro e wx ⟨rfl, rfl⟩
  rw [HK.out]
  clear HBr
  by_cases h3 : 3 ≤ kk
  · have h3' : (3 : Int) ≤ (kk : Int) := by omega
    have h3n : ¬ (kk : Int) < 3 := by omega
    go_wp2_with fail
    refine Calls.mono (HOut.out (by rw [HK.out]; exact h3')) ?_
    rintro e w1 ⟨rfl, hal⟩
    have HAl := Lib.hid hal
    clear hal t0 t1 t2 t3 t4 t5 s1 s3 HOut HCa HNo HB
    obtain ⟨q2, r2, o2, J2, P2, hb2, _⟩ := HAl.out
    have s3 := hb2.c3
    have s1 := hb2.c1
    have HSe : Hid (∀ k, Calls Tryz.prog 63 #[xv x] (w1.drewN k) fun e w' => e = .returned (.bool true) ∧ All sp w0 w' x (s + 1) S n) := Lib.hid fun k => HBl.out _ _ (HAl.out.below (below_drewN (Below.refl _ _) k))
    clear HBl HAl
    cases o2 with
    | none =>
      unfold jcell at s1
      unfold mcell at s3
      simp only [Option.map_none] at s1 s3
      clear hb2
      go_upto_region 8 with (fail)
      go_quiet (fail)
      go_wp2_with fail
      refine Calls.mono (HSe.out _) ?_
      rintro e w2 ⟨rfl, hal⟩
      have HAl := Lib.hid hal
      clear hal
      go_wp2
      go_ret
      exact ⟨rfl, HAl.out⟩
    | some t =>
      obtain ⟨j2, m2⟩ := t
      unfold jcell at s1
      unfold mcell at s3
      simp only [Option.map_some] at s1 s3
      obtain ⟨bz, hbz⟩ : ∃ bz, bz = J2.blocks P2.n := ⟨_, rfl⟩
      obtain ⟨fz, hfz⟩ : ∃ fz, fz = J2.free := ⟨_, rfl⟩
      have HC5 : Hid (∀ k, Calls Tryz.prog 5 #[jv j2] (w1.drewN k) fun e w' => e = .returned (.int .i64 (bz : Int)) ∧ ∃ n, w' = w1.drewN n) := Lib.hid fun k => by
        refine Calls.mono (tb_blocks (hb2.drewN k)) ?_
        rintro e w' ⟨rfl, n2, rfl⟩
        exact ⟨by rw [hbz], k + n2, by simp [World.drewN_drewN]⟩
      have HC61 : Hid (∀ k, Calls Tryz.prog 61 #[mv m2] (w1.drewN k) fun e w' => e = .returned (.int .i64 (bz : Int)) ∧ ∃ n, w' = w1.drewN n) := Lib.hid fun k => by
        refine Calls.mono (tb_blocks2 (hb2.drewN k)) ?_
        rintro e w' ⟨rfl, n2, rfl⟩
        exact ⟨by rw [hbz], k + n2, by simp [World.drewN_drewN]⟩
      have HC6 : Hid (∀ k, Calls Tryz.prog 6 #[jv j2] (w1.drewN k) fun e w' => e = .returned (.int .i64 (fz : Int)) ∧ ∃ n, w' = w1.drewN n) := Lib.hid fun k => by
        refine Calls.mono (tb_free (hb2.drewN k)) ?_
        rintro e w' ⟨rfl, n2, rfl⟩
        exact ⟨by rw [hfz], k + n2, by simp [World.drewN_drewN]⟩
      have HC62 : Hid (∀ k, Calls Tryz.prog 62 #[mv m2] (w1.drewN k) fun e w' => e = .returned (.int .i64 (fz : Int)) ∧ ∃ n, w' = w1.drewN n) := Lib.hid fun k => by
        refine Calls.mono (tb_free2 (hb2.drewN k)) ?_
        rintro e w' ⟨rfl, n2, rfl⟩
        exact ⟨by rw [hfz], k + n2, by simp [World.drewN_drewN]⟩
      clear hb2 hbz hfz
      go_upto_region 8 with (fail)
      go_quiet ((first | (go_at_call 5; exact HC5.out _) | (go_at_call 61; exact HC61.out _) | (go_at_call 6; exact HC6.out _) | (go_at_call 62; exact HC62.out _)))
      go_wp2_with fail
      refine Calls.mono (HSe.out _) ?_
      rintro e w2 ⟨rfl, hal⟩
      have HAl := Lib.hid hal
      clear hal
      go_wp2
      go_ret
      exact ⟨rfl, HAl.out⟩
  · have h3' : ¬ (3 : Int) ≤ (kk : Int) := by omega
    have h3n : (kk : Int) < 3 := by omega
    cases o with
    | none =>
      unfold jcell at s1
      unfold mcell at s3
      simp only [Option.map_none] at s1 s3
      go_wp2_with fail
      refine Calls.mono (n_clear _) ?_
      rintro e w1 ⟨rfl, rfl⟩
      go_wp2
      go_ret
      first | exact ⟨rfl, HNo.out rfl⟩ | exact ⟨rfl, HNo.out trivial⟩
    | some t =>
      obtain ⟨j, m⟩ := t
      unfold jcell at s1
      unfold mcell at s3
      simp only [Option.map_some] at s1 s3
      go_wp2_with fail
      refine Calls.mono (HCa.out j m rfl (by rw [HK.out]; exact h3n)) ?_
      rintro e w1 ⟨rfl, hal⟩
      have HAl := Lib.hid hal
      clear hal t0 t1 t2 t3 t4 t5 s1 s3 HOut HCa HNo HB
      obtain ⟨q2, r2, o2, J2, P2, hb2, _⟩ := HAl.out
      have s3 := hb2.c3
      have s1 := hb2.c1
      have HSe : Hid (∀ k, Calls Tryz.prog 63 #[xv x] (w1.drewN k) fun e w' => e = .returned (.bool true) ∧ All sp w0 w' x (s + 1) S n) := Lib.hid fun k => HBl.out _ _ (HAl.out.below (below_drewN (Below.refl _ _) k))
      clear HBl HAl
      cases o2 with
      | none =>
        unfold jcell at s1
        unfold mcell at s3
        simp only [Option.map_none] at s1 s3
        clear hb2
        go_upto_region 8 with (fail)
        go_quiet (fail)
        go_wp2_with fail
        refine Calls.mono (HSe.out _) ?_
        rintro e w2 ⟨rfl, hal⟩
        have HAl := Lib.hid hal
        clear hal
        go_wp2
        go_ret
        exact ⟨rfl, HAl.out⟩
      | some t =>
        obtain ⟨j2, m2⟩ := t
        unfold jcell at s1
        unfold mcell at s3
        simp only [Option.map_some] at s1 s3
        obtain ⟨bz, hbz⟩ : ∃ bz, bz = J2.blocks P2.n := ⟨_, rfl⟩
        obtain ⟨fz, hfz⟩ : ∃ fz, fz = J2.free := ⟨_, rfl⟩
        have HC5 : Hid (∀ k, Calls Tryz.prog 5 #[jv j2] (w1.drewN k) fun e w' => e = .returned (.int .i64 (bz : Int)) ∧ ∃ n, w' = w1.drewN n) := Lib.hid fun k => by
          refine Calls.mono (tb_blocks (hb2.drewN k)) ?_
          rintro e w' ⟨rfl, n2, rfl⟩
          exact ⟨by rw [hbz], k + n2, by simp [World.drewN_drewN]⟩
        have HC61 : Hid (∀ k, Calls Tryz.prog 61 #[mv m2] (w1.drewN k) fun e w' => e = .returned (.int .i64 (bz : Int)) ∧ ∃ n, w' = w1.drewN n) := Lib.hid fun k => by
          refine Calls.mono (tb_blocks2 (hb2.drewN k)) ?_
          rintro e w' ⟨rfl, n2, rfl⟩
          exact ⟨by rw [hbz], k + n2, by simp [World.drewN_drewN]⟩
        have HC6 : Hid (∀ k, Calls Tryz.prog 6 #[jv j2] (w1.drewN k) fun e w' => e = .returned (.int .i64 (fz : Int)) ∧ ∃ n, w' = w1.drewN n) := Lib.hid fun k => by
          refine Calls.mono (tb_free (hb2.drewN k)) ?_
          rintro e w' ⟨rfl, n2, rfl⟩
          exact ⟨by rw [hfz], k + n2, by simp [World.drewN_drewN]⟩
        have HC62 : Hid (∀ k, Calls Tryz.prog 62 #[mv m2] (w1.drewN k) fun e w' => e = .returned (.int .i64 (fz : Int)) ∧ ∃ n, w' = w1.drewN n) := Lib.hid fun k => by
          refine Calls.mono (tb_free2 (hb2.drewN k)) ?_
          rintro e w' ⟨rfl, n2, rfl⟩
          exact ⟨by rw [hfz], k + n2, by simp [World.drewN_drewN]⟩
        clear hb2 hbz hfz
        go_upto_region 8 with (fail)
        go_quiet ((first | (go_at_call 5; exact HC5.out _) | (go_at_call 61; exact HC61.out _) | (go_at_call 6; exact HC6.out _) | (go_at_call 62; exact HC62.out _)))
        go_wp2_with fail
        refine Calls.mono (HSe.out _) ?_
        rintro e w2 ⟨rfl, hal⟩
        have HAl := Lib.hid hal
        clear hal
        go_wp2
        go_ret
        exact ⟨rfl, HAl.out⟩
end
end Go.Proofs.YtdhidcoglioalaaGreat.Walks
namespace Go.Proofs.YtdhidcoglioalaaGreat.Walks
open Go.RowKit Plain Jn
set_option linter.unusedVariables false
/-- A deed, as its cells hold it. -/
structure DoW where
  kd : Int
  A : Int
  bit : Int
  la : Option Addr
  lc : Nat
  l : List (Int × List Byte)
  ka : Option Addr
  kc : Nat
  K : List Bool
  ba : Option Addr
  bc : Nat
  B : List Byte
structure DoW.Ok (x : DoW) (w : World) (S : Prop) : Prop where
  old : Old w x.ka x.kc x.K x.ba x.bc x.B
  a : -9223372036854775808 ≤ x.A ∧ x.A ≤ 9223372036854775807
  h4 : S → x.kd % 9 ≠ 4
  h8 : x.kd % 9 = 8 → S
  l : PutsC w [] x.la x.l
structure DoM (w : World) (b o : Nat) (x : DoW) (S : Prop) : Prop where
  c0 : w.cell? ⟨b, o, none⟩ = some (.int .i64 x.kd)
  c1 : w.cell? ⟨b, o + 1, none⟩ = some (.int .i64 x.A)
  c2 : w.cell? ⟨b, o + 2, none⟩ = some (.int .i64 x.bit)
  c3 : w.cell? ⟨b, o + 3, none⟩ = some (.slice x.la x.l.length x.lc)
  c4 : w.cell? ⟨b, o + 4, none⟩ = some (.slice x.ka x.K.length x.kc)
  c5 : w.cell? ⟨b, o + 5, none⟩ = some (.slice x.ba x.B.length x.bc)
  ok : x.Ok w S
def DosJ (w : World) (a : Option Addr) (len : Nat) (S : Prop) : Prop := len = 0 ∨ ∃ b off, a = some ⟨b, off, none⟩ ∧ ∀ i, i < len → ∃ x, DoM w b (off + i * 6) x S
section
variable {sp : Sp} {w0 w w' : World} {x m g n : Nat} {S : Prop}
theorem All.weak {s : Nat} (h : All sp w0 w x s True n) : All sp w0 w x s S n := by
  obtain ⟨q, r, o, J, P, h1, h2, h3, h4⟩ := h
  exact ⟨q, r, o, J, P, h1, h2, fun _ => h3 trivial, h4⟩
theorem All.base {s : Nat} (h : All sp w0 w x s S n) : Below w0.heap.size w0 w := by
  obtain ⟨q, r, o, J, P, h1, _⟩ := h
  exact h1.bn.mix.be
/-- A fresh block is watched, or no longer. -/
theorem BT.watch {q : PLoc} {r : RLoc} {o : Option (JLoc × Nat)} {J J' : Jn} {P P' : Pl} (h1 : BT none w0 w x q r o J J' P P') (hb : Below w.heap.size w w') {g : Nat} {D : Array Value} (hg : w.heap.size ≤ g) (hl : g < w'.heap.size) (hD : ∀ i v, D[i]? = some v → w'.cell? ⟨g, i, none⟩ = some v) : BT (some (g, D)) w0 w' x q r o J J' P P' := by
  have k := h1.below hb
  have hxl := h1.bn.lt
  have l1 : ∀ b ∈ q.R, b < w.heap.size := h1.bn.mix.pl.lt
  have l2 : ∀ b ∈ r.R, b < w.heap.size := h1.bn.mix.rf.x.lt
  refine ⟨{ k.bn with spc := ⟨fun g' D' e => ?_⟩ }, k.c1, k.c3, fun j m e => { k.jn j m e with sj := fun g' D' e' => ?_ }⟩
  · cases e
    exact ⟨hD, hl, fun hm => by have := l1 _ hm; omega, fun hm => by have := l2 _ hm; omega, by omega⟩
  · cases e'
    have kk := h1.jn j m e
    have a1 := kk.jp.lt j.p JLoc.inP
    have a2 := kk.jp.lt j.m JLoc.inM
    have a3 := kk.rj.lt
    exact ⟨by omega, by omega, by omega⟩
theorem All.forget {s : Nat} (h : All sp w0 w x s S n) : All none w0 w x s S n := by
  obtain ⟨q, r, o, J, P, k, h2⟩ := h
  exact ⟨q, r, o, J, P, ⟨{ k.bn with spc := ⟨fun g' D' e => by cases e⟩ }, k.c1, k.c3, fun j m e => { k.jn j m e with sj := fun g' D' e' => by cases e' }⟩, h2⟩
theorem All.cells {s : Nat} {g : Nat} {D : Array Value} (h : All (some (g, D)) w0 w x s S n) : ∀ i v, D[i]? = some v → w.cell? ⟨g, i, none⟩ = some v := by
  obtain ⟨q, r, o, J, P, k, _⟩ := h
  exact (k.bn.spc.d g D rfl).1
/-- .. with no puts. -/
theorem step_bare {s : Nat} (h : All sp w0 w x s S n) (hs : s ≤ 1000000) {kd A : Int} (hA : -9223372036854775808 ≤ A ∧ A ≤ 9223372036854775807) (h4 : S → kd % 9 ≠ 4) (h8 : kd % 9 = 8 → S) :
    Calls Tryz.prog 39 #[xv x, .agg #[.int .i64 kd, .int .i64 A, .int .i64 0, .slice none 0 0, .slice none 0 0, .slice none 0 0]] w fun e w' => e = .returned (.bool true) ∧ All sp w0 w' x (s + 1) S n := by
  obtain ⟨q, r, o, J, P, h1, h2, h3, rfl, h5⟩ := h
  exact step_is (K := []) (B := []) (l := []) h1 h2 s S h3 h5 hs ⟨Bools.nil _ _, fun _ => rfl, Bys.nil _ _, fun _ => rfl, by simp⟩ hA h4 h8 rfl rfl rfl (fun j m _ => ⟨by simp, fun x hx => by simp at hx, .inl rfl⟩)
/-- .. with puts that were copied since. -/
theorem step_watch {s : Nat} {wr : World} (h : All none w0 wr x s S n) (hb : Below wr.heap.size wr w) {D : Array Value} (hg : wr.heap.size ≤ g) (hl : g < w.heap.size) (hD : ∀ i v, D[i]? = some v → w.cell? ⟨g, i, none⟩ = some v) (hs : s ≤ 1000000) {kd A bit : Int} {la ka ba : Option Addr} {ln lc kc bc kl bl base : Nat} {K : List Bool} {B : List Byte} (hO : Old w0 ka kc K ba bc B) (hA : -9223372036854775808 ≤ A ∧ A ≤ 9223372036854775807)
    (h4 : S → kd % 9 ≠ 4) (h8 : kd % 9 = 8 → S) (hkl : K.length = kl) (hbl : B.length = bl) {l : List (Int × List Byte)} (hln : l.length = ln) (hbase : wr.heap.size ≤ base) (hq : OwnQ 39 w base (List.range base) (.slice la ln lc) l) (h1 : l.length ≤ 100) (h2 : ∀ x ∈ l, Wf x.1 ∧ x.2.length ≤ 100) :
    Calls Tryz.prog 39 #[xv x, .agg #[.int .i64 kd, .int .i64 A, .int .i64 bit, .slice la ln lc, .slice ka kl kc, .slice ba bl bc]] w fun e w' => e = .returned (.bool true) ∧ All (some (g, D)) w0 w' x (s + 1) S n := by
  obtain ⟨q, r, o, J, P, k1, k2, k3, rfl, k5⟩ := h
  exact step_is (k1.watch hb hg hl hD) k2 s S k3 k5 hs hO hA h4 h8 hkl hbl hln (fun j m e => hq.putsC (fun b hm => by
    subst e
    exact Nat.lt_of_lt_of_le ((k1.jn j m rfl).jp.lt b hm) hbase) h1 h2)
set_option maxRecDepth 20000 in
set_option maxHeartbeats 8000000 in
theorem plays_is (w : World) (size log : Int) (hlog : -9223372036854775808 ≤ log ∧ log ≤ 9223372036854775807) (a : Option Addr) (len cap : Nat) (hI : DosJ w a len S) (hlen : len ≤ 1000) :
    Calls Tryz.prog 12 #[.int .i64 size, .int .i64 log, .slice a len cap] w fun e w' => e = .returned (.bool true) ∧ Below w.heap.size w w' := by
  have HI := Lib.hid hI
  have HLog := Lib.hid hlog
  have HBr := Lib.hid (bring_any size 60)
  obtain ⟨n0, hn0⟩ : ∃ n0 : Nat, size % 60 = n0 := ⟨(size % 60).toNat, by omega⟩
  have hn60 : n0 < 60 := by omega
  have HN0 := Lib.hid hn0
  have s1 := IntWalk.i64_in (n := 1 + (n0 : Int)) (by omega)
  clear hI hlog hn0
  go_enter Tryz.func12, Tryz.ntmps12
  go_wp2_with fail
  refine Calls.mono (HBr.out _ (by decide) (by decide)) ?_
  rintro e w' ⟨rfl, rfl⟩
  rw [HN0.out]
  obtain ⟨n, hn⟩ : ∃ n : Nat, n = 1 + n0 := ⟨_, rfl⟩
  have hni : (1 : Int) + (n0 : Int) = (n : Int) := by omega
  have hnb : 1 ≤ n ∧ n ≤ 4096 := by omega
  have HNb := Lib.hid hnb
  rw [hni] at s1
  clear hn hnb HN0 HBr
  go_wp2_with fail
  clear hni
  refine Calls.mono (new_ok w n HNb.out.1 HNb.out.2) ?_
  rintro e w1 ⟨q, rfl, hp, hb, hR, _⟩
  have HB1 := Lib.hid hb
  have HP := Lib.hid hp
  have HR := Lib.hid hR
  clear hp hb hR
  go_wp2_with fail
  refine Calls.mono (rf_new w1 n HNb.out.1 HNb.out.2 q.R HP.out.lt) ?_
  rintro e w2 ⟨r, rfl, hr, hb2, hR2, hban⟩
  have hT : Two w w2 (q.banX r.R) r (Pl.made n) := ⟨HP.out.reban hb2 (fun x hx => ⟨hR2 x hx, hr.x.lt x hx⟩), hr, Below.step HB1.out hb2, HR.out, fun b hb => Nat.le_trans HB1.out.size (hR2 b hb), fun b hb => List.mem_append_left _ hb, fun b hb => by rw [hban]; exact hb, fun b hb hb' => by have := HP.out.lt b hb; have := hR2 b hb'; omega⟩
  obtain ⟨Q, hQ⟩ : ∃ Q, Q = q.banX r.R := ⟨_, rfl⟩
  have hpv : pv q = pv Q := by rw [hQ]; rfl
  rw [hpv]
  rw [← hQ] at hT
  have HT := Lib.hid hT
  clear hr hb2 hR2 hban hT hQ HR HB1 HP hpv
  go_upto_region 7 with (fail)
  obtain ⟨w3, hw3⟩ : ∃ x, x = w2.alloc (.cells #[pv Q, .pointer none, rv r, .pointer none] 82) := ⟨_, rfl⟩
  obtain ⟨x, hx⟩ : ∃ x, x = w2.heap.size := ⟨_, rfl⟩
  have hb3 : Below w2.heap.size w2 w3 := by rw [hw3]; exact Below.new _ _
  have hcell : ∀ i, w3.cell? ⟨x, i, none⟩ = (#[pv Q, .pointer none, rv r, .pointer none] : Array Value)[i]? := fun i => by rw [hw3, hx]; exact cell_new _ _ _ _
  have hfz : ∀ i, w3.frozen? ⟨x, i, none⟩ = false := fun i => by rw [hw3, hx]; exact frozen_new _ _ _ _
  have hx3 : x < w3.heap.size := by rw [hw3, hx]; simp
  have hAll : All none w w3 x 0 True n := ⟨Q.banX [x], r.banX [x], none, formatJ 2, Pl.made n, ⟨⟨HT.out.reban hb3 (fun y hy => by simp at hy; subst hy; exact ⟨by omega, hx3⟩), hcell 0, ⟨_, hcell 1⟩, hcell 2, ⟨_, hcell 3⟩, hfz, List.mem_append_left _ (by simp), List.mem_append_left _ (by simp), fun hm => by have := HT.out.pl.lt _ hm; omega, fun hm => by have := HT.out.rf.x.lt _ hm; omega, by have := HT.out.be.size; omega, ⟨fun _ _ e => by cases e⟩⟩, hcell 1, hcell 3, fun j m e => by cases e⟩, dw_live rfl, fun _ => ⟨rfl, rfl⟩, rfl, fun e => absurd rfl e⟩
  have HA3 := Lib.hid hAll
  rw [← hw3, ← hx]
  clear hw3 hx hb3 hcell hfz hx3 hAll HT
  go_wp2_with fail
  refine Calls.mono (step_bare HA3.out (by omega) HLog.out (by simp) (by simp)) ?_
  rintro e w4 ⟨rfl, h4⟩
  have HA4 : Hid (All none w w4 x 1 S n) := Lib.hid h4.weak
  clear h4 HA3
  go_wp2_with fail
  go_loopw [13] (fun i wr => ∃ k : Nat, k ≤ len ∧ k ≤ 40 ∧ i = .int .i64 k ∧ Hid (All none w wr x (1 + 4 * k) S n)) (fun i _ => 40 - (RowKit.intOf i).toNat)
  case atStart => exact ⟨0, Nat.zero_le _, by omega, rfl, HA4⟩
  case round =>
    clear HA4
    obtain ⟨k, hk, hk40, rfl, HA⟩ := hrel
    have fin : ∀ (Z : Prop), Z → Z := fun _ z => z
    by_cases hlt : k < len
    · by_cases h40 : k < 40
      · have h40i : (k : Int) < 40 := by omega
        obtain ⟨b, off, rfl, hc⟩ : ∃ b off, a = some ⟨b, off, none⟩ ∧ ∀ i, i < len → ∃ x, DoM w b (off + i * 6) x S := by
          rcases HI.out with h | h
          · omega
          · exact h
        obtain ⟨d, hd⟩ := hc k hlt
        have hbw := HA.out.base
        have HOk := Lib.hid hd.ok
        obtain ⟨kd, A, bit, la, lc, l, ka, kc, K, ba, bc, B⟩ := d
        have d0 := keepc hbw hd.c0
        have d1 := keepc hbw hd.c1
        have d2 := keepc hbw hd.c2
        have d3 := keepc hbw hd.c3
        have d4 := keepc hbw hd.c4
        have d5 := keepc hbw hd.c5
        simp only at d0 d1 d2 d3 d4 d5
        obtain ⟨ll, hll⟩ : ∃ ll, ll = l.length := ⟨_, rfl⟩
        obtain ⟨kl, hkl⟩ : ∃ kl, kl = K.length := ⟨_, rfl⟩
        obtain ⟨bl, hbl⟩ : ∃ bl, bl = B.length := ⟨_, rfl⟩
        rw [← hll] at d3
        rw [← hkl] at d4
        rw [← hbl] at d5
        have HLL := Lib.hid hll
        have HKL := Lib.hid hkl
        have HBL := Lib.hid hbl
        clear hc hd hbw hll hkl hbl
        go_upto_region 13 with (fail)
        obtain ⟨wa, hwa⟩ : ∃ x, x = wr.alloc (.cells #[.int .i64 kd, .int .i64 A, .int .i64 bit, .slice la ll lc, .slice ka kl kc, .slice ba bl bc] 43) := ⟨_, rfl⟩
        obtain ⟨g, hg⟩ : ∃ g, g = wr.heap.size := ⟨_, rfl⟩
        have hba : Below wr.heap.size wr wa := by rw [hwa]; exact Below.new _ _
        have hcell : ∀ i, wa.cell? ⟨g, i, none⟩ = (#[Value.int .i64 kd, .int .i64 A, .int .i64 bit, .slice la ll lc, .slice ka kl kc, .slice ba bl bc] : Array Value)[i]? := fun i => by rw [hg, hwa]; exact cell_new _ _ _ _
        have hfz : ∀ i, wa.frozen? ⟨g, i, none⟩ = false := fun i => by rw [hg, hwa]; exact frozen_new _ _ _ _
        go_upto_region 14 with (fail)
        rw [← hwa, ← hg]
        have hgw : g < wa.heap.size := by rw [hwa, hg]; simp
        have hgr : wr.heap.size ≤ g := by rw [hg]; exact Nat.le_refl _
        clear hwa hg
        have hpc : PutsC wa [] la l := (HOk.out.l.below HA.out.base).below hba
        refine Calls.mono (copied_is wa la ll lc l HLL.out.symm hpc) ?_
        rintro e w6 ⟨a6, m6, c6, rfl, hm6, hq6, hb6⟩
        have t0 := keepc hb6 (hcell 0)
        have t1 := keepc hb6 (hcell 1)
        have t2 := keepc hb6 (hcell 2)
        have t3 := keepc hb6 (hcell 3)
        have t4 := keepc hb6 (hcell 4)
        have t5 := keepc hb6 (hcell 5)
        have f3 := fz_same hfz (hb6.block _ hgw) 3
        have HQ6 := Lib.hid hq6
        have HM6 := Lib.hid hm6
        have HB6 := Lib.hid (Below.step hba hb6)
        have HG : Hid (wr.heap.size ≤ g ∧ g < wa.heap.size ∧ wr.heap.size ≤ wa.heap.size ∧ wa.heap.size ≤ w6.heap.size) := Lib.hid ⟨hgr, hgw, hba.size, hb6.size⟩
        clear hcell hfz hba hb6 hpc hq6 hm6 hgw hgr d0 d1 d2 d3 d4 d5
        go_upto_region 14 with (fail)
        obtain ⟨w7, hw7⟩ : ∃ x, x = w6.setCell ⟨g, 3, none⟩ (.slice a6 m6 c6) := ⟨_, rfl⟩
        have ho : Only [g] w6 w7 := by rw [hw7]; exact (Only.refl _ _).setCell (by simp) _
        have hne : ∀ a b : Nat, a ≠ b → (⟨g, a, none⟩ : Addr) ≠ ⟨g, b, none⟩ := fun a b hab e => hab (by injection e)
        have v0 : w7.cell? ⟨g, 0, none⟩ = some (.int .i64 kd) := by rw [hw7, World.cell?_setCell_other _ _ _ _ (hne _ _ (by omega))]; exact t0
        have v1 : w7.cell? ⟨g, 1, none⟩ = some (.int .i64 A) := by rw [hw7, World.cell?_setCell_other _ _ _ _ (hne _ _ (by omega))]; exact t1
        have v2 : w7.cell? ⟨g, 2, none⟩ = some (.int .i64 bit) := by rw [hw7, World.cell?_setCell_other _ _ _ _ (hne _ _ (by omega))]; exact t2
        have v3 : w7.cell? ⟨g, 3, none⟩ = some (.slice a6 m6 c6) := by rw [hw7]; exact World.cell?_setCell_same _ _ _ t3
        have v4 : w7.cell? ⟨g, 4, none⟩ = some (.slice ka kl kc) := by rw [hw7, World.cell?_setCell_other _ _ _ _ (hne _ _ (by omega))]; exact t4
        have v5 : w7.cell? ⟨g, 5, none⟩ = some (.slice ba bl bc) := by rw [hw7, World.cell?_setCell_other _ _ _ _ (hne _ _ (by omega))]; exact t5
        obtain ⟨D, hD⟩ : ∃ D : Array Value, D = #[.int .i64 kd, .int .i64 A, .int .i64 bit, .slice a6 m6 c6, .slice ka kl kc, .slice ba bl bc] := ⟨_, rfl⟩
        have hDc : ∀ i v, D[i]? = some v → w7.cell? ⟨g, i, none⟩ = some v := fun i v h => by
          rw [hD] at h
          match i, h with
          | 0, h => simp at h; subst h; exact v0
          | 1, h => simp at h; subst h; exact v1
          | 2, h => simp at h; subst h; exact v2
          | 3, h => simp at h; subst h; exact v3
          | 4, h => simp at h; subst h; exact v4
          | 5, h => simp at h; subst h; exact v5
          | i + 6, h => simp at h
        have HD1 : Hid (∀ s wi, All (some (g, D)) w wi x s S n → wi.cell? ⟨g, 1, none⟩ = some (.int .i64 A)) := Lib.hid fun s wi h => h.cells 1 _ (by rw [hD]; rfl)
        have hS := HOk.out
        have HStep : Hid (Calls Tryz.prog 39 #[xv x, .agg #[.int .i64 kd, .int .i64 A, .int .i64 bit, .slice a6 m6 c6, .slice ka kl kc, .slice ba bl bc]] w7 fun e w' => e = .returned (.bool true) ∧ All (some (g, D)) w w' x (1 + 4 * k + 1) S n) := Lib.hid
          (step_watch HA.out (Only.below HB6.out ho (fun b hb => by
              have : b = g := by simpa using hb
              have := HG.out.1
              omega) (Nat.le_refl _)) HG.out.1 (Nat.lt_of_lt_of_le HG.out.2.1 (Nat.le_trans HG.out.2.2.2 ho.size)) hDc (by omega) (hS.old : Old w ka kc K ba bc B) hS.a hS.h4 hS.h8 HKL.out.symm HBL.out.symm (base := wa.heap.size) HM6.out HG.out.2.2.1
            (HQ6.out.only ho (fun b hb => List.mem_range.2 (by
              have : b = g := by simpa using hb
              have := HG.out.2.1
              omega)) (fun b e hm => by
              have h1 : b = g := by simpa using hm
              have h2 := (HQ6.out.blk e).1
              have h3 := HG.out.2.1
              omega)) (by have := hS.l.len; simp only at this; rw [List.length_take]; omega) (fun y hy => hS.l.wf y (List.mem_of_mem_take hy)))
        have hAb : -9223372036854775808 ≤ A ∧ A ≤ 9223372036854775807 := hS.a
        rw [← hw7]
        clear hw7 ho hne t0 t1 t2 t3 t4 t5 f3 hDc hD hS HQ6 HM6 HB6 HG HOk HA HLL HKL HBL
        go_wp2_with fail
        refine Calls.mono HStep.out ?_
        rintro e w8 ⟨rfl, h8⟩
        have H8 := Lib.hid h8
        clear h8 HStep v0 v1 v2 v3 v4 v5
        go_wp2_with fail
        go_loopw [15] (fun i wi => ∃ j : Nat, j ≤ 3 ∧ i = .int .i64 j ∧ Hid (All (some (g, D)) w wi x (1 + 4 * k + 1 + j) S n)) (fun i _ => 3 - (RowKit.intOf i).toNat)
        case atStart => exact ⟨0, by omega, rfl, H8⟩
        case round =>
          clear H8
          obtain ⟨j, hj, rfl, HJ⟩ := hrel
          by_cases hlj : j < 3
          · have c1 := HD1.out _ _ HJ.out
            obtain ⟨z, hz⟩ : ∃ z : Int, z = A % 60 := ⟨_, rfl⟩
            have hz60 : 0 ≤ z ∧ z < 60 := by omega
            have HZ : Hid (∀ w', Calls Tryz.prog 36 #[.int .i64 A, .int .i64 60] w' fun e w'' => e = .returned (.int .i64 z) ∧ w' = w'') := Lib.hid fun w' => by rw [hz]; exact bring_any A 60 w' (by decide) (by decide)
            have s2 := IntWalk.i64_in (n := (j : Int) + z) (by omega)
            have hA2 : -9223372036854775808 ≤ (j : Int) + z ∧ (j : Int) + z ≤ 9223372036854775807 := by omega
            have HA2 := Lib.hid hA2
            clear hz hA2 hz60
            go_wp2_with fail
            refine Calls.mono (HZ.out _) ?_
            rintro e w' ⟨rfl, rfl⟩
            go_wp2_with fail
            refine Calls.mono (step_bare HJ.out (by omega) HA2.out (fun _ => by decide) (fun h => absurd h (by decide))) ?_
            rintro e w9 ⟨rfl, h9⟩
            have H9 := Lib.hid h9
            clear h9
            go_wp2
            go_roundw
            case rel => exact ⟨j + 1, by omega, by go_num, H9⟩
            case measure => simp [RowKit.intOf]; omega
          · obtain rfl : j = 3 := by omega
            have H9 : Hid (All none w wr x (1 + 4 * (k + 1)) S n) := Lib.hid HJ.out.forget
            clear HJ hlj hj
            go_wp2
            go_roundw
            case rel => exact ⟨k + 1, by omega, by omega, by go_num, H9⟩
            case measure => simp [RowKit.intOf]; omega
      · have h40i : ¬ (k : Int) < 40 := by omega
        go_wp2_with fail
        refine Calls.mono (awake7 _) ?_
        rintro e w9 ⟨rfl, hb⟩
        have HB := Lib.hid hb
        clear hb
        go_wp2
        go_ret
        exact ⟨rfl, Below.step HA.out.base HB.out⟩
    · go_wp2_with fail
      refine Calls.mono (awake7 _) ?_
      rintro e w9 ⟨rfl, hb⟩
      have HB := Lib.hid hb
      clear hb
      go_wp2
      go_ret
      exact ⟨rfl, Below.step HA.out.base HB.out⟩
end
end Go.Proofs.YtdhidcoglioalaaGreat.Walks
