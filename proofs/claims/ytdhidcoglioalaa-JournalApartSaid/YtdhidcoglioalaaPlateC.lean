/-
  A doing is counted; a plate is crashed, told to fail, written.
-/
import Derived.Test.YtdhidcoglioalaaPlateB
namespace Go.Proofs.Ytdhidcoglioalaa.Walks
open Go.RowKit Plain
set_option linter.unusedVariables false
attribute [local go_sem ↓] exec_load88 exec_store88 exec_alloc88
attribute [local go_sem] isPt_mk adOf_mk isSec_mk sOf_mk alloc_setCells is_new at_new room_new is_past at_past room_past is_drew at_drew room_drew setCells_past setCells_size setCells_drew

def doE (P : Pl) : Int := if P.goes then 50 else 0
set_option maxRecDepth 10000 in
theorem doing_any (w : World) (q : PLoc) (P : Pl) (h : PlateAt w q P) : Calls Try.prog 50 #[pv q] w fun e w' => e = .returned (.int .i64 (doE P)) ∧ PlateAt w' q P.did ∧ Only q.R w w' := by
  have c3 := h.c3
  have c4 := h.c4
  obtain ⟨ka, kc, c5, hB, hdis⟩ := h.c5
  have f4 := h.fz 4
  have hp := h.lt _ q.inP
  have hok := h.ok
  have HG := Lib.hid (gone_any w q P h ka P.keep kc hB (fun h0 ad e => (hdis h0 ad e).1))
  have H := Lib.hid h
  clear h hB hdis
  cases hf : P.fails
  · have e1 : doE P = 0 := by simp [doE, Pl.goes, hf]
    have e2 : P.did = P := by simp [Pl.did, hf]
    rw [e1, e2]
    rw [hf] at c3
    clear hf e1 e2 c4 c5 hok
    go_enter Try.func50, Try.ntmps50
    go_wp2
    go_ret
    exact ⟨rfl, H.out, Only.refl _ _⟩
  · by_cases hl : 0 < P.left
    · have e1 : doE P = 0 := by simp [doE, Pl.goes, hf, hl]
      have e2 : P.did = { P with left := P.left - 1 } := by simp [Pl.did, hf, hl]
      rw [e1, e2]
      rw [hf] at c3
      have hL := hok.left
      have HOk := Lib.hid (show ({ P with left := P.left - 1 } : Pl).Ok from ⟨hok.pos, hok.most, hok.waits, by show _ ≤ P.left - 1 ∧ P.left - 1 ≤ _; omega⟩)
      obtain ⟨z, hz⟩ : ∃ z, z = P.left := ⟨_, rfl⟩
      rw [← hz] at c4 hl hL
      have hw := IntWalk.i64_in (n := z - 1) (by omega)
      have HZ := Lib.hid hz
      clear hf e1 e2 c5 hok hz
      go_enter Try.func50, Try.ntmps50
      go_wp2
      go_ret
      refine ⟨rfl, ?_, (Only.refl _ _).setCell q.inP _⟩
      exact H.out.setCell (i := 4) (by omega) { P with left := P.left - 1 } rfl rfl rfl rfl HOk.out (by simp) (by simp) (by simp [HZ.out]) (by simp)
    · have e1 : doE P = 50 := by simp [doE, Pl.goes, hf, hl]
      have e2 : P.did = P.gone P.keep := by simp [Pl.did, hf, hl]
      rw [e1, e2]
      rw [hf] at c3
      obtain ⟨z, hz⟩ : ∃ z, z = P.left := ⟨_, rfl⟩
      rw [← hz] at c4 hl
      clear hf e1 e2 hok hz
      go_enter Try.func50, Try.ntmps50
      go_wp2_with fail
      refine Calls.mono HG.out ?_
      rintro e w' ⟨⟨v, rfl⟩, hP, hO⟩
      have HP := Lib.hid hP
      have HO := Lib.hid hO
      clear hP hO
      go_wp2
      go_ret
      exact ⟨rfl, HP.out, HO.out⟩
theorem may_dead {P : Pl} (h : P.dead = true) : P.may = 50 := by simp [Pl.may, h]
theorem may_live {P : Pl} (h : P.dead = false) : P.may = 0 := by simp [Pl.may, h]
set_option maxRecDepth 10000 in
theorem crash_any (w : World) (q : PLoc) (P : Pl) (h : PlateAt w q P) (a : Option Addr) (l : List Bool) (cap : Nat) (hB : Bools w a l) (hdis : l ≠ [] → ∀ ad, a = some ad → ad.block ∉ q.R) :
    Calls Try.prog 17 #[pv q, .slice a l.length cap] w fun e w' => e = .returned (.int .i64 P.may) ∧ PlateAt w' q (P.crash l) ∧ Only q.R w w' := by
  have HC := Lib.hid (may_any w q P h)
  have HG := Lib.hid (gone_any w q P h a l cap hB hdis)
  have H := Lib.hid h
  clear h hB hdis
  obtain ⟨n, hn⟩ : ∃ n, n = l.length := ⟨_, rfl⟩
  rw [← hn] at HG ⊢
  clear hn
  cases hd : P.dead
  · rw [may_live hd] at HC ⊢
    have e2 : P.crash l = P.gone l := by simp [Pl.crash, hd]
    rw [e2]
    clear hd e2
    go_enter Try.func17, Try.ntmps17
    go_wp2_with fail
    refine Calls.mono HC.out ?_
    rintro e w' ⟨rfl, rfl⟩
    go_wp2_with fail
    refine Calls.mono HG.out ?_
    rintro e w' ⟨⟨v, rfl⟩, hP, hO⟩
    have HP := Lib.hid hP
    have HO := Lib.hid hO
    clear hP hO
    go_wp2
    go_ret
    exact ⟨rfl, HP.out, HO.out⟩
  · rw [may_dead hd] at HC ⊢
    have e2 : P.crash l = P := by simp [Pl.crash, hd]
    rw [e2]
    clear hd e2
    go_enter Try.func17, Try.ntmps17
    go_wp2_with fail
    refine Calls.mono HC.out ?_
    rintro e w' ⟨rfl, rfl⟩
    go_wp2
    go_ret
    exact ⟨rfl, H.out, Only.refl _ _⟩
set_option maxRecDepth 10000 in
theorem fail_any (w : World) (q : PLoc) (P : Pl) (h : PlateAt w q P) (n : Int) (hn : -9223372036854775808 ≤ n ∧ n ≤ 9223372036854775807) (a : Option Addr) (l : List Bool) (cap : Nat) (hB : Bools w a l) (hcap : a = none → cap = 0) :
    Calls Try.prog 22 #[pv q, .int .i64 n, .slice a l.length cap] w fun e w' => e = .returned (.int .i64 P.may) ∧ PlateAt w' q (P.fail n l) ∧ Only q.R w w' := by
  have HC := Lib.hid (may_any w q P h)
  have HCl := Lib.hid (cloneBo_any a cap l w hB hcap)
  have H := Lib.hid h
  clear h hB
  obtain ⟨m, hm⟩ : ∃ m, m = l.length := ⟨_, rfl⟩
  rw [← hm] at HCl ⊢
  have HM := Lib.hid hm
  clear hm
  cases hd : P.dead
  · rw [may_live hd] at HC ⊢
    have e2 : P.fail n l = P.failed n l := by simp [Pl.fail, hd]
    rw [e2]
    clear hd e2
    have HN := Lib.hid hn
    clear hn
    go_enter Try.func22, Try.ntmps22
    go_wp2_with fail
    refine Calls.mono HC.out ?_
    rintro e w' ⟨rfl, rfl⟩
    go_wp2_with fail
    refine Calls.mono HCl.out ?_
    rintro e w1 ⟨a', cap', rfl, hB', ha', hb⟩
    rw [← HM.out]
    have h1 := H.out.below hb
    have c3 := h1.c3
    have c4 := h1.c4
    obtain ⟨a0, cap0, c5, _, _⟩ := h1.c5
    obtain ⟨n0, hn0⟩ : ∃ n0, n0 = P.keep.length := ⟨_, rfl⟩
    rw [← hn0] at c5
    have g3 := h1.fz 3
    have g4 := h1.fz 4
    have g5 := h1.fz 5
    have hp := h1.lt _ q.inP
    have H1 := Lib.hid h1
    have HB' := Lib.hid hB'
    have HA := Lib.hid ha'
    have HBe := Lib.hid hb
    clear h1 hB' ha' hb hn0
    go_wp2
    go_ret
    have k1 := H1.out.setCell (i := 3) (v := .bool (decide (0 ≤ n))) (by omega) { P with fails := decide (0 ≤ n) } rfl rfl rfl rfl ⟨H1.out.ok.pos, H1.out.ok.most, H1.out.ok.waits, H1.out.ok.left⟩ (by simp) (by simp) (by simp) (by simp)
    have k2 := k1.setCell (i := 4) (v := .int .i64 n) (by omega) { P with fails := decide (0 ≤ n), left := n } rfl rfl rfl rfl ⟨H1.out.ok.pos, H1.out.ok.most, H1.out.ok.waits, HN.out⟩ (by simp) (by simp) (by simp) (by simp)
    have hbw : ∀ {wx : World}, Only [q.p] w1 wx → Bools wx a' l := fun ho => Only.bools ho (fun _ ad e => by have h1 := HA.out ad e; have h2 := H.out.lt _ q.inP; simp; omega) HB'.out
    have k3 := k2.setKeep (a := a') (l := l) (cap := cap') (hbw (((Only.refl _ _).setCell (by simp) _).setCell (by simp) _)) (fun _ ad e => ⟨fun hm => by have h1 := HA.out ad e; have h2 := H.out.lt _ hm; omega, fun hm => by have h1 := HA.out ad e; have h2 := H.out.bl _ hm; omega⟩)
    rw [← HM.out] at k3
    refine ⟨rfl, k3, (Only.of_below HBe.out).trans ((((Only.refl _ _).setCell q.inP _).setCell q.inP _).setCell q.inP _)⟩
  · rw [may_dead hd] at HC ⊢
    have e2 : P.fail n l = P := by simp [Pl.fail, hd]
    rw [e2]
    clear hd e2
    go_enter Try.func22, Try.ntmps22
    go_wp2_with fail
    refine Calls.mono HC.out ?_
    rintro e w' ⟨rfl, rfl⟩
    go_wp2
    go_ret
    exact ⟨rfl, H.out, Only.refl _ _⟩
end Go.Proofs.Ytdhidcoglioalaa.Walks
