/-
  A plate is flushed.
-/
import Derived.Test.YtdhidcoglioalaaPlateE
namespace Go.Proofs.Ytdhidcoglioalaa.Walks
open Go.RowKit Plain
open Go.Maps (Keyed IsMap)
set_option linter.unusedVariables false
attribute [local go_sem ↓] exec_load88 exec_store88 exec_alloc88
attribute [local go_sem] isPt_mk adOf_mk isSec_mk sOf_mk alloc_setCells is_new at_new room_new is_past at_past room_past is_drew at_drew room_drew setCells_past setCells_size setCells_drew

theorem grown_of_below {w w' : World} (h : Below w.heap.size w w') (row : Option Nat) : w.grownBy w' row := ⟨h.os, h.tape, h.output, h.size, fun i hi _ => h.block i hi⟩
/-- A plate of which some of what waits is written home. -/
def mixP (P : Pl) (left : Lit → Bool) : Pl := { P with stays := fun i => if left (.int .i64 (i : Int)) then P.stays i else P.seen i }
def FlushR (w1 wr : World) (q : PLoc) (P : Pl) (r nn : Nat) (D : DM) : Prop := ∃ left cnt, wr.ranges Try.prog 3 (RE ES) q.mb r nn D left cnt ∧ PlateAt wr q (mixP P left) ∧ Only q.R w1 wr
theorem mix_start {P : Pl} {D : DM} (h : Held ES D) (hm : ∀ x, atI D x = wmap P.waits x) {i : Nat} (hi : i < P.n) : (mixP P (Maps.has D)).stays i = P.stays i := by
  show (if Maps.has D (.int .i64 (i : Int)) then P.stays i else P.seen i) = P.stays i
  have e : wmap P.waits (i : Int) = (P.waits i).map secV := by unfold wmap; simp
  rw [h.has, hm, e]
  unfold Pl.seen
  cases hw : P.waits i <;> simp
theorem mix_end (P : Pl) {left : Lit → Bool} (h : ∀ kl, left kl = false) : mixP P left = { P with stays := P.seen } := by
  unfold mixP
  congr 1
  funext i
  rw [h]
  rfl
theorem mix_step {P : Pl} {left : Lit → Bool} {x : Nat} {s c : Sec} (hw : P.waits x = some s) (hc : secL c = secL s) (i : Nat) :
    secL ((mixP P (fun z => left z && !z.sameKey (.int .i64 (x : Int)))).stays i) = secL (upd (mixP P left).stays x c i) := by
  show secL (if (left (.int .i64 (i : Int)) && !(Lit.int .i64 (i : Int)).sameKey (.int .i64 (x : Int))) then P.stays i else P.seen i) = _
  rw [same_int]
  by_cases e : i = x
  · subst e
    rw [upd_same, hc]
    simp [Pl.seen, hw]
  · rw [upd_other _ _ e]
    have : ((i : Int) = (x : Int)) = False := eq_false (by omega)
    simp only [this, decide_false, Bool.not_false, Bool.and_true]
    rfl
set_option maxRecDepth 10000 in
set_option maxHeartbeats 1000000 in
theorem flush_any (w : World) (q : PLoc) (P : Pl) (h : PlateAt w q P) : Calls Try.prog 26 #[pv q] w fun e w' => e = .returned (.int .i64 P.flushE) ∧ PlateAt w' q P.flush ∧ Only q.R w w' := by
  have hH := may_any w q P h
  have HD := Lib.hid (doing_any w q P h)
  have H := Lib.hid h
  cases hd : P.dead
  · rw [may_live hd] at hH
    have HC := Lib.hid hH
    cases hg : P.goes
    · have e1 : P.flushE = 0 := by simp [Pl.flushE, hd, hg]
      have e2 : P.flush = P.did.settled := by simp [Pl.flush, hd, hg]
      have e3 : doE P = 0 := by simp [doE, hg]
      rw [e3] at HD
      rw [e1, e2]
      obtain ⟨Q, hQ⟩ : ∃ Q, Q = P.did := ⟨_, rfl⟩
      rw [← hQ] at HD ⊢
      clear hH hd hg e1 e2 e3 hQ h
      go_enter Try.func26, Try.ntmps26
      go_wp2_with fail
      refine Calls.mono HC.out ?_
      rintro e w' ⟨rfl, rfl⟩
      go_wp2_with fail
      refine Calls.mono HD.out ?_
      rintro e w1 ⟨rfl, hP, hO⟩
      have c1 := hP.c1
      have hms := hP.ok.most
      obtain ⟨nn, D, hown, hm⟩ := hP.mp
      have HM := Lib.hid hm
      have HHe := Lib.hid (held_of hown)
      have HP := Lib.hid hP
      have HO := Lib.hid hO
      have hmlt := hP.lt _ q.inM
      clear hP hO hm
      go_wp2_with (first | (at_range; refine wpList_range_own _ rfl _ 60 rfl 3 88 int_key Try.underlying60 (RE ES) q.mb nn D rfl hown ?_; intro w2 hrg0 hg0 hs0))
      try go_frame
      have hbl2 : Below w1.heap.size w1 w2 := ⟨hg0.os, hg0.tape, hg0.output, by omega, fun i hi => hg0.block i hi (by simp)⟩
      have HS2 : Hid (FlushR w1 w2 q Q w1.heap.size nn D) := Lib.hid ⟨_, _, hrg0, (HP.out.below hbl2).congr rfl (fun i hi => by rw [mix_start HHe.out HM.out hi]) rfl rfl rfl rfl rfl, Only.of_below hbl2⟩
      clear hrg0 hg0 hs0 hbl2 hown c1
      go_loopw [] (fun wr => Hid (FlushR w1 wr q Q w1.heap.size nn D)) (fun wr => wr.rangeLeft q.mb w1.heap.size)
      case atStart => exact HS2
      case round =>
        obtain ⟨left, cnt, hrg, hPr, hOr⟩ := hrel.out
        have HPr := Lib.hid hPr
        have HOr := Lib.hid hOr
        have HRG := Lib.hid hrg
        clear hPr hOr hrg
        go_wp2_with (first | (at_next; refine wpList_next_ranges _ rfl _ rfl 3 int_key (RE ES) (Value.int .i64) secV (fun key kl h => by obtain ⟨x, hx, _⟩ := Maps.keyOf_int_inv Try.underlying3 h; exact ⟨x, hx⟩) (fun v y h => (RE.inv h).1) q.mb w1.heap.size nn D left cnt rfl HRG.out ?_ ?_))
        · intro hc0 hl0
          have HL0 := Lib.hid (mix_end Q hl0)
          clear hc0 hl0
          have c1 := HPr.out.c1
          have hp := HPr.out.lt _ q.inP
          obtain ⟨w3, hcl, hm3, hg3, hz3⟩ := HPr.out.mp.clear (t := 60) (e := 88) Try.underlying60 0
          have h3 : PlateAt w3 q { mixP Q left with waits := fun _ => none } := HPr.out.setMap hg3 (by rw [wmap_none]; exact hm3) (fun _ _ => rfl)
          have H3 := Lib.hid (show PlateAt w3 q Q.settled from h3.congr rfl (fun i hi => by rw [HL0.out]; rfl) rfl rfl rfl rfl rfl)
          have HO3 := Lib.hid ((HO.out.trans HOr.out).trans (Only.of_grown hg3 q.inM))
          clear h3 hm3 hg3
          go_wp2
          go_ret
          exact ⟨rfl, H3.out, HO3.out⟩
        · intro x c kl y1 y2 w3 cnt3 hkey hlk hv hat hrg3 hlt hg3 hs3 hen
          obtain ⟨x', ex, rfl, hwx⟩ := Maps.keyOf_int_inv Try.underlying3 hkey
          cases ex
          obtain ⟨_, hy⟩ := RE.inv hv
          have hwx' : wmap Q.waits x = some (secV c) := by
            rw [← HM.out x]
            unfold atI
            rw [hat]
            cases hy
            rfl
          obtain ⟨h0, hxn⟩ := HP.out.bound x (by rw [hwx']; rfl)
          obtain ⟨k, rfl⟩ : ∃ k : Nat, x = k := ⟨x.toNat, by omega⟩
          have hkn : k < Q.n := by omega
          have hsw : (Q.waits k).map secV = some (secV c) := by
            unfold wmap at hwx'
            simpa using hwx'
          obtain ⟨s, hs1, hs2⟩ := Option.map_eq_some_iff.1 hsw
          have hsc : secL c = secL s := by
            have h1 : secC s = secC c := by injection hs2
            have h2 := congrArg Array.toList h1
            rw [secC_toList, secC_toList] at h2
            exact h2.symm
          have hP3 := HPr.out.iter HRG.out hg3 (Nat.ne_of_lt hmlt)
          have hO3 : Only q.R w1 w3 := by
            refine ⟨hg3.os.trans HOr.out.os, hg3.tape.trans HOr.out.tape, hg3.output.trans HOr.out.output, Nat.le_trans HOr.out.size hg3.size, fun b hb hn => ?_⟩
            exact (hg3.block b (Nat.lt_of_lt_of_le hb HOr.out.size) (by simp; omega)).trans (HOr.out.block b hb hn)
          have HMS := Lib.hid (mix_step (P := Q) (left := left) hs1 hsc)
          have c0 := hP3.c0
          have hroom := hP3.room hkn
          have hp := hP3.lt _ q.inP
          have hsb := hP3.lt _ q.inS
          have hn0 : (mixP Q left).n = Q.n := rfl
          rw [hn0] at c0
          obtain ⟨n, hnn⟩ : ∃ n, n = Q.n := ⟨_, rfl⟩
          have hkn' : k < n := by omega
          rw [← hnn] at c0
          have HP3 := Lib.hid hP3
          have HO3 := Lib.hid hO3
          have HRG3 := Lib.hid hrg3
          have HLT := Lib.hid hlt
          have HK := Lib.hid hkn
          have hrne : w1.heap.size ≠ q.sb := fun e => Nat.lt_irrefl _ (e ▸ HP.out.lt _ q.inS)
          have HRN := Lib.hid hrne
          have hmne := HP.out.nem.2
          have HMN := Lib.hid hmne
          clear hkey hlk hat hrg3 hlt hg3 hs3 hv hy hwx' h0 hxn hsw hs1 hs2 hsc hP3 hO3 hn0 hnn hkn hrne hmne hwx
          go_wp2_with fail
          go_region
          go_wp2
          go_roundw
          case rel =>
            have k1 := ((HRG3.out.kept (Only.grown (Only.setCells (R := [q.sb]) (b := q.sb) (by simp) (secL c) (k * 64) (Only.refl _ w3))) (by simp; exact fun e => HMN.out e.symm) (by simp; exact HRN.out)).alloc (.cells (secC c) 88)).kept (grown_of_below (Below.refl _ _).drew none) (by simp) (by simp)
            have h1 := ((HP3.out.setSec (i := k) HK.out c).alloc (.cells (secC c) 88)).drew
            exact Lib.hid ⟨fun z => left z && !z.sameKey (Lit.int IntKind.i64 (k : Int)), cnt3, k1, h1.congr rfl (fun i hi => HMS.out i) rfl rfl rfl rfl rfl, ((Only.setCells q.inS _ _ HO3.out).new _).drew⟩
          case measure =>
            have k1 := ((HRG3.out.kept (Only.grown (Only.setCells (R := [q.sb]) (b := q.sb) (by simp) (secL c) (k * 64) (Only.refl _ w3))) (by simp; exact fun e => HMN.out e.symm) (by simp; exact HRN.out)).alloc (.cells (secC c) 88)).kept (grown_of_below (Below.refl _ _).drew none) (by simp) (by simp)
            rw [k1.left_eq, HRG.out.left_eq]
            exact HLT.out
    · have e1 : P.flushE = 50 := by simp [Pl.flushE, hd, hg]
      have e2 : P.flush = P.did := by simp [Pl.flush, hd, hg]
      have e3 : doE P = 50 := by simp [doE, hg]
      rw [e3] at HD
      rw [e1, e2]
      clear hH hd hg e1 e2 e3 h
      go_enter Try.func26, Try.ntmps26
      go_wp2_with fail
      refine Calls.mono HC.out ?_
      rintro e w' ⟨rfl, rfl⟩
      go_wp2_with fail
      refine Calls.mono HD.out ?_
      rintro e w1 ⟨rfl, hP, hO⟩
      have HP := Lib.hid hP
      have HO := Lib.hid hO
      clear hP hO
      go_wp2
      go_ret
      exact ⟨rfl, HP.out, HO.out⟩
  · rw [may_dead hd] at hH
    have HC := Lib.hid hH
    have e1 : P.flushE = 50 := by simp [Pl.flushE, hd]
    have e2 : P.flush = P := by simp [Pl.flush, hd]
    rw [e1, e2]
    clear hH hd e1 e2 h
    go_enter Try.func26, Try.ntmps26
    go_wp2_with fail
    refine Calls.mono HC.out ?_
    rintro e w' ⟨rfl, rfl⟩
    go_wp2
    go_ret
    exact ⟨rfl, H.out, Only.refl _ _⟩
end Go.Proofs.Ytdhidcoglioalaa.Walks
