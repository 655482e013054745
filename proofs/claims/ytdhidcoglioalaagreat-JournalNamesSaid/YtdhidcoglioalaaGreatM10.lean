/-
  A bit of a plate is turned; a plate is flushed.
  A plate is flushed.
  A plate is made.
-/
import Derived.Test.YtdhidcoglioalaaGreatM05
import Derived.Laws.MakeOwn
namespace Go.Proofs.YtdhidcoglioalaaGreat.Walks
open Go.RowKit Plain
open Go.Maps (Keyed IsMap)
set_option linter.unusedVariables false
attribute [local go_sem ↓] exec_load88 exec_store88 exec_alloc88
attribute [local go_sem] isPt_mk adOf_mk isSec_mk sOf_mk alloc_setCells is_new at_new room_new is_past at_past room_past is_drew at_drew room_drew setCells_past setCells_size setCells_drew

theorem wrapB (r : Byte) : IntKind.u8.wrap (r.toNat : Int) = (r.toNat : Int) := by
  have := r.isLt
  rw [IntKind.wrap_u8']; omega
theorem ofIntB (x : Byte) : BitVec.ofInt 8 (x.toNat : Int) = x := by
  rw [BitVec.ofInt_natCast]; simp
theorem xorB (x y : Byte) : bits .xor .u8 (x.toNat : Int) (y.toNat : Int) = ((x ^^^ y).toNat : Int) := by
  show IntKind.u8.wrap ((BitVec.ofInt 8 (x.toNat : Int) ^^^ BitVec.ofInt 8 (y.toNat : Int)).toNat : Int) = _
  rw [ofIntB, ofIntB, wrapB]
theorem flip_int (c : Byte) (m : Nat) : bits .xor .u8 (c.toNat : Int) (2 ^ (m % 8) % 256) = ((c ^^^ (1#8 <<< (m % 8))).toNat : Int) := by
  have e : (2 ^ (m % 8) % 256 : Int) = ((1#8 <<< (m % 8)).toNat : Int) := by
    have : m % 8 < 8 := by omega
    generalize m % 8 = j at *
    rcases (by omega : j = 0 ∨ j = 1 ∨ j = 2 ∨ j = 3 ∨ j = 4 ∨ j = 5 ∨ j = 6 ∨ j = 7) with rfl | rfl | rfl | rfl | rfl | rfl | rfl | rfl <;> rfl
  rw [e, xorB]
theorem secC_set (s : Sec) {k : Nat} (b : Byte) : (secC s).setIfInBounds k (byteV b) = secC (upd s k b) := by
  apply Array.ext_getElem?
  intro j
  rw [Array.getElem?_setIfInBounds]
  by_cases hj : j < 64
  · have e1 : (secC s)[j]? = some (byteV (s j)) := by simp [secC, secL_get _ hj]
    have e2 : (secC (upd s k b))[j]? = some (byteV (upd s k b j)) := by simp [secC, secL_get _ hj]
    rw [e1, e2]
    by_cases e : k = j
    · subst e
      rw [if_pos rfl, if_pos (by rw [secC_size]; exact hj), upd_same]
    · rw [if_neg e, upd_other _ _ (fun h => e h.symm)]
  · have e1 : (secC s)[j]? = none := Array.getElem?_eq_none (by rw [secC_size]; omega)
    have e2 : (secC (upd s k b))[j]? = none := Array.getElem?_eq_none (by rw [secC_size]; omega)
    rw [e1, e2, secC_size]
    by_cases e : k = j
    · rw [if_pos e, if_neg (by omega)]
    · rw [if_neg e]
theorem flip_set (s : Sec) (m : Nat) : (secC s).setIfInBounds (m / 8) (.int .u8 (bits .xor .u8 ((s (m / 8)).toNat : Int) (2 ^ (m % 8) % 256))) = secC (Pl.flip s m) := by
  rw [flip_int]
  exact secC_set s _
set_option maxRecDepth 10000 in
set_option maxHeartbeats 1000000 in
theorem turn_any (w : World) (q : PLoc) (P : Pl) (h : PlateAt w q P) (i bit : Int) :
    Calls Tryz.prog 76 #[pv q, .int .i64 i, .int .i64 bit] w fun e w' => e = .returned (.int .i64 (P.turnE i bit)) ∧ PlateAt w' q (P.turn i bit) ∧ Only q.R w w' := by
  have hH := has_any w q P h i
  have H := Lib.hid h
  by_cases h0 : P.has i = 0
  · obtain ⟨hd, h1, h2⟩ := Pl.has_zero h0
    rw [h0] at hH
    have HC := Lib.hid hH
    obtain ⟨k, rfl⟩ : ∃ k : Nat, i = k := ⟨i.toNat, by omega⟩
    have hk : k < P.n := by omega
    have hk4 : k < 4096 := by have := H.out.ok.most; omega
    have HKn := Lib.hid hk
    by_cases hb : bit < 0 ∨ 512 ≤ bit
    · have e1 : P.turnE k bit = 9 := by simp [Pl.turnE, h0, hb]
      have e2 : P.turn k bit = P := by simp [Pl.turn, e1]
      rw [e1, e2]
      clear hH h0 hd h1 h2 hk e1 e2 h
      by_cases hb0 : bit < 0
      · clear hb
        go_enter Tryz.func76, Tryz.ntmps76
        go_wp2_with fail
        refine Calls.mono HC.out ?_
        rintro e w' ⟨rfl, rfl⟩
        go_wp2
        go_ret
        exact ⟨rfl, H.out, Only.refl _ _⟩
      · have hb1 : 512 ≤ bit := by omega
        clear hb
        go_enter Tryz.func76, Tryz.ntmps76
        go_wp2_with fail
        refine Calls.mono HC.out ?_
        rintro e w' ⟨rfl, rfl⟩
        go_wp2
        go_ret
        exact ⟨rfl, H.out, Only.refl _ _⟩
    · have e1 : P.turnE k bit = 0 := by simp [Pl.turnE, h0, hb]
      obtain ⟨m, rfl⟩ : ∃ m : Nat, bit = m := ⟨bit.toNat, by omega⟩
      have hm : m < 512 := by omega
      have hm8 : m / 8 < 64 := by omega
      have e2 : P.turn k m = P.turned k m := by simp [Pl.turn, e1]
      rw [e1, e2]
      have HS := Lib.hid (seen_any w q P h k hk)
      obtain ⟨s, hs⟩ : ∃ s, s = P.seen k := ⟨_, rfl⟩
      rw [← hs] at HS
      have hset := flip_set s m
      have HSe := Lib.hid hs
      have hc8 : ∀ (w : World), (w.alloc (.cells (secC s) 91)).cell? ⟨w.heap.size, m / 8, none⟩ = some (.int .u8 ((s (m / 8)).toNat : Int)) := fun w => by
        rw [cell_new]
        simp [secC, secL_get _ hm8]
        rfl
      clear hH h0 hd h1 h2 hk hb e1 e2 h hs
      go_enter Tryz.func76, Tryz.ntmps76
      go_wp2_with fail
      refine Calls.mono HC.out ?_
      rintro e w' ⟨rfl, rfl⟩
      go_wp2_with fail
      refine Calls.mono HS.out ?_
      rintro e w1 ⟨rfl, hb1⟩
      have HB1 := Lib.hid hb1
      have hc8' := hc8 w1
      have hf8 := frozen_new w1 (secC s) 91 (m / 8)
      clear hb1 hc8
      go_upto_region 7 with (fail)
      go_region
      obtain ⟨t, ht⟩ : ∃ t, t = Pl.flip s m := ⟨_, rfl⟩
      rw [← ht]
      have hP1 := H.out.below HB1.out
      have c0 := hP1.c0
      have c1 := hP1.c1
      have hroom := hP1.room HKn.out
      have hp := hP1.lt _ q.inP
      have hsb := hP1.lt _ q.inS
      have hP3 := ((hP1.setSec HKn.out t).alloc (.cells (secC t) 91)).drew.drew
      obtain ⟨w4, hdel, hm4, hg4⟩ := hP3.mp.drop (t := 99) (e := 91) Tryz.underlying99 (x := (k : Int)) (Wf.of (by omega) (by omega)) 0
      have hP4 : PlateAt w4 q (P.turned k m) := (hP3.setMap hg4 (f := upd P.waits k none) (by rw [wmap_upd]; exact hm4) (fun j hj => by
        by_cases e : j = k
        · rw [e, upd_same]
        · rw [upd_other _ _ e]; exact hP3.ok.waits j hj)).congr rfl (fun i hi => by rw [ht, HSe.out]; rfl) rfl rfl rfl rfl rfl
      have hO4 : Only q.R w w4 := (((((Only.of_below HB1.out).setCells q.inS _ _).new _).drew).drew).trans (Only.of_grown hg4 q.inM)
      have hn := HKn.out
      obtain ⟨n, hnn⟩ : ∃ n, n = P.n := ⟨_, rfl⟩
      rw [← hnn] at c0 hn
      have HP4 := Lib.hid hP4
      have HO4 := Lib.hid hO4
      have hmb := hP1.lt _ q.inM
      have hps : q.p ≠ q.sb := hP1.ne
      have c1' := hP3.c1
      clear hc8' hf8 hset hP1 hP3 hP4 hO4 hm4 hg4 ht hnn
      go_wp2_with fail
      go_region
      go_wp2
      go_ret
      exact ⟨rfl, HP4.out, HO4.out⟩
  · have hq := has_nz h0
    have e1 : P.turnE i bit = P.has i := by simp [Pl.turnE, h0]
    have e2 : P.turn i bit = P := by simp [Pl.turn, e1, h0]
    rw [e1, e2]
    obtain ⟨z, hz⟩ : ∃ z, z = P.has i := ⟨_, rfl⟩
    rw [← hz] at hH hq ⊢
    have HC := Lib.hid hH
    clear hH h0 e1 e2 hz h
    go_enter Tryz.func76, Tryz.ntmps76
    go_wp2_with fail
    refine Calls.mono HC.out ?_
    rintro e w' ⟨rfl, rfl⟩
    go_wp2
    go_ret
    exact ⟨rfl, H.out, Only.refl _ _⟩
end Go.Proofs.YtdhidcoglioalaaGreat.Walks
namespace Go.Proofs.YtdhidcoglioalaaGreat.Walks
open Go.RowKit Plain
open Go.Maps (Keyed IsMap)
set_option linter.unusedVariables false
attribute [local go_sem ↓] exec_load88 exec_store88 exec_alloc88
attribute [local go_sem] isPt_mk adOf_mk isSec_mk sOf_mk alloc_setCells is_new at_new room_new is_past at_past room_past is_drew at_drew room_drew setCells_past setCells_size setCells_drew

theorem grown_of_below {w w' : World} (h : Below w.heap.size w w') (row : Option Nat) : w.grownBy w' row := ⟨h.os, h.tape, h.output, h.size, fun i hi _ => h.block i hi⟩
/-- A plate of which some of what waits is written home. -/
def mixP (P : Pl) (left : Lit → Bool) : Pl := { P with stays := fun i => if left (.int .i64 (i : Int)) then P.stays i else P.seen i }
def FlushR (w1 wr : World) (q : PLoc) (P : Pl) (r nn : Nat) (D : DM) : Prop := ∃ left cnt, wr.ranges Tryz.prog 3 (RE ES) q.mb r nn D left cnt ∧ PlateAt wr q (mixP P left) ∧ Only q.R w1 wr
theorem mix_start {P : Pl} {D : DM} (h : Held ES D) (hm : ∀ x, atI D x = wmap P.waits x) {i : Nat} (hi : i < P.n) : (mixP P (Maps.has D)).stays i = P.stays i := by
  show (if Maps.has D (.int .i64 (i : Int)) then P.stays i else P.seen i) = P.stays i
  have e : wmap P.waits (i : Int) = (P.waits i).map secV := by unfold wmap; simp
  rw [h.has, hm, e]
  unfold Pl.seen
  cases hw : P.waits i <;> simp
theorem mix_end (P : Pl) {left : Lit → Bool} (h : ∀ kl, left kl = false) : mixP P left = { P with stays := P.seen } := by
  unfold mixP
  congr 1
  funext i
  rw [h]
  rfl
theorem mix_step {P : Pl} {left : Lit → Bool} {x : Nat} {s c : Sec} (hw : P.waits x = some s) (hc : secL c = secL s) (i : Nat) :
    secL ((mixP P (fun z => left z && !z.sameKey (.int .i64 (x : Int)))).stays i) = secL (upd (mixP P left).stays x c i) := by
  show secL (if (left (.int .i64 (i : Int)) && !(Lit.int .i64 (i : Int)).sameKey (.int .i64 (x : Int))) then P.stays i else P.seen i) = _
  rw [same_int]
  by_cases e : i = x
  · subst e
    rw [upd_same, hc]
    simp [Pl.seen, hw]
  · rw [upd_other _ _ e]
    have : ((i : Int) = (x : Int)) = False := eq_false (by omega)
    simp only [this, decide_false, Bool.not_false, Bool.and_true]
    rfl
set_option maxRecDepth 10000 in
set_option maxHeartbeats 1000000 in
theorem flush_any (w : World) (q : PLoc) (P : Pl) (h : PlateAt w q P) : Calls Tryz.prog 21 #[pv q] w fun e w' => e = .returned (.int .i64 P.flushE) ∧ PlateAt w' q P.flush ∧ Only q.R w w' := by
  have hH := may_any w q P h
  have HD := Lib.hid (doing_any w q P h)
  have H := Lib.hid h
  cases hd : P.dead
  · rw [may_live hd] at hH
    have HC := Lib.hid hH
    cases hg : P.goes
    · have e1 : P.flushE = 0 := by simp [Pl.flushE, hd, hg]
      have e2 : P.flush = P.did.settled := by simp [Pl.flush, hd, hg]
      have e3 : doE P = 0 := by simp [doE, hg]
      rw [e3] at HD
      rw [e1, e2]
      obtain ⟨Q, hQ⟩ : ∃ Q, Q = P.did := ⟨_, rfl⟩
      rw [← hQ] at HD ⊢
      clear hH hd hg e1 e2 e3 hQ h
      go_enter Tryz.func21, Tryz.ntmps21
      go_wp2_with fail
      refine Calls.mono HC.out ?_
      rintro e w' ⟨rfl, rfl⟩
      go_wp2_with fail
      refine Calls.mono HD.out ?_
      rintro e w1 ⟨rfl, hP, hO⟩
      have c1 := hP.c1
      have hms := hP.ok.most
      obtain ⟨nn, D, hown, hm⟩ := hP.mp
      have HM := Lib.hid hm
      have HHe := Lib.hid (held_of hown)
      have HP := Lib.hid hP
      have HO := Lib.hid hO
      have hmlt := hP.lt _ q.inM
      clear hP hO hm
      go_wp2_with (first | (at_range; refine wpList_range_own _ rfl _ 99 rfl 3 91 int_key Tryz.underlying99 (RE ES) q.mb nn D rfl hown ?_; intro w2 hrg0 hg0 hs0))
      try go_frame
      have hbl2 : Below w1.heap.size w1 w2 := ⟨hg0.os, hg0.tape, hg0.output, by omega, fun i hi => hg0.block i hi (by simp)⟩
      have HS2 : Hid (FlushR w1 w2 q Q w1.heap.size nn D) := Lib.hid ⟨_, _, hrg0, (HP.out.below hbl2).congr rfl (fun i hi => by rw [mix_start HHe.out HM.out hi]) rfl rfl rfl rfl rfl, Only.of_below hbl2⟩
      clear hrg0 hg0 hs0 hbl2 hown c1
      go_loopw [] (fun wr => Hid (FlushR w1 wr q Q w1.heap.size nn D)) (fun wr => wr.rangeLeft q.mb w1.heap.size)
      case atStart => exact HS2
      case round =>
        obtain ⟨left, cnt, hrg, hPr, hOr⟩ := hrel.out
        have HPr := Lib.hid hPr
        have HOr := Lib.hid hOr
        have HRG := Lib.hid hrg
        clear hPr hOr hrg
        go_wp2_with (first | (at_next; refine wpList_next_ranges _ rfl _ rfl 3 int_key (RE ES) (Value.int .i64) secV (fun key kl h => by obtain ⟨x, hx, _⟩ := Maps.keyOf_int_inv Tryz.underlying3 h; exact ⟨x, hx⟩) (fun v y h => (RE.inv h).1) q.mb w1.heap.size nn D left cnt rfl HRG.out ?_ ?_))
        · intro hc0 hl0
          have HL0 := Lib.hid (mix_end Q hl0)
          clear hc0 hl0
          have c1 := HPr.out.c1
          have hp := HPr.out.lt _ q.inP
          obtain ⟨w3, hcl, hm3, hg3, hz3⟩ := HPr.out.mp.clear (t := 99) (e := 91) Tryz.underlying99 0
          have h3 : PlateAt w3 q { mixP Q left with waits := fun _ => none } := HPr.out.setMap hg3 (by rw [wmap_none]; exact hm3) (fun _ _ => rfl)
          have H3 := Lib.hid (show PlateAt w3 q Q.settled from h3.congr rfl (fun i hi => by rw [HL0.out]; rfl) rfl rfl rfl rfl rfl)
          have HO3 := Lib.hid ((HO.out.trans HOr.out).trans (Only.of_grown hg3 q.inM))
          clear h3 hm3 hg3
          go_wp2
          go_ret
          exact ⟨rfl, H3.out, HO3.out⟩
        · intro x c kl y1 y2 w3 cnt3 hkey hlk hv hat hrg3 hlt hg3 hs3 hen
          obtain ⟨x', ex, rfl, hwx⟩ := Maps.keyOf_int_inv Tryz.underlying3 hkey
          cases ex
          obtain ⟨_, hy⟩ := RE.inv hv
          have hwx' : wmap Q.waits x = some (secV c) := by
            rw [← HM.out x]
            unfold atI
            rw [hat]
            cases hy
            rfl
          obtain ⟨h0, hxn⟩ := HP.out.bound x (by rw [hwx']; rfl)
          obtain ⟨k, rfl⟩ : ∃ k : Nat, x = k := ⟨x.toNat, by omega⟩
          have hkn : k < Q.n := by omega
          have hsw : (Q.waits k).map secV = some (secV c) := by
            unfold wmap at hwx'
            simpa using hwx'
          obtain ⟨s, hs1, hs2⟩ := Option.map_eq_some_iff.1 hsw
          have hsc : secL c = secL s := by
            have h1 : secC s = secC c := by injection hs2
            have h2 := congrArg Array.toList h1
            rw [secC_toList, secC_toList] at h2
            exact h2.symm
          have hP3 := HPr.out.iter HRG.out hg3 (Nat.ne_of_lt hmlt)
          have hO3 : Only q.R w1 w3 := by
            refine ⟨hg3.os.trans HOr.out.os, hg3.tape.trans HOr.out.tape, hg3.output.trans HOr.out.output, Nat.le_trans HOr.out.size hg3.size, fun b hb hn => ?_⟩
            exact (hg3.block b (Nat.lt_of_lt_of_le hb HOr.out.size) (by simp; omega)).trans (HOr.out.block b hb hn)
          have HMS := Lib.hid (mix_step (P := Q) (left := left) hs1 hsc)
          have c0 := hP3.c0
          have hroom := hP3.room hkn
          have hp := hP3.lt _ q.inP
          have hsb := hP3.lt _ q.inS
          have hn0 : (mixP Q left).n = Q.n := rfl
          rw [hn0] at c0
          obtain ⟨n, hnn⟩ : ∃ n, n = Q.n := ⟨_, rfl⟩
          have hkn' : k < n := by omega
          rw [← hnn] at c0
          have HP3 := Lib.hid hP3
          have HO3 := Lib.hid hO3
          have HRG3 := Lib.hid hrg3
          have HLT := Lib.hid hlt
          have HK := Lib.hid hkn
          have hrne : w1.heap.size ≠ q.sb := fun e => Nat.lt_irrefl _ (e ▸ HP.out.lt _ q.inS)
          have HRN := Lib.hid hrne
          have hmne := HP.out.nem.2
          have HMN := Lib.hid hmne
          clear hkey hlk hat hrg3 hlt hg3 hs3 hv hy hwx' h0 hxn hsw hs1 hs2 hsc hP3 hO3 hn0 hnn hkn hrne hmne hwx
          go_wp2_with fail
          go_region
          go_wp2
          go_roundw
          case rel =>
            have k1 := ((HRG3.out.kept (Only.grown (Only.setCells (R := [q.sb]) (b := q.sb) (by simp) (secL c) (k * 64) (Only.refl _ w3))) (by simp; exact fun e => HMN.out e.symm) (by simp; exact HRN.out)).alloc (.cells (secC c) 91)).kept (grown_of_below (Below.refl _ _).drew none) (by simp) (by simp)
            have h1 := ((HP3.out.setSec (i := k) HK.out c).alloc (.cells (secC c) 91)).drew
            exact Lib.hid ⟨fun z => left z && !z.sameKey (Lit.int IntKind.i64 (k : Int)), cnt3, k1, h1.congr rfl (fun i hi => HMS.out i) rfl rfl rfl rfl rfl, ((Only.setCells q.inS _ _ HO3.out).new _).drew⟩
          case measure =>
            have k1 := ((HRG3.out.kept (Only.grown (Only.setCells (R := [q.sb]) (b := q.sb) (by simp) (secL c) (k * 64) (Only.refl _ w3))) (by simp; exact fun e => HMN.out e.symm) (by simp; exact HRN.out)).alloc (.cells (secC c) 91)).kept (grown_of_below (Below.refl _ _).drew none) (by simp) (by simp)
            rw [k1.left_eq, HRG.out.left_eq]
            exact HLT.out
    · have e1 : P.flushE = 50 := by simp [Pl.flushE, hd, hg]
      have e2 : P.flush = P.did := by simp [Pl.flush, hd, hg]
      have e3 : doE P = 50 := by simp [doE, hg]
      rw [e3] at HD
      rw [e1, e2]
      clear hH hd hg e1 e2 e3 h
      go_enter Tryz.func21, Tryz.ntmps21
      go_wp2_with fail
      refine Calls.mono HC.out ?_
      rintro e w' ⟨rfl, rfl⟩
      go_wp2_with fail
      refine Calls.mono HD.out ?_
      rintro e w1 ⟨rfl, hP, hO⟩
      have HP := Lib.hid hP
      have HO := Lib.hid hO
      clear hP hO
      go_wp2
      go_ret
      exact ⟨rfl, HP.out, HO.out⟩
  · rw [may_dead hd] at hH
    have HC := Lib.hid hH
    have e1 : P.flushE = 50 := by simp [Pl.flushE, hd]
    have e2 : P.flush = P := by simp [Pl.flush, hd]
    rw [e1, e2]
    clear hH hd e1 e2 h
    go_enter Tryz.func21, Tryz.ntmps21
    go_wp2_with fail
    refine Calls.mono HC.out ?_
    rintro e w' ⟨rfl, rfl⟩
    go_wp2
    go_ret
    exact ⟨rfl, H.out, Only.refl _ _⟩
end Go.Proofs.YtdhidcoglioalaaGreat.Walks
namespace Go.Proofs.YtdhidcoglioalaaGreat.Walks
open Go.RowKit Plain
open Go.Maps (Keyed IsMap)
set_option linter.unusedVariables false
attribute [local go_sem ↓] exec_load88 exec_store88 exec_alloc88
attribute [local go_sem] isPt_mk adOf_mk isSec_mk sOf_mk alloc_setCells is_new at_new room_new is_past at_past room_past is_drew at_drew room_drew setCells_past setCells_size setCells_drew

theorem info88 : (Tryz.prog.info? 91).map (fun i => (i.size, i.bytes)) = some (64, 64) := by kernel_rfl
theorem info88z : (Tryz.prog.info? 91).map (·.zero) = some (some (.agg (Array.replicate 64 (.int .u8 0)))) := by kernel_rfl
theorem zeroC : secC zeroS = Array.replicate 64 (.int .u8 0) := by
  apply Array.ext_getElem?
  intro j
  by_cases hj : j < 64
  · rw [show (secC zeroS)[j]? = some (byteV (zeroS j)) by simp [secC, secL_get _ hj], Array.getElem?_replicate, if_pos hj]
    rfl
  · rw [Array.getElem?_eq_none (by rw [secC_size]; omega), Array.getElem?_eq_none (by simp; omega)]
theorem new_err (w : World) (n : Int) (h : n < 1 ∨ 4096 < n) : Calls Tryz.prog 37 #[.int .i64 n] w fun e w' => e = .returned (.tuple #[.pointer none, .int .i64 9]) ∧ w = w' := by
  by_cases h1 : n < 1
  · clear h
    go_enter Tryz.func37, Tryz.ntmps37
    go_wp2
    refine bodyPost_ret (results_tmp2 rfl _ _ _) rfl ?_
    exact ⟨rfl, rfl⟩
  · have h2 : 4096 < n := by omega
    clear h
    go_enter Tryz.func37, Tryz.ntmps37
    go_wp2
    refine bodyPost_ret (results_tmp2 rfl _ _ _) rfl ?_
    exact ⟨rfl, rfl⟩
/-- The block of a plate's sectors, all noughts. -/
def rowZ (n : Nat) : Array Value := madeCells (Array.replicate 64 (.int .u8 0)) (n * 64)
theorem rowZ_get (n : Nat) {i : Nat} (hi : i < n * 64) : (rowZ n)[i]? = some (.int .u8 0) := by
  unfold rowZ madeCells
  rw [Array.getElem?_map, Array.getElem?_range, if_pos hi]
  have : i % 64 < 64 := Nat.mod_lt _ (by omega)
  simp [this]
theorem made_at (w : World) (n : Nat) (h1 : 1 ≤ n) (h2 : n ≤ 4096) : PlateAt (((w.alloc (.cells (rowZ n) 91)).alloc (.map #[] 0)).alloc (.cells #[.slice (some ⟨w.heap.size, 0, none⟩) n n, .map (some (w.heap.size + 1)), .bool false, .bool false, .int .i64 0, .slice none 0 0] 101))
    ⟨w.heap.size + 1 + 1, w.heap.size, w.heap.size + 1, []⟩ (Pl.made n) := by
  obtain ⟨wa, hwa⟩ : ∃ x, x = w.alloc (.cells (rowZ n) 91) := ⟨_, rfl⟩
  obtain ⟨wb, hwb⟩ : ∃ x, x = wa.alloc (.map #[] 0) := ⟨_, rfl⟩
  have sa : wa.heap.size = w.heap.size + 1 := by rw [hwa]; simp
  have sb : wb.heap.size = w.heap.size + 1 + 1 := by rw [hwb]; simp [sa]
  rw [← hwa, ← hwb]
  have hb : ∀ cs : Array Value, Below wa.heap.size wa (wb.alloc (.cells cs 101)) := fun cs => by rw [hwb]; exact Below.step (Below.new _ _) (Below.new _ _)
  have hcell : ∀ i, i < n * 64 → wa.cell? ⟨w.heap.size, i, none⟩ = some (.int .u8 0) := fun i hi => by rw [hwa, cell_new]; exact rowZ_get n hi
  have hp : ∀ (cs : Array Value) (j : Nat), (wb.alloc (.cells cs 101)).cell? ⟨w.heap.size + 1 + 1, j, none⟩ = cs[j]? := fun cs j => by rw [← sb]; exact cell_new _ _ _ _
  have hs : ∀ (cs : Array Value) (j : Nat), (wb.alloc (.cells cs 101)).cell? ⟨w.heap.size, j, none⟩ = wa.cell? ⟨w.heap.size, j, none⟩ := fun cs j => World.cell?_of_block ((hb cs).block _ (by show w.heap.size < _; omega))
  refine ⟨by rw [hp]; rfl, by rw [hp]; rfl, by rw [hp]; rfl, by rw [hp]; rfl, by rw [hp]; rfl, ⟨none, 0, by rw [hp]; rfl, Bools.nil _ _, (fun h0 => absurd rfl h0)⟩, fun i => by rw [← sb]; exact frozen_new _ _ _ _, ?_, ?_, ?_, (by show w.heap.size + 1 + 1 ≠ w.heap.size; omega), Pl.ok_made h1 h2, (fun b hb => by simp at hb)⟩
  · intro i hi j v hv
    have hj : j < 64 := by
      have := (List.getElem?_eq_some_iff.1 hv).1
      rwa [secL_length] at this
    rw [secL_get _ hj] at hv
    have hi' : i < n := hi
    rw [hs, hcell _ (by show i * 64 + j < n * 64; omega), ← hv]
    rfl
  · intro i hi j hj
    have hi' : i < n := hi
    refine ⟨by rw [hs, hcell _ (by show i * 64 + j < n * 64; omega)]; rfl, ?_⟩
    have h1 : (wb.alloc (.cells #[.slice (some ⟨w.heap.size, 0, none⟩) n n, .map (some (w.heap.size + 1)), .bool false, .bool false, .int .i64 0, .slice none 0 0] 101)).frozen? ⟨w.heap.size, i * 64 + j, none⟩ = wa.frozen? ⟨w.heap.size, i * 64 + j, none⟩ := (hb _).frozen (p := ⟨w.heap.size, i * 64 + j, none⟩) (by simp [sa])
    rw [h1, hwa]
    exact frozen_new _ _ _ _
  · show IM ES _ (w.heap.size + 1) (wmap fun _ => none)
    rw [wmap_none]
    have h0 := IM.new ES wa
    rw [sa, ← hwb] at h0
    exact h0.block (heap_alloc_lt (by omega))
set_option maxRecDepth 10000 in
theorem new_ok (w : World) (n : Nat) (h1 : 1 ≤ n) (h2 : n ≤ 4096) : Calls Tryz.prog 37 #[.int .i64 n] w fun e w' => ∃ q : PLoc, e = .returned (.tuple #[pv q, .int .i64 0]) ∧ PlateAt w' q (Pl.made n) ∧ Below w.heap.size w w' ∧ (∀ b ∈ q.R, w.heap.size ≤ b) ∧ w'.cell? ⟨q.p, 5, none⟩ = some (.slice none 0 0) := by
  have hmk : (Instr.makeSlice 98 (.int .i64 n) (.int .i64 n)).run Tryz.prog w = .ok (.slice (some ⟨w.heap.size, 0, none⟩) n n) (w.alloc (.cells (rowZ n) 91)) := by
    cases hi : Tryz.prog.info? 91 with
    | none => have := info88; rw [hi] at this; cases this
    | some i =>
      have := info88
      rw [hi] at this
      simp only [Option.map_some, Option.some.injEq, Prod.mk.injEq] at this
      obtain ⟨e1, e2⟩ := this
      have hz : i.zero = some (.agg (Array.replicate 64 (.int .u8 0))) := by
        have hz := info88z
        rw [hi] at hz
        exact Option.some.inj hz
      have := run_makeSlice w 98 91 i (.agg (Array.replicate 64 (.int .u8 0))) Tryz.underlying98 hi hz .i64 .i64 n n (by omega) (by omega) (by rw [e1]; simp; omega) (by rw [e2]; omega) (by omega)
      rw [e1] at this
      simpa [rowZ, Value.cells] using this
  have hmap := @run_makeMap Tryz.prog
  have hl1 : ¬ ((n : Int) < 1) := by omega
  have hl2 : ¬ (4096 < (n : Int)) := by omega
  go_enter Tryz.func37, Tryz.ntmps37
  go_wp2
  refine bodyPost_ret (results_tmp2 rfl _ _ _) rfl ?_
  refine ⟨⟨w.heap.size + 1 + 1, w.heap.size, w.heap.size + 1, []⟩, rfl, made_at w n h1 h2, Below.step (Below.step (Below.new _ _) (Below.new _ _)) (Below.new _ _), ?_, ?_⟩
  case refine_2 =>
    have h := cell_new ((w.alloc (.cells (rowZ n) 91)).alloc (.map #[] 0)) #[.slice (some ⟨w.heap.size, 0, none⟩) n n, .map (some (w.heap.size + 1)), .bool false, .bool false, .int .i64 0, .slice none 0 0] 101 5
    rw [World.size_alloc, World.size_alloc] at h
    exact h
  intro b hb
  simp [PLoc.R] at hb
  omega
end Go.Proofs.YtdhidcoglioalaaGreat.Walks
