/-
  A bit of a plate is turned; a plate is flushed.
-/
import Derived.Test.YtdhidcoglioalaaPlateD
namespace Go.Proofs.Ytdhidcoglioalaa.Walks
open Go.RowKit Plain
open Go.Maps (Keyed IsMap)
set_option linter.unusedVariables false
attribute [local go_sem ↓] exec_load88 exec_store88 exec_alloc88
attribute [local go_sem] isPt_mk adOf_mk isSec_mk sOf_mk alloc_setCells is_new at_new room_new is_past at_past room_past is_drew at_drew room_drew setCells_past setCells_size setCells_drew

theorem wrapB (r : Byte) : IntKind.u8.wrap (r.toNat : Int) = (r.toNat : Int) := by
  have := r.isLt
  rw [IntKind.wrap_u8']; omega
theorem ofIntB (x : Byte) : BitVec.ofInt 8 (x.toNat : Int) = x := by
  rw [BitVec.ofInt_natCast]; simp
theorem xorB (x y : Byte) : bits .xor .u8 (x.toNat : Int) (y.toNat : Int) = ((x ^^^ y).toNat : Int) := by
  show IntKind.u8.wrap ((BitVec.ofInt 8 (x.toNat : Int) ^^^ BitVec.ofInt 8 (y.toNat : Int)).toNat : Int) = _
  rw [ofIntB, ofIntB, wrapB]
theorem flip_int (c : Byte) (m : Nat) : bits .xor .u8 (c.toNat : Int) (2 ^ (m % 8) % 256) = ((c ^^^ (1#8 <<< (m % 8))).toNat : Int) := by
  have e : (2 ^ (m % 8) % 256 : Int) = ((1#8 <<< (m % 8)).toNat : Int) := by
    have : m % 8 < 8 := by omega
    generalize m % 8 = j at *
    rcases (by omega : j = 0 ∨ j = 1 ∨ j = 2 ∨ j = 3 ∨ j = 4 ∨ j = 5 ∨ j = 6 ∨ j = 7) with rfl | rfl | rfl | rfl | rfl | rfl | rfl | rfl <;> rfl
  rw [e, xorB]
theorem secC_set (s : Sec) {k : Nat} (b : Byte) : (secC s).setIfInBounds k (byteV b) = secC (upd s k b) := by
  apply Array.ext_getElem?
  intro j
  rw [Array.getElem?_setIfInBounds]
  by_cases hj : j < 64
  · have e1 : (secC s)[j]? = some (byteV (s j)) := by simp [secC, secL_get _ hj]
    have e2 : (secC (upd s k b))[j]? = some (byteV (upd s k b j)) := by simp [secC, secL_get _ hj]
    rw [e1, e2]
    by_cases e : k = j
    · subst e
      rw [if_pos rfl, if_pos (by rw [secC_size]; exact hj), upd_same]
    · rw [if_neg e, upd_other _ _ (fun h => e h.symm)]
  · have e1 : (secC s)[j]? = none := Array.getElem?_eq_none (by rw [secC_size]; omega)
    have e2 : (secC (upd s k b))[j]? = none := Array.getElem?_eq_none (by rw [secC_size]; omega)
    rw [e1, e2, secC_size]
    by_cases e : k = j
    · rw [if_pos e, if_neg (by omega)]
    · rw [if_neg e]
theorem flip_set (s : Sec) (m : Nat) : (secC s).setIfInBounds (m / 8) (.int .u8 (bits .xor .u8 ((s (m / 8)).toNat : Int) (2 ^ (m % 8) % 256))) = secC (Pl.flip s m) := by
  rw [flip_int]
  exact secC_set s _
set_option maxRecDepth 10000 in
set_option maxHeartbeats 1000000 in
theorem turn_any (w : World) (q : PLoc) (P : Pl) (h : PlateAt w q P) (i bit : Int) :
    Calls Try.prog 27 #[pv q, .int .i64 i, .int .i64 bit] w fun e w' => e = .returned (.int .i64 (P.turnE i bit)) ∧ PlateAt w' q (P.turn i bit) ∧ Only q.R w w' := by
  have hH := has_any w q P h i
  have H := Lib.hid h
  by_cases h0 : P.has i = 0
  · obtain ⟨hd, h1, h2⟩ := Pl.has_zero h0
    rw [h0] at hH
    have HC := Lib.hid hH
    obtain ⟨k, rfl⟩ : ∃ k : Nat, i = k := ⟨i.toNat, by omega⟩
    have hk : k < P.n := by omega
    have hk4 : k < 4096 := by have := H.out.ok.most; omega
    have HKn := Lib.hid hk
    by_cases hb : bit < 0 ∨ 512 ≤ bit
    · have e1 : P.turnE k bit = 9 := by simp [Pl.turnE, h0, hb]
      have e2 : P.turn k bit = P := by simp [Pl.turn, e1]
      rw [e1, e2]
      clear hH h0 hd h1 h2 hk e1 e2 h
      by_cases hb0 : bit < 0
      · clear hb
        go_enter Try.func27, Try.ntmps27
        go_wp2_with fail
        refine Calls.mono HC.out ?_
        rintro e w' ⟨rfl, rfl⟩
        go_wp2
        go_ret
        exact ⟨rfl, H.out, Only.refl _ _⟩
      · have hb1 : 512 ≤ bit := by omega
        clear hb
        go_enter Try.func27, Try.ntmps27
        go_wp2_with fail
        refine Calls.mono HC.out ?_
        rintro e w' ⟨rfl, rfl⟩
        go_wp2
        go_ret
        exact ⟨rfl, H.out, Only.refl _ _⟩
    · have e1 : P.turnE k bit = 0 := by simp [Pl.turnE, h0, hb]
      obtain ⟨m, rfl⟩ : ∃ m : Nat, bit = m := ⟨bit.toNat, by omega⟩
      have hm : m < 512 := by omega
      have hm8 : m / 8 < 64 := by omega
      have e2 : P.turn k m = P.turned k m := by simp [Pl.turn, e1]
      rw [e1, e2]
      have HS := Lib.hid (seen_any w q P h k hk)
      obtain ⟨s, hs⟩ : ∃ s, s = P.seen k := ⟨_, rfl⟩
      rw [← hs] at HS
      have hset := flip_set s m
      have HSe := Lib.hid hs
      have hc8 : ∀ (w : World), (w.alloc (.cells (secC s) 88)).cell? ⟨w.heap.size, m / 8, none⟩ = some (.int .u8 ((s (m / 8)).toNat : Int)) := fun w => by
        rw [cell_new]
        simp [secC, secL_get _ hm8]
        rfl
      clear hH h0 hd h1 h2 hk hb e1 e2 h hs
      go_enter Try.func27, Try.ntmps27
      go_wp2_with fail
      refine Calls.mono HC.out ?_
      rintro e w' ⟨rfl, rfl⟩
      go_wp2_with fail
      refine Calls.mono HS.out ?_
      rintro e w1 ⟨rfl, hb1⟩
      have HB1 := Lib.hid hb1
      have hc8' := hc8 w1
      have hf8 := frozen_new w1 (secC s) 88 (m / 8)
      clear hb1 hc8
      go_upto_region 7 with (fail)
      go_region
      obtain ⟨t, ht⟩ : ∃ t, t = Pl.flip s m := ⟨_, rfl⟩
      rw [← ht]
      have hP1 := H.out.below HB1.out
      have c0 := hP1.c0
      have c1 := hP1.c1
      have hroom := hP1.room HKn.out
      have hp := hP1.lt _ q.inP
      have hsb := hP1.lt _ q.inS
      have hP3 := ((hP1.setSec HKn.out t).alloc (.cells (secC t) 88)).drew.drew
      obtain ⟨w4, hdel, hm4, hg4⟩ := hP3.mp.drop (t := 60) (e := 88) Try.underlying60 (x := (k : Int)) (Wf.of (by omega) (by omega)) 0
      have hP4 : PlateAt w4 q (P.turned k m) := (hP3.setMap hg4 (f := upd P.waits k none) (by rw [wmap_upd]; exact hm4) (fun j hj => by
        by_cases e : j = k
        · rw [e, upd_same]
        · rw [upd_other _ _ e]; exact hP3.ok.waits j hj)).congr rfl (fun i hi => by rw [ht, HSe.out]; rfl) rfl rfl rfl rfl rfl
      have hO4 : Only q.R w w4 := (((((Only.of_below HB1.out).setCells q.inS _ _).new _).drew).drew).trans (Only.of_grown hg4 q.inM)
      have hn := HKn.out
      obtain ⟨n, hnn⟩ : ∃ n, n = P.n := ⟨_, rfl⟩
      rw [← hnn] at c0 hn
      have HP4 := Lib.hid hP4
      have HO4 := Lib.hid hO4
      have hmb := hP1.lt _ q.inM
      have hps : q.p ≠ q.sb := hP1.ne
      have c1' := hP3.c1
      clear hc8' hf8 hset hP1 hP3 hP4 hO4 hm4 hg4 ht hnn
      go_wp2_with fail
      go_region
      go_wp2
      go_ret
      exact ⟨rfl, HP4.out, HO4.out⟩
  · have hq := has_nz h0
    have e1 : P.turnE i bit = P.has i := by simp [Pl.turnE, h0]
    have e2 : P.turn i bit = P := by simp [Pl.turn, e1, h0]
    rw [e1, e2]
    obtain ⟨z, hz⟩ : ∃ z, z = P.has i := ⟨_, rfl⟩
    rw [← hz] at hH hq ⊢
    have HC := Lib.hid hH
    clear hH h0 e1 e2 hz h
    go_enter Try.func27, Try.ntmps27
    go_wp2_with fail
    refine Calls.mono HC.out ?_
    rintro e w' ⟨rfl, rfl⟩
    go_wp2
    go_ret
    exact ⟨rfl, H.out, Only.refl _ _⟩
end Go.Proofs.Ytdhidcoglioalaa.Walks
