/-
  A plate is written, flushed, a bit of it is turned.
-/
import Derived.Test.YtdhidcoglioalaaPlateC
namespace Go.Proofs.Ytdhidcoglioalaa.Walks
open Go.RowKit Plain
set_option linter.unusedVariables false
attribute [local go_sem ↓] exec_load88 exec_store88 exec_alloc88
attribute [local go_sem] isPt_mk adOf_mk isSec_mk sOf_mk alloc_setCells is_new at_new room_new is_past at_past room_past is_drew at_drew room_drew setCells_past setCells_size setCells_drew

/-- Bytes lie in memory. -/
def Bys (w : World) (a : Option Addr) (l : List Byte) : Prop :=
  l.length ≤ 140737488355328 ∧ (l = [] ∨ ∃ b off, a = some ⟨b, off, none⟩ ∧ ∀ i (h : i < l.length), w.cell? ⟨b, off + i, none⟩ = some (byteV l[i]))
theorem Bys.nil (w : World) (a : Option Addr) : Bys w a [] := ⟨by simp, .inl rfl⟩
theorem Bys.of {w w' : World} {a : Option Addr} {l : List Byte} (h : Bys w a l) (hc : ∀ ad v, w.cell? ad = some v → w'.cell? ad = some v) : Bys w' a l := by
  refine ⟨h.1, ?_⟩
  rcases h.2 with rfl | ⟨b, off, rfl, hh⟩
  · exact .inl rfl
  · exact .inr ⟨b, off, rfl, fun i hi => hc _ _ (hh i hi)⟩
theorem Bys.below {w w' : World} {a : Option Addr} {l : List Byte} (h : Bys w a l) (hb : Below w.heap.size w w') : Bys w' a l := h.of fun _ _ hc => keepc hb hc
theorem Bys.only {w w' : World} {R : List Nat} {a : Option Addr} {l : List Byte} (h : Bys w a l) (ho : Only R w w') (hn : ∀ ad, a = some ad → ad.block ∉ R) : Bys w' a l := by
  refine ⟨h.1, ?_⟩
  rcases h.2 with rfl | ⟨b, off, rfl, hh⟩
  · exact .inl rfl
  · exact .inr ⟨b, off, rfl, fun i hi => ho.cell (hn ⟨b, off, none⟩ rfl) (hh i hi)⟩
theorem Bys.at_lt {w : World} {a : Option Addr} {l : List Byte} (h : Bys w a l) {i : Nat} (hi : i < l.length) :
    ∃ b off, a = some ⟨b, off, none⟩ ∧ b < w.heap.size ∧ ∀ i (h : i < l.length), w.cell? ⟨b, off + i, none⟩ = some (byteV l[i]) := by
  rcases h.2 with rfl | ⟨b, off, e, hc⟩
  · simp at hi
  · exact ⟨b, off, e, block_lt_of_cell (hc i hi), hc⟩
theorem Bys.sec {w : World} {b off : Nat} {l : List Byte} (h : Bys w (some ⟨b, off, none⟩) l) (hl : l.length = 64) : Sec88 w ⟨b, off, none⟩ (secOf l) := by
  obtain ⟨b', off', e, _, hc⟩ := h.at_lt (i := 0) (by omega)
  cases e
  refine ⟨rfl, fun j v hv => ?_⟩
  have hj : j < 64 := by
    have := (List.getElem?_eq_some_iff.1 hv).1
    rwa [secL_length] at this
  rw [secL_get _ hj] at hv
  rw [← hv, show (⟨b, off, none⟩ : Addr).off = off from rfl, show (⟨b, off, none⟩ : Addr).block = b from rfl, hc j (by omega)]
  simp [secOf, List.getD_eq_getElem?_getD, List.getElem?_eq_getElem (show j < l.length by omega)]
theorem did_waits (P : Pl) (h : P.goes = false) : P.did.waits = P.waits ∧ P.did.n = P.n := by
  unfold Pl.goes at h
  unfold Pl.did
  cases hf : P.fails
  · simp
  · by_cases hl : 0 < P.left
    · simp [hl]
    · simp [hf, hl] at h
theorem arrayAt88 (w : World) (ad : Addr) (cap : Nat) : (Instr.arrayAt 88 (.slice (some ad) 64 cap)).run Try.prog w = .ok (.pointer (some ad)) w := by
  simp [Instr.arrayAt, run_underlying Try.underlying88]
set_option maxRecDepth 10000 in
theorem write_any (w : World) (q : PLoc) (P : Pl) (h : PlateAt w q P) (i : Int) (a : Option Addr) (l : List Byte) (cap : Nat) (hB : Bys w a l) (hdis : l ≠ [] → ∀ ad, a = some ad → ad.block ∉ q.R) :
    Calls Try.prog 23 #[pv q, .int .i64 i, .slice a l.length cap] w fun e w' => e = .returned (.int .i64 (P.writeE i l)) ∧ PlateAt w' q (P.write i l) ∧ Only q.R w w' := by
  have hH := has_any w q P h i
  have HD := Lib.hid (doing_any w q P h)
  have H := Lib.hid h
  have HB := Lib.hid hB
  have HDis := Lib.hid hdis
  clear h hB hdis
  by_cases h0 : P.has i = 0
  · obtain ⟨hd, h1, h2⟩ := Pl.has_zero h0
    rw [h0] at hH
    have HC := Lib.hid hH
    obtain ⟨k, rfl⟩ : ∃ k : Nat, i = k := ⟨i.toNat, by omega⟩
    have hk : k < P.n := by omega
    have hk4 : k < 4096 := by have := H.out.ok.most; omega
    have HKn := Lib.hid hk
    by_cases hl : l.length = 64
    · cases hg : P.goes
      · have e1 : P.writeE k l = 0 := by simp [Pl.writeE, h0, hl, hg]
        have e2 : P.write k l = { P.did with waits := upd P.did.waits k (some (secOf l)) } := by simp [Pl.write, h0, hl, hg]
        have e3 : doE P = 0 := by simp [doE, hg]
        obtain ⟨e4, e5⟩ := did_waits P hg
        have HE5 := Lib.hid e5
        rw [e3] at HD
        obtain ⟨b, off, rfl, _, _⟩ := HB.out.at_lt (i := 0) (by omega)
        have HL := Lib.hid hl
        rw [e1, e2, hl]
        clear hH h0 hd h1 h2 hk hl hg e1 e2 e3 e4 e5
        go_enter Try.func23, Try.ntmps23
        go_wp2_with fail
        refine Calls.mono HC.out ?_
        rintro e w' ⟨rfl, rfl⟩
        go_wp2_with fail
        refine Calls.mono HD.out ?_
        rintro e w1 ⟨rfl, hP, hO⟩
        have hB1 := HB.out.only hO (HDis.out (List.ne_nil_of_length_pos (by have := HL.out; omega)))
        have hs := hB1.sec HL.out
        have his := hs.is
        have hac := hs.atC
        have c1 := hP.c1
        obtain ⟨w2, hmu, hm2, hg2⟩ := hP.drew.mp.store (t := 60) (e := 88) (N := P.did.n) Try.underlying60 hP.bound (by have := hP.ok.most; unfold maxLen; omega) (x := (k : Int)) (v := .agg (secC (secOf l))) (Wf.of (by omega) (by omega)) ⟨_, rfl⟩
        have h2 : PlateAt w2 q { P.did with waits := upd P.did.waits k (some (secOf l)) } := hP.drew.setMap hg2 (by rw [wmap_upd]; exact hm2) (fun j hj => by
          rw [upd_other _ _ (by have h1 := HKn.out; have h2 := HE5.out; omega)]
          exact hP.ok.waits j hj)
        have H2 := Lib.hid h2
        have HO2 := Lib.hid (hO.drew.trans (Only.of_grown hg2 q.inM))
        clear hP hO hB1 hs hm2 hg2 h2
        have hat := arrayAt88 w1.drew ⟨b, off, none⟩ cap
        go_wp2_with fail
        go_region
        go_wp2
        go_ret
        exact ⟨rfl, H2.out, HO2.out⟩
      · have e1 : P.writeE k l = 50 := by simp [Pl.writeE, h0, hl, hg]
        have e2 : P.write k l = P.did := by simp [Pl.write, h0, hl, hg]
        have e3 : doE P = 50 := by simp [doE, hg]
        rw [e3] at HD
        rw [e1, e2, hl]
        clear hH h0 hd h1 h2 hk hl hg e1 e2 e3
        go_enter Try.func23, Try.ntmps23
        go_wp2_with fail
        refine Calls.mono HC.out ?_
        rintro e w' ⟨rfl, rfl⟩
        go_wp2_with fail
        refine Calls.mono HD.out ?_
        rintro e w1 ⟨rfl, hP, hO⟩
        have HP := Lib.hid hP
        have HO := Lib.hid hO
        clear hP hO
        go_wp2
        go_ret
        exact ⟨rfl, HP.out, HO.out⟩
    · have e1 : P.writeE k l = 2 := by simp [Pl.writeE, h0, hl]
      have e2 : P.write k l = P := by simp [Pl.write, h0, hl]
      have hq : ((l.length : Int) != 64) = true := by simp; omega
      rw [e1, e2]
      obtain ⟨n, hn⟩ : ∃ n, n = l.length := ⟨_, rfl⟩
      rw [← hn] at hq ⊢
      clear hH h0 hd h1 h2 hk hl e1 e2 hn
      go_enter Try.func23, Try.ntmps23
      go_wp2_with fail
      refine Calls.mono HC.out ?_
      rintro e w' ⟨rfl, rfl⟩
      go_wp2
      go_ret
      exact ⟨rfl, H.out, Only.refl _ _⟩
  · have hq := has_nz h0
    have e1 : P.writeE i l = P.has i := by simp [Pl.writeE, h0]
    have e2 : P.write i l = P := by simp [Pl.write, h0]
    rw [e1, e2]
    obtain ⟨z, hz⟩ : ∃ z, z = P.has i := ⟨_, rfl⟩
    rw [← hz] at hH hq ⊢
    have HC := Lib.hid hH
    obtain ⟨n, hn⟩ : ∃ n, n = l.length := ⟨_, rfl⟩
    rw [← hn]
    clear hH h0 e1 e2 hz hn
    go_enter Try.func23, Try.ntmps23
    go_wp2_with fail
    refine Calls.mono HC.out ?_
    rintro e w' ⟨rfl, rfl⟩
    go_wp2
    go_ret
    exact ⟨rfl, H.out, Only.refl _ _⟩
end Go.Proofs.Ytdhidcoglioalaa.Walks
