/-
  What happens to both plates.
  What happens to both plates: the walk.
-/
import Derived.Test.YtdhidcoglioalaaGreatM44
namespace Go.Proofs.YtdhidcoglioalaaGreat.Walks
open Go.RowKit Plain Jn
set_option linter.unusedVariables false
/-- Both, beside a deed. -/
structure BD (sp : Sp) (w0 w : World) (x : Nat) (q : PLoc) (r : RLoc) (o : Option (JLoc × Nat)) (J : Jn) (P P' : Pl) (g : Nat) (a : Array Value) : Prop where
  t : BT sp w0 w x q r o J J P P'
  d : ∀ i v, a[i]? = some v → w.cell? ⟨g, i, none⟩ = some v
  nq : g ∉ q.R
  nr : g ∉ r.R
section
variable {sp : Sp} {w0 w w' : World} {x m g n : Nat} {a : Array Value} {q : PLoc} {r : RLoc} {j : JLoc} {o : Option (JLoc × Nat)} {J J' J2 : Jn} {P P' P2 : Pl}
theorem BD.below (h : BD sp w0 w x q r o J P P' g a) (hb : Below w.heap.size w w') : BD sp w0 w' x q r o J P P' g a := ⟨h.t.below hb, fun i v k => keepc hb (h.d i v k), h.nq, h.nr⟩
theorem BD.first (h : BD sp w0 w x q r o J P P' g a) (hp : PlateAt w' q P2) (ho : Only q.R w w') (hn : P2.n = P.n) : BD sp w0 w' x q r o J P2 P' g a := ⟨h.t.first hp ho hn, fun i v k => ho.cell h.nq (h.d i v k), h.nq, h.nr⟩
theorem BD.second (h : BD sp w0 w x q r o J P P' g a) (hp : RefAt w' r P2) (ho : Only r.R w w') (hn : P2.n = P'.n) : BD sp w0 w' x q r o J P P2 g a := ⟨h.t.second hp ho hn, fun i v k => ho.cell h.nr (h.d i v k), h.nq, h.nr⟩
theorem BD.c0 (h : BD sp w0 w x q r o J P P' g a) : w.cell? ⟨x, 0, none⟩ = some (pv q) := h.t.bn.c0
theorem BD.c2 (h : BD sp w0 w x q r o J P P' g a) : w.cell? ⟨x, 2, none⟩ = some (rv r) := h.t.bn.c2
theorem crash_n (P : Pl) (k : List Bool) : (P.crash k).n = P.n := by unfold Pl.crash; split <;> rfl
theorem fail_n (P : Pl) (i : Int) (k : List Bool) : (P.fail i k).n = P.n := by unfold Pl.fail; split <;> rfl
theorem turn_n (P : Pl) (i b : Int) : (P.turn i b).n = P.n := by unfold Pl.turn; split <;> rfl
theorem write_pn (P : Pl) (i : Int) (l : List Byte) : (P.write i l).n = P.n := by
  unfold Pl.write
  split
  · rfl
  · split
    · rfl
    · split
      · exact Pl.did_n P
      · exact Pl.did_n P
/-- Bools, bytes that lay there ahead of both. -/
structure Old (w0 : World) (ka : Option Addr) (kc : Nat) (K : List Bool) (ba : Option Addr) (bc : Nat) (B : List Byte) : Prop where
  k : Bools w0 ka K
  kn : ka = none → kc = 0
  b : Bys w0 ba B
  bn : ba = none → bc = 0
  bl : B.length ≤ 64
theorem old_out {R : List Nat} {ka : Option Addr} {K : List Bool} (h : Bools w0 ka K) (hR : ∀ b ∈ R, w0.heap.size ≤ b) : K ≠ [] → ∀ ad, ka = some ad → ad.block ∉ R := fun h0 ad e hm => by
  rcases h.2 with h1 | ⟨b, off, e2, hc⟩
  · exact h0 h1
  · rw [e] at e2
    cases e2
    have h3 := block_lt_of_cell (hc 0 (List.length_pos_iff.2 h0))
    have h4 := hR _ hm
    simp only at h3 h4
    omega
theorem old_bools {ka : Option Addr} {K : List Bool} (h : Bools w0 ka K) (hb : Below w0.heap.size w0 w) : Bools w ka K := h.below hb
section
variable {ka ba : Option Addr} {kc bc : Nat} {K : List Bool} {B : List Byte}
theorem d_crash (hO : Old w0 ka kc K ba bc B) (h : BD sp w0 w x q r o J P P' g a) : Calls Tryz.prog 73 #[pv q, .slice ka K.length kc] w fun e w' => (∃ u, e = .returned u) ∧ BD sp w0 w' x q r o J (P.crash K) P' g a := by
  refine Calls.mono (crash_any w q P h.t.bn.mix.pl ka K kc (old_bools hO.k h.t.bn.mix.be) (old_out hO.k h.t.bn.mix.ge)) ?_
  rintro e w' ⟨rfl, hp, ho⟩
  exact ⟨⟨_, rfl⟩, h.first hp ho (crash_n _ _)⟩
theorem e_crash (hO : Old w0 ka kc K ba bc B) (h : BD sp w0 w x q r o J P P' g a) : Calls Tryz.prog 74 #[rv r, .slice ka K.length kc] w fun e w' => (∃ u, e = .returned u) ∧ BD sp w0 w' x q r o J P (P'.crash K) g a := by
  refine Calls.mono (rf_crash w r P' h.t.bn.mix.rf ka K kc (old_bools hO.k h.t.bn.mix.be) (old_out hO.k h.t.bn.mix.ge')) ?_
  rintro e w' ⟨rfl, hp, ho⟩
  exact ⟨⟨_, rfl⟩, h.second hp ho (crash_n _ _)⟩
theorem d_fail (hO : Old w0 ka kc K ba bc B) (h : BD sp w0 w x q r o J P P' g a) (i : Int) (hi : 0 ≤ i ∧ i < 40) : Calls Tryz.prog 43 #[pv q, .int .i64 i, .slice ka K.length kc] w fun e w' => (∃ u, e = .returned u) ∧ BD sp w0 w' x q r o J (P.fail i K) P' g a := by
  refine Calls.mono (fail_any w q P h.t.bn.mix.pl i (by omega) ka K kc (old_bools hO.k h.t.bn.mix.be) hO.kn) ?_
  rintro e w' ⟨rfl, hp, ho⟩
  exact ⟨⟨_, rfl⟩, h.first hp ho (fail_n _ _ _)⟩
theorem e_fail (hO : Old w0 ka kc K ba bc B) (h : BD sp w0 w x q r o J P P' g a) (i : Int) (hi : 0 ≤ i ∧ i < 40) : Calls Tryz.prog 75 #[rv r, .int .i64 i, .slice ka K.length kc] w fun e w' => (∃ u, e = .returned u) ∧ BD sp w0 w' x q r o J P (P'.fail i K) g a := by
  refine Calls.mono (rf_fail w r P' h.t.bn.mix.rf i (by omega) ka K kc (old_bools hO.k h.t.bn.mix.be) hO.kn (old_out hO.k h.t.bn.mix.ge')) ?_
  rintro e w' ⟨rfl, hp, ho⟩
  exact ⟨⟨_, rfl⟩, h.second hp ho (fail_n _ _ _)⟩
end
theorem d_turn (h : BD sp w0 w x q r o J P P' g a) (i b : Int) : Calls Tryz.prog 76 #[pv q, .int .i64 i, .int .i64 b] w fun e w' => (∃ u, e = .returned u) ∧ BD sp w0 w' x q r o J (P.turn i b) P' g a := by
  refine Calls.mono (turn_any w q P h.t.bn.mix.pl i b) ?_
  rintro e w' ⟨rfl, hp, ho⟩
  exact ⟨⟨_, rfl⟩, h.first hp ho (turn_n _ _ _)⟩
theorem e_turn (h : BD sp w0 w x q r o J P P' g a) (i b : Int) : Calls Tryz.prog 77 #[rv r, .int .i64 i, .int .i64 b] w fun e w' => (∃ u, e = .returned u) ∧ BD sp w0 w' x q r o J P (P'.turn i b) g a := by
  refine Calls.mono (rf_turn w r P' h.t.bn.mix.rf i b) ?_
  rintro e w' ⟨rfl, hp, ho⟩
  exact ⟨⟨_, rfl⟩, h.second hp ho (turn_n _ _ _)⟩
/-- Bytes in a block that is none of the plates'. -/
structure Apart (w : World) (q : PLoc) (r : RLoc) (gb : Nat) (l : List Byte) : Prop where
  b : Bys w (some ⟨gb, 0, none⟩) l
  n : l.length = 64
  nq : gb ∉ q.R
  nr : gb ∉ r.R
theorem Apart.only {R : List Nat} {gb : Nat} {l : List Byte} (h : Apart w q r gb l) (ho : Only R w w') (hn : gb ∉ R) : Apart w' q r gb l := ⟨h.b.only ho (fun ad e => by cases e; exact hn), h.n, h.nq, h.nr⟩
theorem Apart.below {gb : Nat} {l : List Byte} (h : Apart w q r gb l) (hb : Below w.heap.size w w') : Apart w' q r gb l := ⟨h.b.below hb, h.n, h.nq, h.nr⟩
theorem d_write (h : BD sp w0 w x q r o J P P' g a) (i : Int) {gb : Nat} {l : List Byte} (hA : Apart w q r gb l) : Calls Tryz.prog 29 #[pv q, .int .i64 i, .slice (some ⟨gb, 0, none⟩) 64 64] w fun e w' => (∃ u, e = .returned u) ∧ BD sp w0 w' x q r o J (P.write i l) P' g a ∧ Apart w' q r gb l := by
  refine Calls.mono (write_n w q P h.t.bn.mix.pl i (some ⟨gb, 0, none⟩) l 64 64 hA.n hA.b (fun _ ad e => by cases e; exact hA.nq)) ?_
  rintro e w' ⟨rfl, hp, ho⟩
  exact ⟨⟨_, rfl⟩, h.first hp ho (write_pn _ _ _), hA.only ho hA.nq⟩
theorem e_write (h : BD sp w0 w x q r o J P P' g a) (i : Int) {gb : Nat} {l : List Byte} (hA : Apart w q r gb l) : Calls Tryz.prog 78 #[rv r, .int .i64 i, .slice (some ⟨gb, 0, none⟩) 64 64] w fun e w' => (∃ u, e = .returned u) ∧ BD sp w0 w' x q r o J P (P'.write i l) g a := by
  have hc := rf_write w r P' h.t.bn.mix.rf i (some ⟨gb, 0, none⟩) l 64 hA.b (fun e => by cases e) (fun _ ad e => by cases e; exact hA.nr)
  rw [hA.n] at hc
  refine Calls.mono hc ?_
  rintro e w' ⟨rfl, hp, ho⟩
  exact ⟨⟨_, rfl⟩, h.second hp ho (write_pn _ _ _)⟩
end
end Go.Proofs.YtdhidcoglioalaaGreat.Walks
namespace Go.Proofs.YtdhidcoglioalaaGreat.Walks
open Go.RowKit Plain Jn
set_option linter.unusedVariables false
section
variable {sp : Sp} {w0 w w' : World} {x m g n : Nat} {a : Array Value} {q : PLoc} {r : RLoc} {j : JLoc} {o : Option (JLoc × Nat)} {J J' J2 : Jn} {P P' P2 : Pl}
theorem crash_sure {P : Pl} (h : P.fails = false) (k : List Bool) : (P.crash k).fails = false := by
  unfold Pl.crash
  split
  · exact h
  · rfl
theorem turn_sure {P : Pl} (h : P.fails = false) (i b : Int) : (P.turn i b).fails = false := by
  unfold Pl.turn
  split
  · exact h
  · exact h
theorem copy_any {gb bl : Nat} {ba : Option Addr} {bc : Nat} {B : List Byte} (hg : w.heap[gb]? = some (.cells (secC zeroS) 5 (0, 0))) (hB : Bys w ba B) (hn : ba = none → bc = 0) (hl : B.length = bl) (h64 : bl ≤ 64) :
    ∃ w2 l, (Builtin.copy_ #[23, 23] 3 #[.slice (some ⟨gb, 0, none⟩) 64 64, .slice ba bl bc]).run Tryz.prog w = .ok (.int .i64 (bl : Int)) w2 ∧ Only [gb] w w2 ∧ Bys w2 (some ⟨gb, 0, none⟩) l ∧ l.length = 64 := by
  cases ba with
  | none =>
    have h0 := hn rfl
    subst h0
    have hB0 : B = [] := by
      rcases hB.2 with h | ⟨b, off, h, _⟩
      · exact h
      · cases h
    subst hB0
    simp only [List.length_nil] at hl
    subst hl
    refine ⟨w, bytesOf zeroS, ?_, Only.refl _ _, bys_sec hg, bytesOf_length _⟩
    exact run_copy_nil Tryz.prog w 23 23 3 5 ⟨gb, 0, none⟩ 64 64 Tryz.underlying23 (by have := info5s; cases h : (Tryz.prog.info? 5).map (·.size) with | none => rw [h] at this; cases this | some v => rfl)
  | some ad =>
    have hz : ∀ i, i < 64 → w.cell? ⟨gb, i, none⟩ = some (byteV 0) := fun i hi => by
      rw [cell_of_row _ _ _ _ _ _ hg]
      unfold secC
      rw [List.getElem?_toArray, secL_get _ hi]
      rfl
    have hfz : ∀ i, w.frozen? ⟨gb, i, none⟩ = false := fun i => by unfold World.frozen?; simp only [hg]; simp
    have hcs : ∀ (k : Nat) (v : Value), (B.map byteV)[k]? = some v → w.cell? (ad.add k) = some v := fun k v hv => by
      rcases hB.2 with h | ⟨b, off, h, hc⟩
      · rw [h] at hv; simp at hv
      · cases h
        have hk : k < B.length := by
          have := (List.getElem?_eq_some_iff.1 hv).1
          simpa using this
        rw [List.getElem?_map, List.getElem?_eq_getElem hk] at hv
        simp only [Option.map_some, Option.some.injEq] at hv
        rw [Addr.add_mid, ← hv]
        exact hc k hk
    have hrun := run_copy_cells (P := Tryz.prog) w 23 23 3 5 gb 0 64 64 ad bl bc (B.map byteV) Tryz.underlying23 info5s (by rw [List.length_map, hl]; exact (Nat.min_eq_left h64).symm) hcs
      (fun k hk => by rw [List.length_map] at hk; rw [Nat.zero_add, hz k (by omega)]; rfl) (fun k hk => hfz _) (byteV_one _)
    rw [List.length_map, hl] at hrun
    refine ⟨_, B ++ List.replicate (64 - bl) 0, hrun, Only.setCells (by simp) _ _ (Only.refl _ _), ⟨by simp; omega, .inr ⟨gb, 0, rfl, fun i hi => ?_⟩⟩, by simp; omega⟩
    have hi64 : i < 64 := by simp at hi; omega
    by_cases hib : i < B.length
    · rw [World.cell?_setCells_in gb (B.map byteV) 0 w (fun k hk => by rw [List.length_map] at hk; rw [Nat.zero_add, hz k (by omega)]; rfl) i (by simpa using hib)]
      rw [List.getElem_append_left hib, List.getElem_map]
    · rw [World.cell?_setCells_out gb (B.map byteV) 0 w _ (fun _ _ => .inr (by simp; omega)), Nat.zero_add, hz i hi64, List.getElem_append_right (by omega), List.getElem_replicate]
set_option maxRecDepth 20000 in
set_option maxHeartbeats 8000000 in
theorem outside_a (h : BT sp w0 w x q r o J J P P) (hdw : DW P) (s : Nat) (S : Prop) (hS : S → Sure P) (hJ : o ≠ none → JBd J s) {kd A bit : Int} {la ka ba : Option Addr} {ln lc kc bc : Nat} {K : List Bool} {B : List Byte} (hO : Old w0 ka kc K ba bc B) (hA : -9223372036854775808 ≤ A ∧ A ≤ 9223372036854775807)
    (h4 : S → kd % 9 ≠ 4) (h8 : kd % 9 = 8 → S) (h3 : 3 ≤ kd % 9) (h5 : kd % 9 ≤ 5) {kl bl : Nat} (hkl : K.length = kl) (hbl : B.length = bl) :
    Calls Tryz.prog 59 #[xv x, .agg #[.int .i64 kd, .int .i64 A, .int .i64 bit, .slice la ln lc, .slice ka kl kc, .slice ba bl bc]] w fun e w' => e = .returned (.bool true) ∧ All sp w0 w' x s S P.n := by
  subst hkl
  obtain ⟨n, hn⟩ : ∃ n, n = P.n := ⟨_, rfl⟩
  rw [← hn]
  obtain ⟨kl, hkl⟩ : ∃ kl, kl = K.length := ⟨_, rfl⟩
  have HN := Lib.hid hn
  have HO := Lib.hid hO
  have HS := Lib.hid hS
  have HJ := Lib.hid hJ
  have H := Lib.hid h
  have HDw := Lib.hid hdw
  have HBr := Lib.hid (bring_any kd 9)
  obtain ⟨kk, hkk⟩ : ∃ kk : Nat, kd % 9 = kk := ⟨(kd % 9).toNat, by omega⟩
  have hk5 : kk ≤ 5 := by omega
  have hk3 : 3 ≤ kk := by omega
  have HK := Lib.hid hkk
  have H4 := Lib.hid h4
  have H8 := Lib.hid h8
  have HA := Lib.hid hA
  have HKl := Lib.hid hkl
  have HBl := Lib.hid hbl
  have hbl4 : bl ≤ 64 := by rw [← hbl]; exact hO.bl
  have hkl4 : kl ≤ 140737488355328 := by rw [hkl]; exact hO.k.1
  rw [← hkl]
  clear hn hO hS hJ h hdw hkk h4 h8 hA hkl hbl h3 h5
  go_enter Tryz.func59, Tryz.ntmps59
  go_upto_region 1 with (fail)
  obtain ⟨a, ha⟩ : ∃ a, a = #[Value.int .i64 kd, .int .i64 A, .int .i64 bit, .slice la ln lc, .slice ka kl kc, .slice ba bl bc] := ⟨_, rfl⟩
  obtain ⟨wa, hwa⟩ : ∃ x, x = w.alloc (.cells #[.int .i64 kd, .int .i64 A, .int .i64 bit, .slice la ln lc, .slice ka kl kc, .slice ba bl bc] 43) := ⟨_, rfl⟩
  have hba : Below w.heap.size w wa := by rw [hwa]; exact Below.new _ _
  obtain ⟨g, hg⟩ : ∃ g, g = w.heap.size := ⟨_, rfl⟩
  have hB0 : BD sp w0 wa x q r o J P P g a := ⟨H.out.below hba, fun i v k => by rw [hg, hwa, cell_new, ← ha]; exact k, fun hm => by have := H.out.bn.mix.pl.lt _ hm; omega, fun hm => by have := H.out.bn.mix.rf.x.lt _ hm; omega⟩
  have t0 : wa.cell? ⟨g, 0, none⟩ = some (.int .i64 kd) := hB0.d 0 _ (by rw [ha]; rfl)
  have HCs : Hid (∀ {P P' : Pl} {w' : World}, BD sp w0 w' x q r o J P P' g a → w'.cell? ⟨g, 1, none⟩ = some (.int .i64 A) ∧ w'.cell? ⟨g, 2, none⟩ = some (.int .i64 bit) ∧ w'.cell? ⟨g, 4, none⟩ = some (.slice ka kl kc) ∧ w'.cell? ⟨g, 5, none⟩ = some (.slice ba bl bc)) := Lib.hid fun h => ⟨h.d 1 _ (by rw [ha]; rfl), h.d 2 _ (by rw [ha]; rfl), h.d 4 _ (by rw [ha]; rfl), h.d 5 _ (by rw [ha]; rfl)⟩
  have HB := Lib.hid hB0
  rw [← hg, ← hwa]
  clear hwa hba hg ha hB0
  go_wp2_with fail
  refine Calls.mono (HBr.out wa (by decide) (by decide)) ?_
  rintro e wx ⟨rfl, rfl⟩
  rw [HK.out]
  obtain ⟨t1, t2, t4, t5⟩ := HCs.out HB.out
  have s0 := HB.out.c0
  have s2 := HB.out.c2
  rcases (by omega : kk = 3 ∨ kk = 4 ∨ kk = 5) with rfl | rfl | rfl
  · skip
    have HOp : Hid (∀ w', BD sp w0 w' x q r o J (P.crash K) (P.crash K) g a → Calls Tryz.prog 83 #[xv x] w' fun e w'' => e = .returned (.bool true) ∧ All sp w0 w'' x s S n) := Lib.hid fun w' h => by
      have := open_is h.t.bn (dw_crash HDw.out K) s S (fun k => crash_sure (HS.out k).1 K)
      rw [crash_n, ← HN.out] at this
      exact this
    go_upto_region 3 with (fail)
    have HC : Hid (∀ w', Below wa.heap.size wa w' → Calls Tryz.prog 73 #[pv q, .slice ka kl kc] w' fun e w'' => (∃ u, e = .returned u) ∧ BD sp w0 w'' x q r o J (P.crash K) P g a) := Lib.hid fun w' hb => by rw [HKl.out]; exact d_crash HO.out (HB.out.below hb)
    have hS : Below wa.heap.size wa wa := Below.refl _ _
    go_cut [] from 15 to 21 (fun wx => Hid (BD sp w0 wx x q r o J (P.crash K) P g a))
    case first =>
      go_region_with ((go_at_call 73; ((with_reducible refine Calls.mono (HC.out _ ?_) ?_); (first | with_reducible exact hS | with_reducible exact Below.drew hS | with_reducible exact Below.step hS (Below.new _ _) | with_reducible exact Below.step (Below.drew hS) (Below.new _ _) | with_reducible exact Below.drew (Below.step hS (Below.new _ _))); rintro e w' ⟨⟨u, rfl⟩, hb⟩; have HB1 := Lib.hid hb; clear hb)))
      all_goals
        go_wp2
        go_meet
        exact HB1
    case rest =>
      have HB1 := hcut
      clear hcut HC hS HB t1 t2 t4 t5 s0 s2
      obtain ⟨t1, t2, t4, t5⟩ := HCs.out HB1.out
      have s0 := HB1.out.c0
      have s2 := HB1.out.c2
      have HC : Hid (∀ w', Below wc.heap.size wc w' → Calls Tryz.prog 74 #[rv r, .slice ka kl kc] w' fun e w'' => (∃ u, e = .returned u) ∧ BD sp w0 w'' x q r o J (P.crash K) (P.crash K) g a) := Lib.hid fun w' hb => by rw [HKl.out]; exact e_crash HO.out (HB1.out.below hb)
      have hS : Below wc.heap.size wc wc := Below.refl _ _
      go_wp2_with fail
      go_region_with ((go_at_call 74; ((with_reducible refine Calls.mono (HC.out _ ?_) ?_); (first | with_reducible exact hS | with_reducible exact Below.drew hS | with_reducible exact Below.step hS (Below.new _ _) | with_reducible exact Below.step (Below.drew hS) (Below.new _ _) | with_reducible exact Below.drew (Below.step hS (Below.new _ _))); rintro e w' ⟨⟨u, rfl⟩, hb⟩; have HB2 := Lib.hid hb; clear hb)))
      all_goals
        go_wp2_with fail
        refine Calls.mono (HOp.out _ HB2.out) ?_
        rintro e w3 ⟨rfl, hall⟩
        have HAl := Lib.hid hall
        clear hall
        go_wp2
        go_ret
        exact ⟨rfl, HAl.out⟩
  · skip
    obtain ⟨z, hz⟩ : ∃ z, z = A % 40 := ⟨_, rfl⟩
    have hz4 : 0 ≤ z ∧ z < 40 := by omega
    have HB40 := Lib.hid (bring_any A 40)
    rw [← hz] at HB40
    have HZ := Lib.hid hz4
    clear hz hz4
    go_upto_region 6 with (fail)
    have HC : Hid (∀ w', Below wa.heap.size wa w' → Calls Tryz.prog 43 #[pv q, .int .i64 z, .slice ka kl kc] w' fun e w'' => (∃ u, e = .returned u) ∧ BD sp w0 w'' x q r o J (P.fail z K) P g a) := Lib.hid fun w' hb => by rw [HKl.out]; exact d_fail HO.out (HB.out.below hb) z HZ.out
    have hS : Below wa.heap.size wa wa := Below.refl _ _
    go_cut [] from 31 to 40 (fun wx => Hid (BD sp w0 wx x q r o J (P.fail z K) P g a))
    case first =>
      go_region_with ((first | (go_at_call 43; ((with_reducible refine Calls.mono (HC.out _ ?_) ?_); (first | with_reducible exact hS | with_reducible exact Below.drew hS | with_reducible exact Below.step hS (Below.new _ _) | with_reducible exact Below.step (Below.drew hS) (Below.new _ _) | with_reducible exact Below.drew (Below.step hS (Below.new _ _))); rintro e w' ⟨⟨u, rfl⟩, hb⟩; have HB1 := Lib.hid hb; clear hb)) | (go_at_call 36; ((with_reducible refine Calls.mono (HB40.out _ (by decide) (by decide)) ?_); rintro e w' ⟨rfl, rfl⟩))))
      all_goals
        go_wp2
        go_meet
        exact HB1
    case rest =>
      have HB1 := hcut
      clear hcut HC hS HB t1 t2 t4 t5 s0 s2
      obtain ⟨t1, t2, t4, t5⟩ := HCs.out HB1.out
      have s0 := HB1.out.c0
      have s2 := HB1.out.c2
      have HC : Hid (∀ w', Below wc.heap.size wc w' → Calls Tryz.prog 75 #[rv r, .int .i64 z, .slice ka kl kc] w' fun e w'' => (∃ u, e = .returned u) ∧ BD sp w0 w'' x q r o J (P.fail z K) (P.fail z K) g a) := Lib.hid fun w' hb => by rw [HKl.out]; exact e_fail HO.out (HB1.out.below hb) z HZ.out
      have hS : Below wc.heap.size wc wc := Below.refl _ _
      go_wp2_with fail
      go_region_with ((first | (go_at_call 75; ((with_reducible refine Calls.mono (HC.out _ ?_) ?_); (first | with_reducible exact hS | with_reducible exact Below.drew hS | with_reducible exact Below.step hS (Below.new _ _) | with_reducible exact Below.step (Below.drew hS) (Below.new _ _) | with_reducible exact Below.drew (Below.step hS (Below.new _ _))); rintro e w' ⟨⟨u, rfl⟩, hb⟩; have HB2 := Lib.hid hb; clear hb)) | (go_at_call 36; ((with_reducible refine Calls.mono (HB40.out _ (by decide) (by decide)) ?_); rintro e w' ⟨rfl, rfl⟩))))
      all_goals
        go_wp2
        go_ret
        exact ⟨rfl, q, r, o, J, P.fail z K, HB2.out.t, dw_fail HDw.out z K, fun k => absurd HK.out (H4.out k), by rw [fail_n]; exact HN.out.symm, HJ.out⟩
  · skip
    have HOp : Hid (∀ w', BD sp w0 w' x q r o J (P) (P) g a → Calls Tryz.prog 83 #[xv x] w' fun e w'' => e = .returned (.bool true) ∧ All sp w0 w'' x s S n) := Lib.hid fun w' h => by
      have := open_is h.t.bn (HDw.out) s S (fun k => (HS.out k).1)
      rw [← HN.out] at this
      exact this
    have HB2 := HB
    go_wp2_with fail
    refine Calls.mono (HOp.out _ HB2.out) ?_
    rintro e w3 ⟨rfl, hall⟩
    have HAl := Lib.hid hall
    clear hall
    go_wp2
    go_ret
    exact ⟨rfl, HAl.out⟩
end
end Go.Proofs.YtdhidcoglioalaaGreat.Walks
