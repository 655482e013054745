/-
  The walk of step: a call of both plates.
-/
import Derived.Test.YtdhidcoglioalaaTwo
namespace Go.Proofs.Ytdhidcoglioalaa.Walks
open Go.RowKit Plain
set_option linter.unusedVariables false

/-- Bytes that may be written over: in a block of X. -/
def PokeB (w : World) (X : List Nat) (a : Option Addr) (n : Nat) : Prop := 0 < n → ∃ g o, a = some ⟨g, o, none⟩ ∧ g ∈ X ∧ ∀ i, i < n → ∃ c : Int, w.cell? ⟨g, o + i, none⟩ = some (.int .u8 c) ∧ w.frozen? ⟨g, o + i, none⟩ = false
def PokeO (w : World) (X : List Nat) (a : Option Addr) (n : Nat) : Prop := 0 < n → ∃ g o, a = some ⟨g, o, none⟩ ∧ g ∈ X ∧ ∀ i, i < n → ∃ c : Bool, w.cell? ⟨g, o + i, none⟩ = some (.bool c) ∧ w.frozen? ⟨g, o + i, none⟩ = false
theorem PokeB.only {w w' : World} {X R : List Nat} {a : Option Addr} {n : Nat} (h : PokeB w X a n) (ho : Only R w w') (hR : ∀ x ∈ X, x ∉ R) : PokeB w' X a n := fun hn => by
  obtain ⟨g, o, e, hX, hc⟩ := h hn
  refine ⟨g, o, e, hX, fun i hi => ?_⟩
  obtain ⟨c, h1, h2⟩ := hc i hi
  exact ⟨c, ho.cell (hR g hX) h1, by unfold World.frozen? at h2 ⊢; simp only [ho.block g (block_lt_of_cell h1) (hR g hX)]; exact h2⟩
theorem PokeO.only {w w' : World} {X R : List Nat} {a : Option Addr} {n : Nat} (h : PokeO w X a n) (ho : Only R w w') (hR : ∀ x ∈ X, x ∉ R) : PokeO w' X a n := fun hn => by
  obtain ⟨g, o, e, hX, hc⟩ := h hn
  refine ⟨g, o, e, hX, fun i hi => ?_⟩
  obtain ⟨c, h1, h2⟩ := hc i hi
  exact ⟨c, ho.cell (hR g hX) h1, by unfold World.frozen? at h2 ⊢; simp only [ho.block g (block_lt_of_cell h1) (hR g hX)]; exact h2⟩

/-- append(nil, l...), of bools: they may be written over. -/
theorem wp_append_nb2 {w : World} {ops : Array Oper} {rest : List Oper} {o : Oper} {a : Act} {Q : Exit → Act → World → Prop} (hgd : o.guard = none) (s x : Operand)
    (ho : o.op = .call { callee := .builtin .append, args := #[s, x], argTypes := #[23, 23] }) (hs : a.eval s = .slice none 0 0)
    (ao : Option Addr) (c : Nat) (l : List Bool) (n : Nat) (hln : l.length = n) (hx : a.eval x = .slice ao n c) (hB : Bools w ao l) (hn : ao = none → c = 0)
    (h : ∀ a' cap' w', Hid (Bools w' a' l ∧ (∀ ad, a' = some ad → w.heap.size ≤ ad.block ∧ ∀ j, w'.frozen? ⟨ad.block, j, none⟩ = false) ∧ (a' = none → cap' = 0)) → Below w.heap.size w w' → wpList Try.prog ops Q rest (a.put o.dst (.slice a' n cap')) w') : wpList Try.prog ops Q (o :: rest) a w := by
  obtain ⟨i0, hi, hz0, hz1, hz2⟩ := info_parts info4
  subst hln
  have hm := hB.1
  have fz : ∀ {w' : World} {a' : Option Addr} {cap' : Nat}, OwnBo w' w.heap.size a' l cap' → (∀ ad, a' = some ad → w.heap.size ≤ ad.block ∧ ∀ j, w'.frozen? ⟨ad.block, j, none⟩ = false) ∧ (a' = none → cap' = 0) := by
    intro w' a' cap' hO
    obtain ⟨_, ⟨h1, _⟩ | ⟨g, cap2, cur, h1, hb, hg, _⟩⟩ := hO
    · simp only [Value.slice.injEq] at h1
      obtain ⟨rfl, _, rfl⟩ := h1
      exact ⟨(fun _ e => by cases e), fun _ => rfl⟩
    · simp only [Value.slice.injEq] at h1
      obtain ⟨rfl, _, rfl⟩ := h1
      exact ⟨(fun ad e => by cases e; exact ⟨hb, fun j => by unfold World.frozen?; simp only [hg]; simp⟩), (fun e => by cases e)⟩
  have fin : ∀ v' w', w'.ownsRow w.heap.size 4 1 v' (0 + l.length) ([] ++ l.map Value.bool) → w.grownBy w' (Value.slice none 0 0).ownBlock → (v' = .slice none 0 0 ↔ Value.slice none 0 0 = .slice none 0 0 ∧ l.length = 0) → wpList Try.prog ops Q rest (a.put o.dst v') w' := by
    intro v' w' h1 h2 h3
    rw [List.nil_append, Nat.zero_add] at h1
    have hbe : Below w.heap.size w w' := ⟨h2.os, h2.tape, h2.output, h2.size, fun i hi => h2.block i hi (by simp [Value.ownBlock])⟩
    have h1' := h1
    obtain ⟨_, ⟨e, h0⟩ | ⟨g, cap', cur, e, _⟩⟩ := h1'
    · subst e
      have hO : OwnBo w' w.heap.size none l 0 := by rw [OwnBo, h0]; rw [h0] at h1; exact h1
      have := h none 0 w' (Lib.hid ⟨(OwnBo.bools hO hm).1, fz hO⟩) hbe
      rw [h0] at this
      exact this
    · subst e
      exact h _ _ w' (Lib.hid ⟨(OwnBo.bools h1 hm).1, fz h1⟩) hbe
  rcases Option.eq_none_or_eq_some ao with rfl | ⟨ad, rfl⟩
  · have hc0 := hn rfl
    subst hc0
    have hl : l = [] := by
      rcases hB.2 with h | ⟨b, off, h, _⟩
      · exact h
      · cases h
    subst hl
    refine wpList_append_own_none hgd s x 23 ho w.heap.size 4 i0 1 Try.underlying23 hi (.slice none 0 0) 0 [] hs (World.ownsRow_nil _ _ _ _) hx (fin _ w (by simpa using World.ownsRow_nil _ _ _ _) ⟨rfl, rfl, rfl, Nat.le_refl _, fun _ _ _ => rfl⟩ ⟨fun e => ⟨e, rfl⟩, fun e => e.1⟩)
  · exact wpList_append_own w hgd s x 23 ho w.heap.size 4 i0 (.bool false) 1 1 Try.underlying23 hi hz0 hz1 hz2 rfl (by decide) (.slice none 0 0) 0 [] hs (World.ownsRow_nil _ _ _ _) ad l.length c (l.map Value.bool) hx (by simp) (news_bools hB) (bools_one _)
      (by unfold maxLen; omega) (by omega) (Nat.le_refl _) fin
/-- The blocks of two copies. -/
theorem two_blocks {w1 w2 w3 : World} {a1 a2 : Option Addr} {B : List Byte} {K : List Bool} (hb : Below w1.heap.size w1 w2) (hb2 : Below w2.heap.size w2 w3) (h1 : Bys w2 a1 B) (f1 : ∀ ad, a1 = some ad → w1.heap.size ≤ ad.block ∧ ∀ j, w2.frozen? ⟨ad.block, j, none⟩ = false)
    (h2 : Bools w3 a2 K) (f2 : ∀ ad, a2 = some ad → w2.heap.size ≤ ad.block ∧ ∀ j, w3.frozen? ⟨ad.block, j, none⟩ = false) :
    ∃ X : List Nat, (∀ x ∈ X, w1.heap.size ≤ x ∧ x < w3.heap.size) ∧ PokeB w3 X a1 B.length ∧ PokeO w3 X a2 K.length ∧ (B ≠ [] → ∀ ad, a1 = some ad → ad.block ∈ X) ∧ (K ≠ [] → ∀ ad, a2 = some ad → ad.block ∈ X) := by
  obtain ⟨X1, x1, x2, x3⟩ : ∃ X : List Nat, (∀ x ∈ X, w1.heap.size ≤ x ∧ x < w3.heap.size) ∧ PokeB w3 X a1 B.length ∧ (B ≠ [] → ∀ ad, a1 = some ad → ad.block ∈ X) := by
    rcases h1.2 with rfl | ⟨b, off, rfl, hc⟩
    · exact ⟨[], (fun x hx => by simp at hx), (fun h => absurd h (Nat.lt_irrefl _)), (fun h => absurd rfl h)⟩
    · by_cases h0 : B = []
      · subst h0
        exact ⟨[], (fun x hx => by simp at hx), (fun h => absurd h (Nat.lt_irrefl _)), (fun h => absurd rfl h)⟩
      · have hl := block_lt_of_cell (hc 0 (List.length_pos_iff.2 h0))
        simp only at hl
        refine ⟨[b], fun x hx => ?_, fun _ => ⟨b, off, rfl, by simp, fun i hi => ⟨_, keepc hb2 (hc i hi), ?_⟩⟩, fun _ ad e => by cases e; simp⟩
        · simp at hx
          subst hx
          exact ⟨(f1 ⟨x, off, none⟩ rfl).1, Nat.lt_of_lt_of_le hl hb2.size⟩
        · exact (hb2.frozen (p := ⟨b, off + i, none⟩) hl).trans ((f1 ⟨b, off, none⟩ rfl).2 _)
  obtain ⟨X2, y1, y2, y3⟩ : ∃ X : List Nat, (∀ x ∈ X, w1.heap.size ≤ x ∧ x < w3.heap.size) ∧ PokeO w3 X a2 K.length ∧ (K ≠ [] → ∀ ad, a2 = some ad → ad.block ∈ X) := by
    rcases h2.2 with rfl | ⟨b, off, rfl, hc⟩
    · exact ⟨[], (fun x hx => by simp at hx), (fun h => absurd h (Nat.lt_irrefl _)), (fun h => absurd rfl h)⟩
    · by_cases h0 : K = []
      · subst h0
        exact ⟨[], (fun x hx => by simp at hx), (fun h => absurd h (Nat.lt_irrefl _)), (fun h => absurd rfl h)⟩
      · have hl := block_lt_of_cell (hc 0 (List.length_pos_iff.2 h0))
        simp only at hl
        refine ⟨[b], fun x hx => ?_, fun _ => ⟨b, off, rfl, by simp, fun i hi => ⟨_, hc i hi, (f2 ⟨b, off, none⟩ rfl).2 _⟩⟩, fun _ ad e => by cases e; simp⟩
        simp at hx
        subst hx
        exact ⟨Nat.le_trans hb.size (f2 ⟨x, off, none⟩ rfl).1, hl⟩
  refine ⟨X1 ++ X2, fun x hx => (List.mem_append.1 hx).elim (x1 x) (y1 x), fun h => ?_, fun h => ?_, fun h0 ad e => List.mem_append_left _ (x3 h0 ad e), fun h0 ad e => List.mem_append_right _ (y3 h0 ad e)⟩
  · obtain ⟨g, o, e, h3, h4⟩ := x2 h
    exact ⟨g, o, e, List.mem_append_left _ h3, h4⟩
  · obtain ⟨g, o, e, h3, h4⟩ := y2 h
    exact ⟨g, o, e, List.mem_append_right _ h3, h4⟩
theorem wf_bounds {n : Int} (h : Wf n) : -9223372036854775808 ≤ n ∧ n ≤ 9223372036854775807 := by
  simp [Wf, Lit.wf, IntKind.min, IntKind.max, IntKind.signed, IntKind.bits] at h
  omega
theorem eqBs_is {l l' : List Byte} {n n' : Nat} {r : Bool} {a a' : Option Addr} {cap cap' : Nat} {w : World} (hn : l.length = n) (hn' : l'.length = n') (hr : decide (l = l') = r) (hB : Bys w a l) (hB' : Bys w a' l') :
    Calls Try.prog 29 #[.slice a n cap, .slice a' n' cap'] w fun e w' => e = .returned (.bool r) ∧ Below w.heap.size w w' := by
  rw [← hn, ← hn', ← hr]
  exact eqBytes_any a a' cap cap' l l' w hB hB'
theorem Bys.only0 {w w' : World} {R : List Nat} {a : Option Addr} {l : List Byte} (h : Bys w a l) (ho : Only R w w') (hn : l ≠ [] → ∀ ad, a = some ad → ad.block ∉ R) : Bys w' a l := by
  by_cases h0 : l = []
  · subst h0; exact ⟨by simp, .inl rfl⟩
  · exact h.only ho (hn h0)
section
variable {w : World} {q : PLoc} {r : RLoc} {P : Pl} {i n : Int} {a : Option Addr} {l : List Byte} {k : List Bool} {cap m : Nat}
theorem write_anyN (hm : l.length = m) (h : PlateAt w q P) (hB : Bys w a l) (hdis : l ≠ [] → ∀ ad, a = some ad → ad.block ∉ q.R) :
    Calls Try.prog 23 #[pv q, .int .i64 i, .slice a m cap] w fun e w' => e = .returned (.int .i64 (P.writeE i l)) ∧ PlateAt w' q (P.write i l) ∧ Only q.R w w' := by
  subst hm
  exact write_any w q P h i a l cap hB hdis
theorem rf_writeN (hm : l.length = m) (h : RefAt w r P) (hB : Bys w a l) (hcap : a = none → cap = 0) (hdis : l ≠ [] → ∀ ad, a = some ad → ad.block ∉ r.R) :
    Calls Try.prog 53 #[rv r, .int .i64 i, .slice a m cap] w fun e w' => e = .returned (.int .i64 (P.writeE i l)) ∧ RefAt w' r (P.write i l) ∧ Only r.R w w' := by
  subst hm
  exact rf_write w r P h i a l cap hB hcap hdis
theorem crash_anyN (hm : k.length = m) (h : PlateAt w q P) (hB : Bools w a k) (hdis : k ≠ [] → ∀ ad, a = some ad → ad.block ∉ q.R) :
    Calls Try.prog 17 #[pv q, .slice a m cap] w fun e w' => e = .returned (.int .i64 P.may) ∧ PlateAt w' q (P.crash k) ∧ Only q.R w w' := by
  subst hm
  exact crash_any w q P h a k cap hB hdis
theorem rf_crashN (hm : k.length = m) (h : RefAt w r P) (hB : Bools w a k) (hdis : k ≠ [] → ∀ ad, a = some ad → ad.block ∉ r.R) :
    Calls Try.prog 56 #[rv r, .slice a m cap] w fun e w' => e = .returned (.int .i64 P.may) ∧ RefAt w' r (P.crash k) ∧ Only r.R w w' := by
  subst hm
  exact rf_crash w r P h a k cap hB hdis
theorem fail_anyN (hm : k.length = m) (h : PlateAt w q P) (hn : -9223372036854775808 ≤ n ∧ n ≤ 9223372036854775807) (hB : Bools w a k) (hcap : a = none → cap = 0) :
    Calls Try.prog 22 #[pv q, .int .i64 n, .slice a m cap] w fun e w' => e = .returned (.int .i64 P.may) ∧ PlateAt w' q (P.fail n k) ∧ Only q.R w w' := by
  subst hm
  exact fail_any w q P h n hn a k cap hB hcap
theorem rf_failN (hm : k.length = m) (h : RefAt w r P) (hn : -9223372036854775808 ≤ n ∧ n ≤ 9223372036854775807) (hB : Bools w a k) (hcap : a = none → cap = 0) (hdis : k ≠ [] → ∀ ad, a = some ad → ad.block ∉ r.R) :
    Calls Try.prog 58 #[rv r, .int .i64 n, .slice a m cap] w fun e w' => e = .returned (.int .i64 P.may) ∧ RefAt w' r (P.fail n k) ∧ Only r.R w w' := by
  subst hm
  exact rf_fail w r P h n hn a k cap hB hcap hdis
end
/-- What a call of step is handed. -/
structure DoArg (w : World) (q : PLoc) (r : RLoc) (A : Int) (ba : Option Addr) (bc : Nat) (B : List Byte) (ka : Option Addr) (kc : Nat) (K : List Bool) : Prop where
  a : Wf A
  b : Bys w ba B
  bn : ba = none → bc = 0
  bd : B ≠ [] → ∀ ad, ba = some ad → ad.block ∉ q.R ∧ ad.block ∉ r.R
  k : Bools w ka K
  kn : ka = none → kc = 0
  kd : K ≠ [] → ∀ ad, ka = some ad → ad.block ∉ q.R ∧ ad.block ∉ r.R

set_option maxRecDepth 20000 in
set_option maxHeartbeats 8000000 in
theorem step_any (w w1 : World) (q : PLoc) (r : RLoc) (P : Pl) (h : Two w w1 q r P) (hdw : DW P) (kd A bit : Int) (ba : Option Addr) (bc : Nat) (B : List Byte) (ka : Option Addr) (kc : Nat) (K : List Bool) (hA : DoArg w1 q r A ba bc B ka kc K) :
    Calls Try.prog 31 #[pv q, rv r, .agg #[.int .i64 kd, .int .i64 A, .int .i64 bit, .slice ba B.length bc, .slice ka K.length kc]] w1 fun e w2 => e = .returned (.bool true) ∧ ∃ P', DW P' ∧ Two w w2 q r P' := by
  have H0 := Lib.hid h
  have HDw0 := Lib.hid hdw
  have HA := Lib.hid hA
  have HBr := Lib.hid (bring_any kd 7)
  obtain ⟨kk, hkk⟩ : ∃ kk : Nat, kd % 7 = kk := ⟨(kd % 7).toNat, by omega⟩
  have hk7 : kk < 7 := by omega
  obtain ⟨bl, hbl⟩ : ∃ bl, bl = B.length := ⟨_, rfl⟩
  obtain ⟨kl, hkl⟩ : ∃ kl, kl = K.length := ⟨_, rfl⟩
  have hbl4 : bl ≤ 140737488355328 := by have := hA.b.1; omega
  have hkl4 : kl ≤ 140737488355328 := by have := hA.k.1; omega
  rw [← hbl, ← hkl]
  have HBl := Lib.hid hbl.symm
  have HKl := Lib.hid hkl.symm
  have HKk := Lib.hid hkk
  clear h hdw hA hbl hkl hkk
  go_enter Try.func31, Try.ntmps31
  go_wp2_with fail
  obtain ⟨wa, hwa⟩ : ∃ x, x = w1.alloc (.cells #[.int .i64 kd, .int .i64 A, .int .i64 bit, .slice ba bl bc, .slice ka kl kc] 55) := ⟨_, rfl⟩
  have hba : Below w1.heap.size w1 wa := by rw [hwa]; exact Below.new _ _
  have hd : ∀ j, wa.cell? ⟨w1.heap.size, j, none⟩ = (#[Value.int .i64 kd, .int .i64 A, .int .i64 bit, .slice ba bl bc, .slice ka kl kc] : Array Value)[j]? := fun j => by rw [hwa]; exact cell_new _ _ _ _
  have d0 : wa.cell? ⟨w1.heap.size, 0, none⟩ = some (.int .i64 kd) := hd 0
  have d1 : wa.cell? ⟨w1.heap.size, 1, none⟩ = some (.int .i64 A) := hd 1
  have d2 : wa.cell? ⟨w1.heap.size, 2, none⟩ = some (.int .i64 bit) := hd 2
  have d3 : wa.cell? ⟨w1.heap.size, 3, none⟩ = some (.slice ba bl bc) := hd 3
  have d4 : wa.cell? ⟨w1.heap.size, 4, none⟩ = some (.slice ka kl kc) := hd 4
  obtain ⟨bx, hbx⟩ : ∃ x, x = w1.heap.size := ⟨_, rfl⟩
  rw [← hbx] at d0 d1 d2 d3 d4
  have HBx := Lib.hid hbx
  have NBq := Lib.hid (show bx ∉ q.R from fun hm => by have := H0.out.pl.lt _ hm; omega)
  have NBr := Lib.hid (show bx ∉ r.R from fun hm => by have := H0.out.rf.x.lt _ hm; omega)
  rw [← hwa]
  have HBa := Lib.hid hba
  clear hd hwa hba
  try rw [← hbx]
  clear hbx
  refine Calls.mono (rf_copyN ba bc B bl HBl.out (HA.out.b.below HBa.out) HA.out.bn) ?_
  rintro e wb ⟨a1, c1, rfl, hB1, hf1, hn1, hb1⟩
  have d0 := keepc hb1 d0
  have d1 := keepc hb1 d1
  have d2 := keepc hb1 d2
  have d3 := keepc hb1 d3
  have d4 := keepc hb1 d4
  have HB1 := Lib.hid hB1
  have HF1 := Lib.hid hf1
  have HN1 := Lib.hid hn1
  have HBb := Lib.hid hb1
  clear hB1 hf1 hn1 hb1
  go_wp2_with (first | (at_builtin; go_loud (refine wp_append_nb2 rfl (.tmp 21) (.tmp 23) rfl rfl ka kc K kl HKl.out rfl ((HA.out.k.below HBa.out).below HBb.out) HA.out.kn ?_)))
  intro a2 c2 wc HK2 hb2
  obtain ⟨X, hX, hP1, hP2, hX1, hX2⟩ := two_blocks (Below.step HBa.out HBb.out) hb2 HB1.out (fun ad e => ⟨Nat.le_trans HBa.out.size (HF1.out ad e).1, (HF1.out ad e).2⟩) HK2.out.1 HK2.out.2.1
  have hm := H0.out.reban (Below.step (Below.step HBa.out HBb.out) hb2) hX
  have d0 := keepc hb2 d0
  have d1 := keepc hb2 d1
  have d2 := keepc hb2 d2
  have d3 := keepc hb2 d3
  have d4 := keepc hb2 d4
  have HT := Lib.hid hm
  have HDw := HDw0
  have HXb := Lib.hid (show ∀ x ∈ X, w1.heap.size ≤ x from fun x hx => (hX x hx).1)
  have HP1 := Lib.hid hP1
  have HP2 := Lib.hid hP2
  have HX1 := Lib.hid hX1
  have HX2 := Lib.hid hX2
  have HBc := Lib.hid (Below.step (Below.step HBa.out HBb.out) hb2)
  have HBi := Lib.hid (HB1.out.below hb2)
  have HXq := Lib.hid (show ∀ x ∈ X, x ∉ q.R ∧ x ∉ r.R from fun x hx => ⟨fun hm => by have h1 := (hX x hx).1; have h2 := H0.out.pl.lt _ hm; omega, fun hm => by have h1 := (hX x hx).1; have h2 := H0.out.rf.x.lt _ hm; omega⟩)
  rw [HBl.out] at HP1
  rw [HKl.out] at HP2
  clear hX hP1 hP2 hX1 hX2 hm hb2 HF1 HN1 HB1
  go_wp2_with fail
  refine Calls.mono (HBr.out wc (by decide) (by decide)) ?_
  rintro e wx ⟨rfl, rfl⟩
  rw [HKk.out]
  have hA1 := wf_bounds HA.out.a
  rcases (by omega : kk = 0 ∨ kk = 1 ∨ kk = 2 ∨ kk = 3 ∨ kk = 4 ∨ kk = 5 ∨ kk = 6) with rfl | rfl | rfl | rfl | rfl | rfl | rfl
  · go_wp2_with fail
    refine Calls.mono (write_anyN (q := q.banX X) HBl.out HT.out.pl HBi.out (fun h0 ad e => (HXq.out _ (HX1.out h0 ad e)).1)) ?_
    rintro e w4 ⟨rfl, hp4, ho4⟩
    have hm4 := HT.out.first hp4 ho4
    have d1 := ho4.cell NBq.out d1
    have d2 := ho4.cell NBq.out d2
    have d3 := ho4.cell NBq.out d3
    have d4 := ho4.cell NBq.out d4
    have HBb4 := Lib.hid ((HA.out.b.below HBc.out).only0 ho4 (fun h0 ad e => (HA.out.bd h0 ad e).1))
    have HBi := Lib.hid (HBi.out.only0 ho4 (fun h0 ad e => (HXq.out _ (HX1.out h0 ad e)).1))
    have HP1 := Lib.hid (HP1.out.only ho4 (fun x hx => (HXq.out x hx).1))
    have HM4 := Lib.hid hm4
    clear hp4 ho4 hm4
    go_wp2_with fail
    refine Calls.mono (rf_writeN (r := r.banX X) HBl.out HM4.out.rf HBb4.out HA.out.bn (fun h0 ad e => (HA.out.bd h0 ad e).2)) ?_
    rintro e w5 ⟨rfl, hr5, ho5⟩
    have hm5 := HM4.out.second hr5 ho5
    have HBb5 := Lib.hid (HBb4.out.only0 ho5 (fun h0 ad e => (HA.out.bd h0 ad e).2))
    have HBi := Lib.hid (HBi.out.only0 ho5 (fun h0 ad e => (HXq.out _ (HX1.out h0 ad e)).2))
    have HP1 := Lib.hid (HP1.out.only ho5 (fun x hx => (HXq.out x hx).2))
    have e3 := ho5.cell NBr.out d3
    clear HT
    have HT := Lib.hid hm5
    have HDw := Lib.hid (dw_write HDw0.out A B)
    clear hr5 ho5 hm5 d1 d2 d3 d4

    go_wp2_with fail
    refine Calls.mono (eqBs_is (r := true) HBl.out HBl.out (decide_eq_true rfl) HBi.out HBb5.out) ?_
    rintro e w6 ⟨rfl, hb6⟩
    have hm6 := HT.out.below hb6
    have HP1 := Lib.hid (HP1.out.only (Only.of_below (R := []) hb6) (fun x hx => by simp))
    clear HT e3 hb6
    have HT := Lib.hid hm6
    clear hm6

    go_wp2_with fail
    go_loopw [11] (fun i wr => ∃ j : Nat, j ≤ bl ∧ i = .int .i64 j ∧ Hid (Two w wr (q.banX X) (r.banX X) (P.write A B) ∧ PokeB wr X a1 bl)) (fun i _ => bl - (RowKit.intOf i).toNat)
    case atStart => exact ⟨0, by omega, rfl, Lib.hid ⟨HT.out, HP1.out⟩⟩
    case round =>
      obtain ⟨j, hj, rfl, HR⟩ := hrel
      by_cases hlt : j < bl
      · obtain ⟨g, o, rfl, hgX, hex⟩ := HR.out.2 (by omega)
        obtain ⟨c, hc, hf⟩ := hex j hlt
        have HX := Lib.hid hgX
        have HEx := Lib.hid hex
        clear hex hgX
        go_wp2
        go_roundw
        case rel =>
          refine ⟨j + 1, by omega, by go_num, Lib.hid ⟨HR.out.1.poke (g := g) ((Only.refl _ _).setCell (p := ⟨g, o + j, none⟩) (by simp) _) (List.mem_append_left _ HX.out) (List.mem_append_left _ HX.out) (fun hm => by have h1 := HXb.out _ HX.out; have h2 := H0.out.pl.lt _ hm; omega) (fun hm => by have h1 := HXb.out _ HX.out; have h2 := H0.out.rf.x.lt _ hm; omega) (Nat.le_trans H0.out.be.size (HXb.out _ HX.out)), fun _ => ⟨g, o, rfl, HX.out, fun i hi => ?_⟩⟩⟩
          obtain ⟨c2, hc2, hf2⟩ := HEx.out i hi
          by_cases e : i = j
          · subst e
            exact ⟨_, World.cell?_setCell_same _ _ _ hc2, by rw [World.frozen?_setCell]; exact hf2⟩
          · exact ⟨c2, by rw [World.cell?_setCell_other _ _ _ _ (fun h => e (by injection h with _ h2 _; omega))]; exact hc2, by rw [World.frozen?_setCell]; exact hf2⟩
        case measure => simp [RowKit.intOf]; omega
      · clear HT
        have HT := Lib.hid HR.out.1
        clear HR
        go_wp2_with fail
        refine Calls.mono (dead_any _ (q.banX X) _ HT.out.pl) ?_
        rintro e wx ⟨rfl, rfl⟩
        go_wp2_with fail
        refine Calls.mono (rf_dead _ (r.banX X) _ HT.out.rf) ?_
        rintro e wx ⟨rfl, rfl⟩
        go_wp2_with fail
        refine Calls.mono (waits_any _ (q.banX X) _ HT.out.pl) ?_
        rintro e wy ⟨ay, cy, rfl, hIy, _, hby⟩
        rw [wsD_eq HDw.out] at hIy ⊢
        have HTy := Lib.hid (HT.out.below hby)
        have HIy := Lib.hid hIy
        clear hIy hby
        go_wp2_with fail
        refine Calls.mono (rf_waits _ (r.banX X) _ HTy.out.rf) ?_
        rintro e wz ⟨az, cz, rfl, hIz, hbz⟩
        have HTz := Lib.hid (HTy.out.below hbz)
        have HIz := Lib.hid hIz
        have HIy := Lib.hid (HIy.out.below hbz)
        clear hIz hbz
        go_wp2_with fail
        refine Calls.mono (eqI_is (r := true) (by rw [List.length_map]) (by rw [List.length_map]) (decide_eq_true rfl) HIy.out HIz.out) ?_
        rintro e wu ⟨rfl, hbu⟩
        have HTu := Lib.hid (HTz.out.below hbu)
        clear hbu
        go_wp2_with fail
        refine Calls.mono (size_any _ (q.banX X) _ HTu.out.pl) ?_
        rintro e wx ⟨rfl, rfl⟩
        go_wp2_with fail
        refine Calls.mono (rf_size _ (r.banX X) _ HTu.out.rf) ?_
        rintro e wx ⟨rfl, rfl⟩
        go_wp2
        go_ret
        exact ⟨rfl, _, HDw.out, HTu.out.unban H0.out⟩
  · go_wp2_with fail
    refine Calls.mono (flush_any _ (q.banX X) _ HT.out.pl) ?_
    rintro e w4 ⟨rfl, hp4, ho4⟩
    have hm4 := HT.out.first hp4 ho4
    have d1 := ho4.cell NBq.out d1
    have d2 := ho4.cell NBq.out d2
    have d3 := ho4.cell NBq.out d3
    have d4 := ho4.cell NBq.out d4
    skip
    have HM4 := Lib.hid hm4
    clear hp4 ho4 hm4
    go_wp2_with fail
    refine Calls.mono (rf_flush _ (r.banX X) _ HM4.out.rf) ?_
    rintro e w5 ⟨rfl, hr5, ho5⟩
    have hm5 := HM4.out.second hr5 ho5
    skip
    clear HT
    have HT := Lib.hid hm5
    have HDw := Lib.hid (dw_flush HDw0.out)
    clear hr5 ho5 hm5 d1 d2 d3 d4

    go_wp2_with fail
    refine Calls.mono (dead_any _ (q.banX X) _ HT.out.pl) ?_
    rintro e wx ⟨rfl, rfl⟩
    go_wp2_with fail
    refine Calls.mono (rf_dead _ (r.banX X) _ HT.out.rf) ?_
    rintro e wx ⟨rfl, rfl⟩
    go_wp2_with fail
    refine Calls.mono (waits_any _ (q.banX X) _ HT.out.pl) ?_
    rintro e wy ⟨ay, cy, rfl, hIy, _, hby⟩
    rw [wsD_eq HDw.out] at hIy ⊢
    have HTy := Lib.hid (HT.out.below hby)
    have HIy := Lib.hid hIy
    clear hIy hby
    go_wp2_with fail
    refine Calls.mono (rf_waits _ (r.banX X) _ HTy.out.rf) ?_
    rintro e wz ⟨az, cz, rfl, hIz, hbz⟩
    have HTz := Lib.hid (HTy.out.below hbz)
    have HIz := Lib.hid hIz
    have HIy := Lib.hid (HIy.out.below hbz)
    clear hIz hbz
    go_wp2_with fail
    refine Calls.mono (eqI_is (r := true) (by rw [List.length_map]) (by rw [List.length_map]) (decide_eq_true rfl) HIy.out HIz.out) ?_
    rintro e wu ⟨rfl, hbu⟩
    have HTu := Lib.hid (HTz.out.below hbu)
    clear hbu
    go_wp2_with fail
    refine Calls.mono (size_any _ (q.banX X) _ HTu.out.pl) ?_
    rintro e wx ⟨rfl, rfl⟩
    go_wp2_with fail
    refine Calls.mono (rf_size _ (r.banX X) _ HTu.out.rf) ?_
    rintro e wx ⟨rfl, rfl⟩
    go_wp2
    go_ret
    exact ⟨rfl, _, HDw.out, HTu.out.unban H0.out⟩
  · by_cases h0 : P.has A = 0
    · obtain ⟨hd, h1, h2⟩ := Pl.has_zero h0
      obtain ⟨k, rfl⟩ : ∃ k : Nat, A = k := ⟨A.toNat, by omega⟩
      have HR1 := Lib.hid (read_ok wc (q.banX X) P HT.out.pl k (by omega) hd)
      have HR2 := Lib.hid (show ∀ w', RefAt w' (r.banX X) P → _ from fun w' hw => rf_read w' (r.banX X) P hw k (by omega) hd)
      clear h0 hd h1 h2
      go_wp2_with fail
      refine Calls.mono HR1.out ?_
      rintro e w4 ⟨hb4, g9, rfl, hg1, hg2⟩
      have hm4 := HT.out.below hb4
      have hX4 := HT.out.reban hb4 (X := [g9]) (fun x hx => by simp at hx; subst hx; exact ⟨hg1, lt_of_heap hg2⟩)
      have hX4' : Two w w4 (q.banX (g9 :: X)) (r.banX (g9 :: X)) P := hX4
      have HXb := Lib.hid (show ∀ x ∈ g9 :: X, w1.heap.size ≤ x from fun x hx => by
        rcases List.mem_cons.1 hx with rfl | hx
        · exact Nat.le_trans HBc.out.size hg1
        · exact HXb.out x hx)
      have d1 := keepc hb4 d1
      have HG := Lib.hid (bys_sec hg2)
      have HPk : Hid (PokeB w4 (g9 :: X) (some ⟨g9, 0, none⟩) 64) := Lib.hid (fun _ => ⟨g9, 0, rfl, by simp, fun i hi => ⟨((P.seen k i).toNat : Int), by rw [Nat.zero_add, cell_of_row _ _ _ _ _ _ hg2]; simp [secC, secL_get _ hi]; rfl, by unfold World.frozen?; simp only [hg2]; simp⟩⟩)
      have HT4 := Lib.hid hm4
      clear HT hb4 hg1 hg2 hm4 hX4
      have HT := Lib.hid hX4'
      clear hX4'
      go_wp2_with fail
      refine Calls.mono (HR2.out _ HT4.out.rf) ?_
      rintro e w5 ⟨a5, c5, rfl, hB5, hb5⟩
      have hm5 := HT.out.below hb5
      have HPk := Lib.hid (HPk.out.only (Only.of_below (R := []) hb5) (fun x hx => by simp))
      have HG := Lib.hid (HG.out.below hb5)
      have HB5 := Lib.hid hB5
      clear HT d1 d2 d3 d4 hb5 hB5
      have HT := Lib.hid hm5
      clear hm5
      go_wp2_with fail
      refine Calls.mono (eqBs_is (r := true) (bytesOf_length _) (bytesOf_length _) (decide_eq_true rfl) HG.out HB5.out) ?_
      rintro e w6 ⟨rfl, hb6⟩
      have hm6 := HT.out.below hb6
      have HPk := Lib.hid (HPk.out.only (Only.of_below (R := []) hb6) (fun x hx => by simp))
      clear HT hb6
      have HT := Lib.hid hm6
      clear hm6
      obtain ⟨a9, ha9⟩ : ∃ a9, a9 = some (⟨g9, 0, none⟩ : Addr) := ⟨_, rfl⟩
      rw [← ha9] at HPk ⊢
      clear ha9 HG
      go_wp2_with fail
      go_loopw [16] (fun i wr => ∃ j : Nat, j ≤ 64 ∧ i = .int .i64 j ∧ Hid (Two w wr (q.banX (g9 :: X)) (r.banX (g9 :: X)) P ∧ PokeB wr (g9 :: X) a9 64)) (fun i _ => 64 - (RowKit.intOf i).toNat)
      case atStart => exact ⟨0, by omega, rfl, Lib.hid ⟨HT.out, HPk.out⟩⟩
      case round =>
        obtain ⟨j, hj, rfl, HR⟩ := hrel
        by_cases hlt : j < 64
        · obtain ⟨g, o, rfl, hgX, hex⟩ := HR.out.2 (by omega)
          obtain ⟨c, hc, hf⟩ := hex j hlt
          have HX := Lib.hid hgX
          have HEx := Lib.hid hex
          clear hex hgX
          go_wp2
          go_roundw
          case rel =>
            refine ⟨j + 1, by omega, by go_num, Lib.hid ⟨HR.out.1.poke (g := g) ((Only.refl _ _).setCell (p := ⟨g, o + j, none⟩) (by simp) _) (List.mem_append_left _ HX.out) (List.mem_append_left _ HX.out) (fun hm => by have h1 := HXb.out _ HX.out; have h2 := H0.out.pl.lt _ hm; omega) (fun hm => by have h1 := HXb.out _ HX.out; have h2 := H0.out.rf.x.lt _ hm; omega) (Nat.le_trans H0.out.be.size (HXb.out _ HX.out)), fun _ => ⟨g, o, rfl, HX.out, fun i hi => ?_⟩⟩⟩
            obtain ⟨c2, hc2, hf2⟩ := HEx.out i hi
            by_cases e : i = j
            · subst e
              exact ⟨_, World.cell?_setCell_same _ _ _ hc2, by rw [World.frozen?_setCell]; exact hf2⟩
            · exact ⟨c2, by rw [World.cell?_setCell_other _ _ _ _ (fun h => e (by injection h with _ h2 _; omega))]; exact hc2, by rw [World.frozen?_setCell]; exact hf2⟩
          case measure => simp [RowKit.intOf]; omega
        · clear HT
          have HT := Lib.hid HR.out.1
          clear HR
          go_wp2_with fail
          refine Calls.mono (dead_any _ (q.banX (g9 :: X)) _ HT.out.pl) ?_
          rintro e wx ⟨rfl, rfl⟩
          go_wp2_with fail
          refine Calls.mono (rf_dead _ (r.banX (g9 :: X)) _ HT.out.rf) ?_
          rintro e wx ⟨rfl, rfl⟩
          go_wp2_with fail
          refine Calls.mono (waits_any _ (q.banX (g9 :: X)) _ HT.out.pl) ?_
          rintro e wy ⟨ay, cy, rfl, hIy, _, hby⟩
          rw [wsD_eq HDw.out] at hIy ⊢
          have HTy := Lib.hid (HT.out.below hby)
          have HIy := Lib.hid hIy
          clear hIy hby
          go_wp2_with fail
          refine Calls.mono (rf_waits _ (r.banX (g9 :: X)) _ HTy.out.rf) ?_
          rintro e wz ⟨az, cz, rfl, hIz, hbz⟩
          have HTz := Lib.hid (HTy.out.below hbz)
          have HIz := Lib.hid hIz
          have HIy := Lib.hid (HIy.out.below hbz)
          clear hIz hbz
          go_wp2_with fail
          refine Calls.mono (eqI_is (r := true) (by rw [List.length_map]) (by rw [List.length_map]) (decide_eq_true rfl) HIy.out HIz.out) ?_
          rintro e wu ⟨rfl, hbu⟩
          have HTu := Lib.hid (HTz.out.below hbu)
          clear hbu
          go_wp2_with fail
          refine Calls.mono (size_any _ (q.banX (g9 :: X)) _ HTu.out.pl) ?_
          rintro e wx ⟨rfl, rfl⟩
          go_wp2_with fail
          refine Calls.mono (rf_size _ (r.banX (g9 :: X)) _ HTu.out.rf) ?_
          rintro e wx ⟨rfl, rfl⟩
          go_wp2
          go_ret
          exact ⟨rfl, _, HDw.out, HTu.out.unban H0.out⟩
    · have HR1 := Lib.hid (read_no wc (q.banX X) P HT.out.pl A h0)
      have HR2 := Lib.hid (rf_readNo wc (r.banX X) P HT.out.rf A h0)
      obtain ⟨z, hz⟩ : ∃ z, z = P.has A := ⟨_, rfl⟩
      rw [← hz] at HR1 HR2
      clear hz h0
      go_wp2_with fail
      refine Calls.mono HR1.out ?_
      rintro e w4 ⟨rfl, rfl⟩
      go_wp2_with fail
      refine Calls.mono HR2.out ?_
      rintro e w4 ⟨rfl, rfl⟩
      clear d1 d2 d3 d4
      go_wp2_with fail
      refine Calls.mono (eqBs_is (l := []) (l' := []) (r := true) rfl rfl rfl (Bys.nil _ _) (Bys.nil _ _)) ?_
      rintro e w6 ⟨rfl, hb6⟩
      have hm6 := HT.out.below hb6
      clear HT hb6
      have HT := Lib.hid hm6
      clear hm6
      go_wp2_with fail
      go_loopw [16] (fun i wr => i = .int .i64 0 ∧ Hid (Two w wr (q.banX X) (r.banX X) P)) (fun _ _ => 0)
      case atStart => exact ⟨rfl, HT⟩
      case round =>
        obtain ⟨rfl, HR⟩ := hrel
        clear HT
        have HT := Lib.hid HR.out
        clear HR
        go_wp2_with fail
        refine Calls.mono (dead_any _ (q.banX X) _ HT.out.pl) ?_
        rintro e wx ⟨rfl, rfl⟩
        go_wp2_with fail
        refine Calls.mono (rf_dead _ (r.banX X) _ HT.out.rf) ?_
        rintro e wx ⟨rfl, rfl⟩
        go_wp2_with fail
        refine Calls.mono (waits_any _ (q.banX X) _ HT.out.pl) ?_
        rintro e wy ⟨ay, cy, rfl, hIy, _, hby⟩
        rw [wsD_eq HDw.out] at hIy ⊢
        have HTy := Lib.hid (HT.out.below hby)
        have HIy := Lib.hid hIy
        clear hIy hby
        go_wp2_with fail
        refine Calls.mono (rf_waits _ (r.banX X) _ HTy.out.rf) ?_
        rintro e wz ⟨az, cz, rfl, hIz, hbz⟩
        have HTz := Lib.hid (HTy.out.below hbz)
        have HIz := Lib.hid hIz
        have HIy := Lib.hid (HIy.out.below hbz)
        clear hIz hbz
        go_wp2_with fail
        refine Calls.mono (eqI_is (r := true) (by rw [List.length_map]) (by rw [List.length_map]) (decide_eq_true rfl) HIy.out HIz.out) ?_
        rintro e wu ⟨rfl, hbu⟩
        have HTu := Lib.hid (HTz.out.below hbu)
        clear hbu
        go_wp2_with fail
        refine Calls.mono (size_any _ (q.banX X) _ HTu.out.pl) ?_
        rintro e wx ⟨rfl, rfl⟩
        go_wp2_with fail
        refine Calls.mono (rf_size _ (r.banX X) _ HTu.out.rf) ?_
        rintro e wx ⟨rfl, rfl⟩
        go_wp2
        go_ret
        exact ⟨rfl, _, HDw.out, HTu.out.unban H0.out⟩
  · go_wp2_with fail
    refine Calls.mono (crash_anyN (q := q.banX X) HKl.out HT.out.pl HK2.out.1 (fun h0 ad e => (HXq.out _ (HX2.out h0 ad e)).1)) ?_
    rintro e w4 ⟨rfl, hp4, ho4⟩
    have hm4 := HT.out.first hp4 ho4
    have d1 := ho4.cell NBq.out d1
    have d2 := ho4.cell NBq.out d2
    have d3 := ho4.cell NBq.out d3
    have d4 := ho4.cell NBq.out d4
    have HBk4 := Lib.hid (Only.bools ho4 (fun h0 ad e => (HA.out.kd h0 ad e).1) (HA.out.k.below HBc.out))
    have HM4 := Lib.hid hm4
    clear hp4 ho4 hm4
    go_wp2_with fail
    refine Calls.mono (rf_crashN (r := r.banX X) HKl.out HM4.out.rf HBk4.out (fun h0 ad e => (HA.out.kd h0 ad e).2)) ?_
    rintro e w5 ⟨rfl, hr5, ho5⟩
    have hm5 := HM4.out.second hr5 ho5
    skip
    clear HT
    have HT := Lib.hid hm5
    have HDw := Lib.hid (dw_crash HDw0.out K)
    clear hr5 ho5 hm5 d1 d2 d3 d4

    go_wp2_with fail
    refine Calls.mono (dead_any _ (q.banX X) _ HT.out.pl) ?_
    rintro e wx ⟨rfl, rfl⟩
    go_wp2_with fail
    refine Calls.mono (rf_dead _ (r.banX X) _ HT.out.rf) ?_
    rintro e wx ⟨rfl, rfl⟩
    go_wp2_with fail
    refine Calls.mono (waits_any _ (q.banX X) _ HT.out.pl) ?_
    rintro e wy ⟨ay, cy, rfl, hIy, _, hby⟩
    rw [wsD_eq HDw.out] at hIy ⊢
    have HTy := Lib.hid (HT.out.below hby)
    have HIy := Lib.hid hIy
    clear hIy hby
    go_wp2_with fail
    refine Calls.mono (rf_waits _ (r.banX X) _ HTy.out.rf) ?_
    rintro e wz ⟨az, cz, rfl, hIz, hbz⟩
    have HTz := Lib.hid (HTy.out.below hbz)
    have HIz := Lib.hid hIz
    have HIy := Lib.hid (HIy.out.below hbz)
    clear hIz hbz
    go_wp2_with fail
    refine Calls.mono (eqI_is (r := true) (by rw [List.length_map]) (by rw [List.length_map]) (decide_eq_true rfl) HIy.out HIz.out) ?_
    rintro e wu ⟨rfl, hbu⟩
    have HTu := Lib.hid (HTz.out.below hbu)
    clear hbu
    go_wp2_with fail
    refine Calls.mono (size_any _ (q.banX X) _ HTu.out.pl) ?_
    rintro e wx ⟨rfl, rfl⟩
    go_wp2_with fail
    refine Calls.mono (rf_size _ (r.banX X) _ HTu.out.rf) ?_
    rintro e wx ⟨rfl, rfl⟩
    go_wp2
    go_ret
    exact ⟨rfl, _, HDw.out, HTu.out.unban H0.out⟩
  · go_wp2_with fail
    refine Calls.mono (boot_any _ (q.banX X) _ HT.out.pl) ?_
    rintro e w4 ⟨rfl, hp4, ho4⟩
    have hm4 := HT.out.first hp4 ho4
    have d1 := ho4.cell NBq.out d1
    have d2 := ho4.cell NBq.out d2
    have d3 := ho4.cell NBq.out d3
    have d4 := ho4.cell NBq.out d4
    skip
    have HM4 := Lib.hid hm4
    clear hp4 ho4 hm4
    go_wp2_with fail
    refine Calls.mono (rf_boot _ (r.banX X) _ HM4.out.rf) ?_
    rintro e w5 ⟨rfl, hr5, ho5⟩
    have hm5 := HM4.out.second hr5 ho5
    skip
    clear HT
    have HT := Lib.hid hm5
    have HDw := Lib.hid (dw_boot P)
    clear hr5 ho5 hm5 d1 d2 d3 d4

    go_wp2_with fail
    refine Calls.mono (dead_any _ (q.banX X) _ HT.out.pl) ?_
    rintro e wx ⟨rfl, rfl⟩
    go_wp2_with fail
    refine Calls.mono (rf_dead _ (r.banX X) _ HT.out.rf) ?_
    rintro e wx ⟨rfl, rfl⟩
    go_wp2_with fail
    refine Calls.mono (waits_any _ (q.banX X) _ HT.out.pl) ?_
    rintro e wy ⟨ay, cy, rfl, hIy, _, hby⟩
    rw [wsD_eq HDw.out] at hIy ⊢
    have HTy := Lib.hid (HT.out.below hby)
    have HIy := Lib.hid hIy
    clear hIy hby
    go_wp2_with fail
    refine Calls.mono (rf_waits _ (r.banX X) _ HTy.out.rf) ?_
    rintro e wz ⟨az, cz, rfl, hIz, hbz⟩
    have HTz := Lib.hid (HTy.out.below hbz)
    have HIz := Lib.hid hIz
    have HIy := Lib.hid (HIy.out.below hbz)
    clear hIz hbz
    go_wp2_with fail
    refine Calls.mono (eqI_is (r := true) (by rw [List.length_map]) (by rw [List.length_map]) (decide_eq_true rfl) HIy.out HIz.out) ?_
    rintro e wu ⟨rfl, hbu⟩
    have HTu := Lib.hid (HTz.out.below hbu)
    clear hbu
    go_wp2_with fail
    refine Calls.mono (size_any _ (q.banX X) _ HTu.out.pl) ?_
    rintro e wx ⟨rfl, rfl⟩
    go_wp2_with fail
    refine Calls.mono (rf_size _ (r.banX X) _ HTu.out.rf) ?_
    rintro e wx ⟨rfl, rfl⟩
    go_wp2
    go_ret
    exact ⟨rfl, _, HDw.out, HTu.out.unban H0.out⟩
  · go_wp2_with fail
    refine Calls.mono (fail_anyN (q := q.banX X) HKl.out HT.out.pl hA1 HK2.out.1 HK2.out.2.2) ?_
    rintro e w4 ⟨rfl, hp4, ho4⟩
    have hm4 := HT.out.first hp4 ho4
    have d1 := ho4.cell NBq.out d1
    have d2 := ho4.cell NBq.out d2
    have d3 := ho4.cell NBq.out d3
    have d4 := ho4.cell NBq.out d4
    have HBk4 := Lib.hid (Only.bools ho4 (fun h0 ad e => (HA.out.kd h0 ad e).1) (HA.out.k.below HBc.out))
    have HP2 := Lib.hid (HP2.out.only ho4 (fun x hx => (HXq.out x hx).1))
    have HM4 := Lib.hid hm4
    clear hp4 ho4 hm4
    go_wp2_with fail
    refine Calls.mono (rf_failN (r := r.banX X) HKl.out HM4.out.rf hA1 HBk4.out HA.out.kn (fun h0 ad e => (HA.out.kd h0 ad e).2)) ?_
    rintro e w5 ⟨rfl, hr5, ho5⟩
    have hm5 := HM4.out.second hr5 ho5
    have HP2 := Lib.hid (HP2.out.only ho5 (fun x hx => (HXq.out x hx).2))
    clear HT
    have HT := Lib.hid hm5
    have HDw := Lib.hid (dw_fail HDw0.out A K)
    clear hr5 ho5 hm5 d1 d2 d3 d4

    go_wp2_with fail
    go_loopw [17] (fun i wr => ∃ j : Nat, j ≤ kl ∧ i = .int .i64 j ∧ Hid (Two w wr (q.banX X) (r.banX X) (P.fail A K) ∧ PokeO wr X a2 kl)) (fun i _ => kl - (RowKit.intOf i).toNat)
    case atStart => exact ⟨0, by omega, rfl, Lib.hid ⟨HT.out, HP2.out⟩⟩
    case round =>
      obtain ⟨j, hj, rfl, HR⟩ := hrel
      by_cases hlt : j < kl
      · obtain ⟨g, o, rfl, hgX, hex⟩ := HR.out.2 (by omega)
        obtain ⟨c, hc, hf⟩ := hex j hlt
        have HX := Lib.hid hgX
        have HEx := Lib.hid hex
        clear hex hgX
        go_wp2
        go_roundw
        case rel =>
          refine ⟨j + 1, by omega, by go_num, Lib.hid ⟨HR.out.1.poke (g := g) ((Only.refl _ _).setCell (p := ⟨g, o + j, none⟩) (by simp) _) (List.mem_append_left _ HX.out) (List.mem_append_left _ HX.out) (fun hm => by have h1 := HXb.out _ HX.out; have h2 := H0.out.pl.lt _ hm; omega) (fun hm => by have h1 := HXb.out _ HX.out; have h2 := H0.out.rf.x.lt _ hm; omega) (Nat.le_trans H0.out.be.size (HXb.out _ HX.out)), fun _ => ⟨g, o, rfl, HX.out, fun i hi => ?_⟩⟩⟩
          obtain ⟨c2, hc2, hf2⟩ := HEx.out i hi
          by_cases e : i = j
          · subst e
            exact ⟨_, World.cell?_setCell_same _ _ _ hc2, by rw [World.frozen?_setCell]; exact hf2⟩
          · exact ⟨c2, by rw [World.cell?_setCell_other _ _ _ _ (fun h => e (by injection h with _ h2 _; omega))]; exact hc2, by rw [World.frozen?_setCell]; exact hf2⟩
        case measure => simp [RowKit.intOf]; omega
      · clear HT
        have HT := Lib.hid HR.out.1
        clear HR
        go_wp2_with fail
        refine Calls.mono (dead_any _ (q.banX X) _ HT.out.pl) ?_
        rintro e wx ⟨rfl, rfl⟩
        go_wp2_with fail
        refine Calls.mono (rf_dead _ (r.banX X) _ HT.out.rf) ?_
        rintro e wx ⟨rfl, rfl⟩
        go_wp2_with fail
        refine Calls.mono (waits_any _ (q.banX X) _ HT.out.pl) ?_
        rintro e wy ⟨ay, cy, rfl, hIy, _, hby⟩
        rw [wsD_eq HDw.out] at hIy ⊢
        have HTy := Lib.hid (HT.out.below hby)
        have HIy := Lib.hid hIy
        clear hIy hby
        go_wp2_with fail
        refine Calls.mono (rf_waits _ (r.banX X) _ HTy.out.rf) ?_
        rintro e wz ⟨az, cz, rfl, hIz, hbz⟩
        have HTz := Lib.hid (HTy.out.below hbz)
        have HIz := Lib.hid hIz
        have HIy := Lib.hid (HIy.out.below hbz)
        clear hIz hbz
        go_wp2_with fail
        refine Calls.mono (eqI_is (r := true) (by rw [List.length_map]) (by rw [List.length_map]) (decide_eq_true rfl) HIy.out HIz.out) ?_
        rintro e wu ⟨rfl, hbu⟩
        have HTu := Lib.hid (HTz.out.below hbu)
        clear hbu
        go_wp2_with fail
        refine Calls.mono (size_any _ (q.banX X) _ HTu.out.pl) ?_
        rintro e wx ⟨rfl, rfl⟩
        go_wp2_with fail
        refine Calls.mono (rf_size _ (r.banX X) _ HTu.out.rf) ?_
        rintro e wx ⟨rfl, rfl⟩
        go_wp2
        go_ret
        exact ⟨rfl, _, HDw.out, HTu.out.unban H0.out⟩
  · go_wp2_with fail
    refine Calls.mono (turn_any _ (q.banX X) _ HT.out.pl A bit) ?_
    rintro e w4 ⟨rfl, hp4, ho4⟩
    have hm4 := HT.out.first hp4 ho4
    have d1 := ho4.cell NBq.out d1
    have d2 := ho4.cell NBq.out d2
    have d3 := ho4.cell NBq.out d3
    have d4 := ho4.cell NBq.out d4
    skip
    have HM4 := Lib.hid hm4
    clear hp4 ho4 hm4
    go_wp2_with fail
    refine Calls.mono (rf_turn _ (r.banX X) _ HM4.out.rf A bit) ?_
    rintro e w5 ⟨rfl, hr5, ho5⟩
    have hm5 := HM4.out.second hr5 ho5
    skip
    clear HT
    have HT := Lib.hid hm5
    have HDw := Lib.hid (dw_turn HDw0.out A bit)
    clear hr5 ho5 hm5 d1 d2 d3 d4

    go_wp2_with fail
    refine Calls.mono (dead_any _ (q.banX X) _ HT.out.pl) ?_
    rintro e wx ⟨rfl, rfl⟩
    go_wp2_with fail
    refine Calls.mono (rf_dead _ (r.banX X) _ HT.out.rf) ?_
    rintro e wx ⟨rfl, rfl⟩
    go_wp2_with fail
    refine Calls.mono (waits_any _ (q.banX X) _ HT.out.pl) ?_
    rintro e wy ⟨ay, cy, rfl, hIy, _, hby⟩
    rw [wsD_eq HDw.out] at hIy ⊢
    have HTy := Lib.hid (HT.out.below hby)
    have HIy := Lib.hid hIy
    clear hIy hby
    go_wp2_with fail
    refine Calls.mono (rf_waits _ (r.banX X) _ HTy.out.rf) ?_
    rintro e wz ⟨az, cz, rfl, hIz, hbz⟩
    have HTz := Lib.hid (HTy.out.below hbz)
    have HIz := Lib.hid hIz
    have HIy := Lib.hid (HIy.out.below hbz)
    clear hIz hbz
    go_wp2_with fail
    refine Calls.mono (eqI_is (r := true) (by rw [List.length_map]) (by rw [List.length_map]) (decide_eq_true rfl) HIy.out HIz.out) ?_
    rintro e wu ⟨rfl, hbu⟩
    have HTu := Lib.hid (HTz.out.below hbu)
    clear hbu
    go_wp2_with fail
    refine Calls.mono (size_any _ (q.banX X) _ HTu.out.pl) ?_
    rintro e wx ⟨rfl, rfl⟩
    go_wp2_with fail
    refine Calls.mono (rf_size _ (r.banX X) _ HTu.out.rf) ?_
    rintro e wx ⟨rfl, rfl⟩
    go_wp2
    go_ret
    exact ⟨rfl, _, HDw.out, HTu.out.unban H0.out⟩
end Go.Proofs.Ytdhidcoglioalaa.Walks
