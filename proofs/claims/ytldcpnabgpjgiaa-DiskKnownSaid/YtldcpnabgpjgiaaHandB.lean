/-
  A hand in memory: its struct's cells and its five maps.
-/
import Derived.Test.YtldcpnabgpjgiaaHandA
import Derived.Test.YtldcpnabgpjgiaaHandP
import Derived.Test.YtldcpnabgpjgiaaMarks
namespace Go.Proofs.Ytldcpnabgpjgiaa.Walks
open Go.RowKit Plain
open Go.Maps (Keyed IsMap int_keyed)
set_option linter.unusedVariables false

/-- An int that is one. -/
def Wf (n : Int) : Prop := (Lit.int .i64 n).wf = true
theorem Wf.of {n : Int} (h1 : -9223372036854775808 ≤ n) (h2 : n ≤ 9223372036854775807) : Wf n := WalkArith.wf_i64 ⟨h1, h2⟩
theorem hand_wide : (match Try.prog.underlying 144 with | some (.array _ _) | some (.struct _) => true | _ => false) = true := by rw [Try.underlying144]
theorem hand_laid : laidOutB Try.prog = true := by kernel_rfl
theorem hand_row : (144 : TypeId) < Try.prog.types.size := of_decide_eq_true (by kernel_rfl)
theorem hand_at : Try.prog.keyTypeAt 2 144 = true := by kernel_rfl
set_option maxRecDepth 100000 in
theorem hand_key : Keyed Try.prog 144 := Keyed.of_law (deep_law_laid hand_laid (m := 2) (show 2 + 1 ≤ 10000 by omega) hand_row hand_at hand_wide)
theorem int_key : Keyed Try.prog 3 := int_keyed Try.underlying3
theorem cells144 : Try.prog.cellsOf 144 = 2 := by kernel_rfl
theorem cellsI : Try.prog.cellsOf 3 = 1 := by kernel_rfl
theorem keyType144 : Try.prog.keyType 144 = true := by kernel_rfl
theorem keyLits_hand {n e : Int} (hn : (Lit.int .i64 n).wf = true) (he : (Lit.int .i64 e).wf = true) (d : Nat) : Try.prog.keyLits (d + 2) 144 [.int .i64 n, .int .i64 e] = some [.int .i64 n, .int .i64 e] := by
  unfold Program.keyLits
  rw [Try.underlying144]
  simp only [cells144]
  simp [cellsI, Program.keyLits, Try.underlying3, hn, he]
theorem keyOf_hand {n e : Int} (hn : Wf n) (he : Wf e) : ∃ kl, keyOf Try.prog 144 (.agg #[.int .i64 n, .int .i64 e]) = some kl := by
  obtain ⟨d, hd⟩ : ∃ d, Try.prog.types.size + 1 = d + 2 := ⟨Try.prog.types.size - 1, by have h : 144 < Try.prog.types.size := hand_row; omega⟩
  unfold keyOf
  rw [Try.underlying144, hd]
  have h := keyLits_hand hn he d
  have hf : (Value.agg #[.int .i64 n, .int .i64 e]).formed Try.prog 144 = true := by simp [Value.formed, Try.underlying144, cells144]
  simp only [keyType144, hf, Bool.and_self, if_true, Value.cells]
  exact ⟨_, by rw [h]; rfl⟩
theorem keyOf_i {n : Int} (hn : Wf n) : ∃ kl, keyOf Try.prog 3 (.int .i64 n) = some kl := ⟨_, Go.Maps.keyOf_int_mk Try.underlying3 hn⟩

/-- Only the blocks of R have turned; what was made is new. -/
structure Only (R : List Nat) (w w' : World) : Prop where
  os : w'.os = w.os
  tape : w'.tape = w.tape
  output : w'.output = w.output
  size : w.heap.size ≤ w'.heap.size
  block : ∀ b, b < w.heap.size → b ∉ R → w'.heap[b]? = w.heap[b]?
theorem Only.refl (R : List Nat) (w : World) : Only R w w := ⟨rfl, rfl, rfl, Nat.le_refl _, fun _ _ _ => rfl⟩
theorem Only.trans {R : List Nat} {a b c : World} (h : Only R a b) (k : Only R b c) : Only R a c :=
  ⟨k.os.trans h.os, k.tape.trans h.tape, k.output.trans h.output, Nat.le_trans h.size k.size, fun i hi hn => (k.block i (Nat.lt_of_lt_of_le hi h.size) hn).trans (h.block i hi hn)⟩
theorem Only.of_below {R : List Nat} {a b : World} (h : Below a.heap.size a b) : Only R a b := ⟨h.os, h.tape, h.output, h.size, fun i hi _ => h.block i hi⟩
theorem Only.of_grown {R : List Nat} {a b : World} {r : Nat} (h : a.grownBy b (some r)) (hr : r ∈ R) : Only R a b :=
  ⟨h.os, h.tape, h.output, h.size, fun i hi hn => h.block i hi (fun e => hn (by cases e; exact hr))⟩
theorem Only.mono {R R' : List Nat} {a b : World} (h : Only R a b) (hs : ∀ r ∈ R, r ∈ R') : Only R' a b := ⟨h.os, h.tape, h.output, h.size, fun i hi hn => h.block i hi (fun hr => hn (hs i hr))⟩
theorem Only.below {R : List Nat} {B : Nat} {a b c : World} (h : Below B a b) (k : Only R b c) (hR : ∀ r ∈ R, B ≤ r) (hB : B ≤ a.heap.size) : Below B a c :=
  ⟨k.os.trans h.os, k.tape.trans h.tape, k.output.trans h.output, Nat.le_trans h.size k.size, fun i hi => (k.block i (Nat.lt_of_lt_of_le hi (Nat.le_trans hB h.size)) (fun hr => Nat.not_le_of_lt hi (hR i hr))).trans (h.block i hi)⟩
theorem Only.drewN {R : List Nat} {a b : World} (h : Only R a b) (n : Nat) : Only R a (b.drewN n) := h.trans (Only.of_below (below_drewN (Below.refl _ _) n))

/-- Where a hand lies: its struct, its maps. -/
structure HLoc where
  p : Nat
  r1 : Nat
  r2 : Nat
  r3 : Nat
  r4 : Nat
  r5 : Nat
def HLoc.R (q : HLoc) : List Nat := [q.r1, q.r2, q.r3, q.r4, q.r5]

def OrdAt (w : World) (v : Option Value) (m : Option (List Int)) : Prop :=
  match m with
  | none => v = none
  | some l => ∃ a cap, v = some (.slice a l.length cap) ∧ Ints w a l
def CrewAt (f : Int) (w : World) (v : Option Value) (m : Option (List Int)) : Prop :=
  match m with
  | none => v = none
  | some l => ∃ a cap, v = some (.agg #[.int .i64 f, .slice a l.length cap]) ∧ Ints w a l ∧ (a = none → cap = 0)
structure HandX (w : World) (q : HLoc) (N : Nat) (f : Int) (l : List Int) (O1 O3 O5 : List (Int × Int × List Int)) (E2 E4 : List (Int × Int × Int × Int)) : Prop where
  c0 : w.cell? ⟨q.p, 0, none⟩ = some (.int .i64 f)
  c1 : ∃ a cap, w.cell? ⟨q.p, 1, none⟩ = some (.slice a l.length cap) ∧ Ints w a l
  c2 : w.cell? ⟨q.p, 2, none⟩ = some (.map (some q.r1))
  c3 : w.cell? ⟨q.p, 3, none⟩ = some (.map (some q.r2))
  c4 : w.cell? ⟨q.p, 4, none⟩ = some (.map (some q.r3))
  c5 : w.cell? ⟨q.p, 5, none⟩ = some (.map (some q.r4))
  c6 : w.cell? ⟨q.p, 6, none⟩ = some (.map (some q.r5))
  ne : q.R.Nodup
  m1 : ∃ F, VM w 144 q.r1 N F ∧ ∀ n e, Wf n → Wf e → OrdAt w (F (.agg #[.int .i64 n, .int .i64 e])) (ordOf O1 n e)
  m2 : ∃ F, VM w 144 q.r2 N F ∧ ∀ n e, Wf n → Wf e → F (.agg #[.int .i64 n, .int .i64 e]) = (endOf E2 n e).map markV
  m3 : ∃ F, VM w 3 q.r3 N F ∧ ∀ n, Wf n → lookRes false (.int .i64 0) (F (.int .i64 n)) = .int .i64 (ordN O3 n)
  m4 : ∃ F, VM w 3 q.r4 N F ∧ ∀ n, Wf n → lookRes false (.int .i64 0) (F (.int .i64 n)) = .int .i64 (endN E4 n)
  m5 : ∃ F, VM w 3 q.r5 N F ∧ ∀ e, Wf e → CrewAt f w (F (.int .i64 e)) (crewOf f O5 e)
  inv : OInv f l O1
  inv2 : ∀ x ∈ E2, (0 ≤ x.2.2.1 ∧ x.2.2.1 ≤ 9007199254740991) ∧ 0 ≤ x.2.2.2 ∧ x.2.2.2 ≤ 255
  inv4 : ∀ n, endN E4 n ≤ 64
  good : goodC f l = true
abbrev HandAt (w : World) (q : HLoc) (N : Nat) (f : Int) (l : List Int) (O : List (Int × Int × List Int)) (E : List (Int × Int × Int × Int)) : Prop := HandX w q N f l O O O E E

section
variable {w w' : World} {q : HLoc} {N : Nat} {f : Int} {l : List Int} {O1 O3 O5 : List (Int × Int × List Int)} {E2 E4 : List (Int × Int × Int × Int)}
/-- A map's block holds no cell. -/
theorem VM.nocell {w : World} {k : TypeId} {b n : Nat} {f : Value → Option Value} (h : VM w k b n f) (ad : Addr) (hb : ad.block = b) : w.cell? ad = none := by
  subst hb
  obtain ⟨D, ⟨es, clock, h1, h2⟩, r⟩ := h
  simp [World.cell?, h1]
theorem HandX.notR (h : HandX w q N f l O1 O3 O5 E2 E4) {a : Addr} {v : Value} (hc : w.cell? a = some v) : a.block ∉ q.R := by
  obtain ⟨F1, m1, _⟩ := h.m1
  obtain ⟨F2, m2, _⟩ := h.m2
  obtain ⟨F3, m3, _⟩ := h.m3
  obtain ⟨F4, m4, _⟩ := h.m4
  obtain ⟨F5, m5, _⟩ := h.m5
  obtain ⟨b, o, s⟩ := a
  intro hm
  simp only [HLoc.R, List.mem_cons, List.not_mem_nil, or_false] at hm
  rcases hm with rfl | rfl | rfl | rfl | rfl
  · rw [m1.nocell _ rfl] at hc; cases hc
  · rw [m2.nocell _ rfl] at hc; cases hc
  · rw [m3.nocell _ rfl] at hc; cases hc
  · rw [m4.nocell _ rfl] at hc; cases hc
  · rw [m5.nocell _ rfl] at hc; cases hc
theorem Only.cell {R : List Nat} {w w' : World} (h : Only R w w') {a : Addr} {v : Value} (hn : a.block ∉ R) (hc : w.cell? a = some v) : w'.cell? a = some v :=
  (World.cell?_of_block (h.block a.block (block_lt_of_cell hc) hn)).trans hc
theorem Only.ints {R : List Nat} {w w' : World} {a : Option Addr} {l : List Int} (h : Only R w w') (hn : ∀ ad : Addr, ∀ v, w.cell? ad = some v → ad.block ∉ R) (hI : Ints w a l) : Ints w' a l := by
  refine ⟨hI.1, ?_⟩
  rcases hI.2 with rfl | ⟨b, off, rfl, hc⟩
  · exact .inl rfl
  · exact .inr ⟨b, off, rfl, fun i hi => h.cell (hn _ _ (hc i hi)) (hc i hi)⟩
theorem HandX.keep (h : HandX w q N f l O1 O3 O5 E2 E4) (ho : Only q.R w w') {a : Addr} {v : Value} (hc : w.cell? a = some v) : w'.cell? a = some v := ho.cell (h.notR hc) hc
theorem HandX.keepI (h : HandX w q N f l O1 O3 O5 E2 E4) (ho : Only q.R w w') {a : Option Addr} {m : List Int} (hI : Ints w a m) : Ints w' a m := ho.ints (fun _ _ hc => h.notR hc) hI

theorem OrdAt.of {w w' : World} {v : Option Value} {m : Option (List Int)} (h : OrdAt w v m) (hI : ∀ a l, Ints w a l → Ints w' a l) : OrdAt w' v m := by
  cases m with
  | none => exact h
  | some l => obtain ⟨a, cap, e, hh⟩ := h; exact ⟨a, cap, e, hI _ _ hh⟩
theorem CrewAt.of {f : Int} {w w' : World} {v : Option Value} {m : Option (List Int)} (h : CrewAt f w v m) (hI : ∀ a l, Ints w a l → Ints w' a l) : CrewAt f w' v m := by
  cases m with
  | none => exact h
  | some l => obtain ⟨a, cap, e, hh, hn⟩ := h; exact ⟨a, cap, e, hI _ _ hh, hn⟩
/-- The hand is as it was where its cells and maps are, and lists of ints. -/
theorem HandX.same (h : HandX w q N f l O1 O3 O5 E2 E4) (hc : ∀ a v, w.cell? a = some v → w'.cell? a = some v)
    (hb : ∀ b, b ∈ q.R → w'.heap[b]? = w.heap[b]?) : HandX w' q N f l O1 O3 O5 E2 E4 := by
  have hI : ∀ a l, Ints w a l → Ints w' a l := fun a l hI => ⟨hI.1, hI.2.imp id fun ⟨b, off, e, hh⟩ => ⟨b, off, e, fun i hi => hc _ _ (hh i hi)⟩⟩
  obtain ⟨a, cap, c1, i1⟩ := h.c1
  obtain ⟨F1, m1, n1⟩ := h.m1
  obtain ⟨F2, m2, n2⟩ := h.m2
  obtain ⟨F3, m3, n3⟩ := h.m3
  obtain ⟨F4, m4, n4⟩ := h.m4
  obtain ⟨F5, m5, n5⟩ := h.m5
  exact ⟨hc _ _ h.c0, ⟨a, cap, hc _ _ c1, hI _ _ i1⟩, hc _ _ h.c2, hc _ _ h.c3, hc _ _ h.c4, hc _ _ h.c5, hc _ _ h.c6, h.ne,
    ⟨F1, m1.block (hb _ (by simp [HLoc.R])), fun n e hn he => (n1 n e hn he).of hI⟩, ⟨F2, m2.block (hb _ (by simp [HLoc.R])), n2⟩, ⟨F3, m3.block (hb _ (by simp [HLoc.R])), n3⟩, ⟨F4, m4.block (hb _ (by simp [HLoc.R])), n4⟩,
    ⟨F5, m5.block (hb _ (by simp [HLoc.R])), fun e he => (n5 e he).of hI⟩, h.inv, h.inv2, h.inv4, h.good⟩
theorem HandX.lt (h : HandX w q N f l O1 O3 O5 E2 E4) : ∀ b ∈ q.R, b < w.heap.size := by
  obtain ⟨F1, m1, _⟩ := h.m1
  obtain ⟨F2, m2, _⟩ := h.m2
  obtain ⟨F3, m3, _⟩ := h.m3
  obtain ⟨F4, m4, _⟩ := h.m4
  obtain ⟨F5, m5, _⟩ := h.m5
  intro b hm
  simp only [HLoc.R, List.mem_cons, List.not_mem_nil, or_false] at hm
  rcases hm with rfl | rfl | rfl | rfl | rfl
  · exact m1.lt
  · exact m2.lt
  · exact m3.lt
  · exact m4.lt
  · exact m5.lt
theorem HandX.below (h : HandX w q N f l O1 O3 O5 E2 E4) (hb : Below w.heap.size w w') : HandX w' q N f l O1 O3 O5 E2 E4 :=
  h.same (fun _ _ hc => keepc hb hc) (fun b hm => hb.block b (h.lt b hm))
theorem HandX.drewN (h : HandX w q N f l O1 O3 O5 E2 E4) (n : Nat) : HandX (w.drewN n) q N f l O1 O3 O5 E2 E4 := h.below (below_drewN (Below.refl _ _) n)
/-- Another hand's doings. -/
theorem HandX.other {q' : HLoc} (h : HandX w q N f l O1 O3 O5 E2 E4) (ho : Only q'.R w w') (hq : ∀ a v, w.cell? a = some v → a.block ∉ q'.R) (hd : ∀ b ∈ q.R, b ∉ q'.R) : HandX w' q N f l O1 O3 O5 E2 E4 :=
  h.same (fun a v hc => ho.cell (hq a v hc) hc) (fun b hm => ho.block b (h.lt b hm) (hd b hm))

theorem zero22 (w : World) : (zeroValue 22).run Try.prog w = .ok (.slice none 0 0) w := by kernel_rfl
theorem zero24 (w : World) : (zeroValue 24).run Try.prog w = .ok (.agg #[.int .i64 0, .slice none 0 0]) w := by kernel_rfl
theorem zero3 (w : World) : (zeroValue 3).run Try.prog w = .ok (.int .i64 0) w := by kernel_rfl
theorem HandX.look1 (h : HandX w q N f l O1 O3 O5 E2 E4) {n e : Int} (hn : Wf n) (he : Wf e) (c : Bool) :
    ∃ v, (Instr.lookup 61 (.map (some q.r1)) (.agg #[.int .i64 n, .int .i64 e]) c).run Try.prog w = .ok (lookRes c (.slice none 0 0) v) w ∧ OrdAt w v (ordOf O1 n e) := by
  obtain ⟨F, m, g⟩ := h.m1
  obtain ⟨kl, hk⟩ := keyOf_hand hn he
  exact ⟨_, m.look c hand_key Try.underlying61 (zero22 w) hk, g n e hn he⟩
theorem HandX.look2 (h : HandX w q N f l O1 O3 O5 E2 E4) {n e : Int} (hn : Wf n) (he : Wf e) (c : Bool) :
    (Instr.lookup 62 (.map (some q.r2)) (.agg #[.int .i64 n, .int .i64 e]) c).run Try.prog w = .ok (lookRes c (markV (0, 0)) ((endOf E2 n e).map markV)) w := by
  obtain ⟨F, m, g⟩ := h.m2
  obtain ⟨kl, hk⟩ := keyOf_hand hn he
  rw [m.look c hand_key Try.underlying62 (zero47 w) hk, g n e hn he]; rfl
theorem HandX.look3 (h : HandX w q N f l O1 O3 O5 E2 E4) {n : Int} (hn : Wf n) :
    (Instr.lookup 63 (.map (some q.r3)) (.int .i64 n) false).run Try.prog w = .ok (.int .i64 (ordN O3 n)) w := by
  obtain ⟨F, m, g⟩ := h.m3
  obtain ⟨kl, hk⟩ := keyOf_i hn
  rw [m.look false int_key Try.underlying63 (zero3 w) hk, g n hn]
theorem HandX.look4 (h : HandX w q N f l O1 O3 O5 E2 E4) {n : Int} (hn : Wf n) :
    (Instr.lookup 63 (.map (some q.r4)) (.int .i64 n) false).run Try.prog w = .ok (.int .i64 (endN E4 n)) w := by
  obtain ⟨F, m, g⟩ := h.m4
  obtain ⟨kl, hk⟩ := keyOf_i hn
  rw [m.look false int_key Try.underlying63 (zero3 w) hk, g n hn]
theorem HandX.look5 (h : HandX w q N f l O1 O3 O5 E2 E4) {e : Int} (he : Wf e) :
    ∃ v, (Instr.lookup 64 (.map (some q.r5)) (.int .i64 e) true).run Try.prog w = .ok (lookRes true (.agg #[.int .i64 0, .slice none 0 0]) v) w ∧ CrewAt f w v (crewOf f O5 e) := by
  obtain ⟨F, m, g⟩ := h.m5
  obtain ⟨kl, hk⟩ := keyOf_i he
  exact ⟨_, m.look true int_key Try.underlying64 (zero24 w) hk, g e he⟩

theorem HandX.store1 (h : HandX w q N f l O1 O3 O5 E2 E4) (hN : N < maxLen) {n e : Int} {a : Option Addr} {cap : Nat} {m : List Int} (hn : Wf n) (he : Wf e) (hI : Ints w a m) (hno : ordOf O1 n e = none) (hinv : OInv f l (O1 ++ [(n, e, m)])) :
    ∃ w', (Instr.mapUpdate 61 (.map (some q.r1)) (.agg #[.int .i64 n, .int .i64 e]) (.slice a m.length cap)).run Try.prog w = .ok () w' ∧ HandX w' q (N + 1) f l (O1 ++ [(n, e, m)]) O3 O5 E2 E4 ∧ w.grownBy w' (some q.r1) := by
  obtain ⟨F, v1, g⟩ := h.m1
  obtain ⟨kl, hk⟩ := keyOf_hand hn he
  obtain ⟨w', h1, h2, h3⟩ := v1.store (val := .slice a m.length cap) hand_key Try.underlying61 hN hk
  have ho : Only q.R w w' := Only.of_grown h3 (by simp [HLoc.R])
  have hne := h.ne
  simp only [HLoc.R, List.nodup_cons, List.mem_cons, List.not_mem_nil, or_false, not_or] at hne
  have hX : HandX w' q (N + 1) f l (O1 ++ [(n, e, m)]) O3 O5 E2 E4 := by
    obtain ⟨a', cap', c1, i1⟩ := h.c1
    obtain ⟨F2, m2, n2⟩ := h.m2
    obtain ⟨F3, m3, n3⟩ := h.m3
    obtain ⟨F4, m4, n4⟩ := h.m4
    obtain ⟨F5, m5, n5⟩ := h.m5
    refine ⟨h.keep ho h.c0, ⟨a', cap', h.keep ho c1, h.keepI ho i1⟩, h.keep ho h.c2, h.keep ho h.c3, h.keep ho h.c4, h.keep ho h.c5, h.keep ho h.c6, h.ne, ⟨_, h2, ?_⟩,
      ⟨F2, (m2.block (h3.block _ m2.lt (by simp; omega))).mono (by omega), n2⟩, ⟨F3, (m3.block (h3.block _ m3.lt (by simp; omega))).mono (by omega), n3⟩, ⟨F4, (m4.block (h3.block _ m4.lt (by simp; omega))).mono (by omega), n4⟩,
      ⟨F5, (m5.block (h3.block _ m5.lt (by simp; omega))).mono (by omega), fun e he => (n5 e he).of fun _ _ => h.keepI ho⟩, hinv, h.inv2, h.inv4, h.good⟩
    intro n' e' hn' he'
    unfold upd
    rw [ordOf_snoc]
    by_cases hq : n = n' ∧ e = e'
    · obtain ⟨rfl, rfl⟩ := hq
      rw [if_pos rfl, hno]
      simp only [and_self, if_true]
      exact ⟨a, cap, rfl, h.keepI ho hI⟩
    · rw [if_neg (by intro hh; simp at hh; exact hq ⟨hh.1.symm, hh.2.symm⟩)]
      have hg := (g n' e' hn' he').of (w' := w') fun _ _ => h.keepI ho
      cases hc : ordOf O1 n' e' with
      | some r => rw [hc] at hg; exact hg
      | none => rw [hc] at hg; simp only [if_neg hq]; exact hg
  exact ⟨w', h1, hX, h3⟩
theorem HandX.store3 (h : HandX w q N f l O1 O3 O5 E2 E4) (hN : N < maxLen) {n : Int} {O3' : List (Int × Int × List Int)} (hn : Wf n) (hO : ∀ n', ordN O3' n' = ordN O3 n' + (if n = n' then 1 else 0)) :
    ∃ w', (Instr.mapUpdate 63 (.map (some q.r3)) (.int .i64 n) (.int .i64 (ordN O3 n + 1))).run Try.prog w = .ok () w' ∧ HandX w' q (N + 1) f l O1 O3' O5 E2 E4 ∧ w.grownBy w' (some q.r3) := by
  obtain ⟨F, v1, g⟩ := h.m3
  obtain ⟨kl, hk⟩ := keyOf_i hn
  obtain ⟨w', h1, h2, h3⟩ := v1.store (val := .int .i64 (ordN O3 n + 1)) int_key Try.underlying63 hN hk
  have ho : Only q.R w w' := Only.of_grown h3 (by simp [HLoc.R])
  have hne := h.ne
  simp only [HLoc.R, List.nodup_cons, List.mem_cons, List.not_mem_nil, or_false, not_or] at hne
  have hX : HandX w' q (N + 1) f l O1 O3' O5 E2 E4 := by
    obtain ⟨a', cap', c1, i1⟩ := h.c1
    obtain ⟨F1, m1, n1⟩ := h.m1
    obtain ⟨F2, m2, n2⟩ := h.m2
    obtain ⟨F4, m4, n4⟩ := h.m4
    obtain ⟨F5, m5, n5⟩ := h.m5
    refine ⟨h.keep ho h.c0, ⟨a', cap', h.keep ho c1, h.keepI ho i1⟩, h.keep ho h.c2, h.keep ho h.c3, h.keep ho h.c4, h.keep ho h.c5, h.keep ho h.c6, h.ne,
      ⟨F1, (m1.block (h3.block _ m1.lt (by simp; omega))).mono (by omega), fun n e hn he => (n1 n e hn he).of fun _ _ => h.keepI ho⟩,
      ⟨F2, (m2.block (h3.block _ m2.lt (by simp; omega))).mono (by omega), n2⟩, ⟨_, h2, ?_⟩, ⟨F4, (m4.block (h3.block _ m4.lt (by simp; omega))).mono (by omega), n4⟩,
      ⟨F5, (m5.block (h3.block _ m5.lt (by simp; omega))).mono (by omega), fun e he => (n5 e he).of fun _ _ => h.keepI ho⟩, h.inv, h.inv2, h.inv4, h.good⟩
    intro n' hn'
    unfold upd
    rw [hO]
    by_cases hq : n = n'
    · subst hq
      rw [if_pos rfl, if_pos rfl]
      simp [lookRes]
    · rw [if_neg (by intro hh; simp at hh; exact hq hh.symm), if_neg hq]
      exact g n' hn'
  exact ⟨w', h1, hX, h3⟩
theorem HandX.store5 (h : HandX w q N f l O1 O3 O5 E2 E4) (hN : N < maxLen) {e : Int} {a : Option Addr} {cap : Nat} {m : List Int} {O5' : List (Int × Int × List Int)} (he : Wf e) (hI : Ints w a m) (hn : a = none → cap = 0)
    (hO : ∀ e', crewOf f O5' e' = if e' = e then some m else crewOf f O5 e') :
    ∃ w', (Instr.mapUpdate 64 (.map (some q.r5)) (.int .i64 e) (.agg #[.int .i64 f, .slice a m.length cap])).run Try.prog w = .ok () w' ∧ HandX w' q (N + 1) f l O1 O3 O5' E2 E4 ∧ w.grownBy w' (some q.r5) := by
  obtain ⟨F, v1, g⟩ := h.m5
  obtain ⟨kl, hk⟩ := keyOf_i he
  obtain ⟨w', h1, h2, h3⟩ := v1.store (val := .agg #[.int .i64 f, .slice a m.length cap]) int_key Try.underlying64 hN hk
  have ho : Only q.R w w' := Only.of_grown h3 (by simp [HLoc.R])
  have hne := h.ne
  simp only [HLoc.R, List.nodup_cons, List.mem_cons, List.not_mem_nil, or_false, not_or] at hne
  have hX : HandX w' q (N + 1) f l O1 O3 O5' E2 E4 := by
    obtain ⟨a', cap', c1, i1⟩ := h.c1
    obtain ⟨F1, m1, n1⟩ := h.m1
    obtain ⟨F2, m2, n2⟩ := h.m2
    obtain ⟨F3, m3, n3⟩ := h.m3
    obtain ⟨F4, m4, n4⟩ := h.m4
    refine ⟨h.keep ho h.c0, ⟨a', cap', h.keep ho c1, h.keepI ho i1⟩, h.keep ho h.c2, h.keep ho h.c3, h.keep ho h.c4, h.keep ho h.c5, h.keep ho h.c6, h.ne,
      ⟨F1, (m1.block (h3.block _ m1.lt (by simp; omega))).mono (by omega), fun n e hn he => (n1 n e hn he).of fun _ _ => h.keepI ho⟩,
      ⟨F2, (m2.block (h3.block _ m2.lt (by simp; omega))).mono (by omega), n2⟩, ⟨F3, (m3.block (h3.block _ m3.lt (by simp; omega))).mono (by omega), n3⟩, ⟨F4, (m4.block (h3.block _ m4.lt (by simp; omega))).mono (by omega), n4⟩,
      ⟨_, h2, ?_⟩, h.inv, h.inv2, h.inv4, h.good⟩
    intro e' he'
    unfold upd
    rw [hO]
    by_cases hq : e' = e
    · subst hq
      rw [if_pos rfl, if_pos rfl]
      exact ⟨a, cap, rfl, h.keepI ho hI, hn⟩
    · rw [if_neg (by intro hh; simp at hh; exact hq hh), if_neg hq]
      exact (g e' he').of fun _ _ => h.keepI ho
  exact ⟨w', h1, hX, h3⟩
theorem HandX.mono (h : HandX w q N f l O1 O3 O5 E2 E4) {N' : Nat} (hN : N ≤ N') {O5' : List (Int × Int × List Int)} (hO : ∀ e', crewOf f O5' e' = crewOf f O5 e') : HandX w q N' f l O1 O3 O5' E2 E4 := by
  obtain ⟨F1, m1, n1⟩ := h.m1
  obtain ⟨F2, m2, n2⟩ := h.m2
  obtain ⟨F3, m3, n3⟩ := h.m3
  obtain ⟨F4, m4, n4⟩ := h.m4
  obtain ⟨F5, m5, n5⟩ := h.m5
  exact ⟨h.c0, h.c1, h.c2, h.c3, h.c4, h.c5, h.c6, h.ne, ⟨F1, m1.mono hN, n1⟩, ⟨F2, m2.mono hN, n2⟩, ⟨F3, m3.mono hN, n3⟩, ⟨F4, m4.mono hN, n4⟩, ⟨F5, m5.mono hN, fun e he => by rw [hO]; exact n5 e he⟩, h.inv, h.inv2, h.inv4, h.good⟩
theorem HandX.store2 (h : HandX w q N f l O1 O3 O5 E2 E4) (hN : N < maxLen) {n e s r : Int} (hn : Wf n) (he : Wf e) (hno : endOf E2 n e = none) (hsr : (0 ≤ s ∧ s ≤ 9007199254740991) ∧ 0 ≤ r ∧ r ≤ 255) :
    ∃ w', (Instr.mapUpdate 62 (.map (some q.r2)) (.agg #[.int .i64 n, .int .i64 e]) (markV (s, r))).run Try.prog w = .ok () w' ∧ HandX w' q (N + 1) f l O1 O3 O5 (E2 ++ [(n, e, s, r)]) E4 ∧ w.grownBy w' (some q.r2) := by
  obtain ⟨F, v1, g⟩ := h.m2
  obtain ⟨kl, hk⟩ := keyOf_hand hn he
  obtain ⟨w', h1, h2, h3⟩ := v1.store (val := markV (s, r)) hand_key Try.underlying62 hN hk
  have ho : Only q.R w w' := Only.of_grown h3 (by simp [HLoc.R])
  have hne := h.ne
  simp only [HLoc.R, List.nodup_cons, List.mem_cons, List.not_mem_nil, or_false, not_or] at hne
  have hX : HandX w' q (N + 1) f l O1 O3 O5 (E2 ++ [(n, e, s, r)]) E4 := by
    obtain ⟨a', cap', c1, i1⟩ := h.c1
    obtain ⟨F1, m1, n1⟩ := h.m1
    obtain ⟨F3, m3, n3⟩ := h.m3
    obtain ⟨F4, m4, n4⟩ := h.m4
    obtain ⟨F5, m5, n5⟩ := h.m5
    refine ⟨h.keep ho h.c0, ⟨a', cap', h.keep ho c1, h.keepI ho i1⟩, h.keep ho h.c2, h.keep ho h.c3, h.keep ho h.c4, h.keep ho h.c5, h.keep ho h.c6, h.ne,
      ⟨F1, (m1.block (h3.block _ m1.lt (by simp; omega))).mono (by omega), fun n e hn he => (n1 n e hn he).of fun _ _ => h.keepI ho⟩,
      ⟨_, h2, ?_⟩, ⟨F3, (m3.block (h3.block _ m3.lt (by simp; omega))).mono (by omega), n3⟩, ⟨F4, (m4.block (h3.block _ m4.lt (by simp; omega))).mono (by omega), n4⟩,
      ⟨F5, (m5.block (h3.block _ m5.lt (by simp; omega))).mono (by omega), fun e he => (n5 e he).of fun _ _ => h.keepI ho⟩, h.inv, (fun x hx => (List.mem_append.1 hx).elim (h.inv2 x) (fun hx => by rw [List.mem_singleton.1 hx]; exact hsr)), h.inv4, h.good⟩
    intro n' e' hn' he'
    unfold upd
    rw [endOf_snoc]
    by_cases hq : n = n' ∧ e = e'
    · obtain ⟨rfl, rfl⟩ := hq
      rw [if_pos rfl, hno]
      simp
    · rw [if_neg (by intro hh; simp at hh; exact hq ⟨hh.1.symm, hh.2.symm⟩)]
      have hg := g n' e' hn' he'
      cases hc : endOf E2 n' e' with
      | some r => rw [hc] at hg; exact hg
      | none => rw [hc] at hg; simp only [if_neg hq]; exact hg
  exact ⟨w', h1, hX, h3⟩
theorem endN_bd {E4 E4' : List (Int × Int × Int × Int)} {n : Int} (h : ∀ n, endN E4 n ≤ 64) (hO : ∀ n', endN E4' n' = endN E4 n' + (if n = n' then 1 else 0)) (hfull : endN E4 n ≠ 64) : ∀ n', endN E4' n' ≤ 64 := by
  intro n'
  rw [hO]
  have h1 := h n'
  by_cases hq : n = n'
  · subst hq; rw [if_pos rfl]; omega
  · rw [if_neg hq]; omega
theorem HandX.store4 (h : HandX w q N f l O1 O3 O5 E2 E4) (hN : N < maxLen) {n : Int} {E4' : List (Int × Int × Int × Int)} (hn : Wf n) (hO : ∀ n', endN E4' n' = endN E4 n' + (if n = n' then 1 else 0)) (hfull : endN E4 n ≠ 64) :
    ∃ w', (Instr.mapUpdate 63 (.map (some q.r4)) (.int .i64 n) (.int .i64 (endN E4 n + 1))).run Try.prog w = .ok () w' ∧ HandX w' q (N + 1) f l O1 O3 O5 E2 E4' ∧ w.grownBy w' (some q.r4) := by
  obtain ⟨F, v1, g⟩ := h.m4
  obtain ⟨kl, hk⟩ := keyOf_i hn
  obtain ⟨w', h1, h2, h3⟩ := v1.store (val := .int .i64 (endN E4 n + 1)) int_key Try.underlying63 hN hk
  have ho : Only q.R w w' := Only.of_grown h3 (by simp [HLoc.R])
  have hne := h.ne
  simp only [HLoc.R, List.nodup_cons, List.mem_cons, List.not_mem_nil, or_false, not_or] at hne
  have hX : HandX w' q (N + 1) f l O1 O3 O5 E2 E4' := by
    obtain ⟨a', cap', c1, i1⟩ := h.c1
    obtain ⟨F1, m1, n1⟩ := h.m1
    obtain ⟨F2, m2, n2⟩ := h.m2
    obtain ⟨F3, m3, n3⟩ := h.m3
    obtain ⟨F5, m5, n5⟩ := h.m5
    refine ⟨h.keep ho h.c0, ⟨a', cap', h.keep ho c1, h.keepI ho i1⟩, h.keep ho h.c2, h.keep ho h.c3, h.keep ho h.c4, h.keep ho h.c5, h.keep ho h.c6, h.ne,
      ⟨F1, (m1.block (h3.block _ m1.lt (by simp; omega))).mono (by omega), fun n e hn he => (n1 n e hn he).of fun _ _ => h.keepI ho⟩,
      ⟨F2, (m2.block (h3.block _ m2.lt (by simp; omega))).mono (by omega), n2⟩, ⟨F3, (m3.block (h3.block _ m3.lt (by simp; omega))).mono (by omega), n3⟩, ⟨_, h2, ?_⟩,
      ⟨F5, (m5.block (h3.block _ m5.lt (by simp; omega))).mono (by omega), fun e he => (n5 e he).of fun _ _ => h.keepI ho⟩, h.inv, h.inv2, endN_bd h.inv4 hO hfull, h.good⟩
    intro n' hn'
    unfold upd
    rw [hO]
    by_cases hq : n = n'
    · subst hq
      rw [if_pos rfl, if_pos rfl]
      simp [lookRes]
    · rw [if_neg (by intro hh; simp at hh; exact hq hh.symm), if_neg hq]
      exact g n' hn'
  exact ⟨w', h1, hX, h3⟩
theorem HandX.drew (h : HandX w q N f l O1 O3 O5 E2 E4) : HandX w.drew q N f l O1 O3 O5 E2 E4 := h.below (Below.refl _ _).drew
theorem HandX.look1s (h : HandX w q N f l O1 O3 O5 E2 E4) {n e : Int} {m : List Int} (hn : Wf n) (he : Wf e) (hm : m ≠ []) :
    ∃ a0 cap0 m0, (Instr.lookup 61 (.map (some q.r1)) (.agg #[.int .i64 n, .int .i64 e]) false).run Try.prog w = .ok (.slice a0 (m0 : List Int).length cap0) w ∧ Ints w a0 m0 ∧ (m0 = m ↔ ordOf O1 n e = some m) := by
  obtain ⟨v, h1, h2⟩ := h.look1 hn he false
  cases hc : ordOf O1 n e with
  | none =>
    rw [hc] at h2
    have h2' : v = none := h2
    subst h2'
    exact ⟨none, 0, [], h1, Ints.nil _ _, by simp; exact hm⟩
  | some m0 =>
    rw [hc] at h2
    obtain ⟨a0, cap0, rfl, hI⟩ := h2
    exact ⟨a0, cap0, m0, h1, hI, by simp⟩
theorem HandX.look5s (h : HandX w q N f l O1 O3 O5 E2 E4) {e : Int} (he : Wf e) :
    ∃ F0 a0 n0 cap0, (Instr.lookup 64 (.map (some q.r5)) (.int .i64 e) true).run Try.prog w = .ok (.tuple #[.agg #[.int .i64 F0, .slice a0 n0 cap0], .bool (crewOf f O5 e).isSome]) w := by
  obtain ⟨v, h1, h2⟩ := h.look5 he
  cases hc : crewOf f O5 e with
  | none =>
    rw [hc] at h2
    have h2' : v = none := h2
    subst h2'
    exact ⟨_, _, _, _, h1⟩
  | some m0 =>
    rw [hc] at h2
    obtain ⟨a0, cap0, rfl, hI⟩ := h2
    exact ⟨_, _, _, _, h1⟩
/-- What the look-ups answer, in whatever world that has drawn. -/
theorem HandX.told1 (h : HandX w q N f l O1 O3 O5 E2 E4) {n e : Int} (hn : Wf n) (he : Wf e) :
    ∃ x, ∀ k, (Instr.lookup 61 (.map (some q.r1)) (.agg #[.int .i64 n, .int .i64 e]) true).run Try.prog (w.drewN k) = .ok (.tuple #[x, .bool (ordOf O1 n e).isSome]) (w.drewN k) := by
  obtain ⟨F, m, g⟩ := h.m1
  obtain ⟨kl, hk⟩ := keyOf_hand hn he
  have hg := g n e hn he
  cases hc : ordOf O1 n e with
  | none =>
    rw [hc] at hg
    refine ⟨.slice none 0 0, fun k => ?_⟩
    rw [(m.below (below_drewN (Below.refl _ _) k)).look true hand_key Try.underlying61 (zero22 _) hk, show F _ = none from hg]; rfl
  | some m0 =>
    rw [hc] at hg
    obtain ⟨a, cap, e0, _⟩ := hg
    refine ⟨.slice a m0.length cap, fun k => ?_⟩
    rw [(m.below (below_drewN (Below.refl _ _) k)).look true hand_key Try.underlying61 (zero22 _) hk, e0]; rfl
end
end Go.Proofs.Ytldcpnabgpjgiaa.Walks
