/-
  What the values are that JournalNames makes ahead of its plays.
-/
import Derived.Test.YtdhidcoglioalaaGreatM49
import Derived.Test.YtdhidcoglioalaaGreatM50
import Derived.ArgAppend
import Derived.Great.BuildSlice
namespace Go.Proofs.YtdhidcoglioalaaGreat.Walks
open Go.RowKit Plain Jn
set_option linter.unusedVariables false

def DoW.val (x : DoW) : Value := .agg #[.int .i64 x.kd, .int .i64 x.A, .int .i64 x.bit, .slice x.la x.l.length x.lc, .slice x.ka x.K.length x.kc, .slice x.ba x.B.length x.bc]
abbrev ones : List Byte := bytesB (oneB 1)
theorem wf_small {n : Int} (h : -4096 ≤ n ∧ n ≤ 4096) : Wf n := by
  simp [Wf, Lit.wf, IntKind.min, IntKind.max, IntKind.signed, IntKind.bits]
  omega
theorem Bys.take {w : World} {a : Option Addr} {l : List Byte} (h : Bys w a l) (n : Nat) : Bys w a (l.take n) := by
  refine ⟨by have := h.1; rw [List.length_take]; omega, ?_⟩
  rcases h.2 with rfl | ⟨b, off, e, hc⟩
  · left; simp
  · right
    refine ⟨b, off, e, fun i hi => ?_⟩
    rw [List.length_take] at hi
    rw [hc i (by omega), List.getElem_take]
/-- The six puts' block. -/
structure SixM (w : World) (g1 g2 : Nat) : Prop where
  c0 : ∀ k, k < 6 → w.cell? ⟨g2, k * 2, none⟩ = some (.int .i64 (k : Int))
  c1 : ∀ k, k < 6 → w.cell? ⟨g2, k * 2 + 1, none⟩ = some (.slice (some ⟨g1, 0, none⟩) 48 48)
  b : Bys w (some ⟨g1, 0, none⟩) ones
theorem SixM.below {w w' : World} {g1 g2 : Nat} (h : SixM w g1 g2) (hb : Below w.heap.size w w') : SixM w' g1 g2 :=
  ⟨fun k hk => keepc hb (h.c0 k hk), fun k hk => keepc hb (h.c1 k hk), h.b.below hb⟩
def LV (w : World) (v : Value) : Prop := ∃ a lc l, v = .slice a l.length lc ∧ PutsC w [] a l
theorem LV.below {w w' : World} {v : Value} (h : LV w v) (hb : Below w.heap.size w w') : LV w' v := by
  obtain ⟨a, lc, l, e, h1⟩ := h
  exact ⟨a, lc, l, e, h1.below hb⟩
theorem lit_at {w : World} {b o g1 n : Nat} {z : Int} {bs : List Byte} (h0 : w.cell? ⟨b, o, none⟩ = some (.int .i64 z)) (h1 : w.cell? ⟨b, o + 1, none⟩ = some (.slice (some ⟨g1, 0, none⟩) n 48)) (hb : Bys w (some ⟨g1, 0, none⟩) bs) (hn : bs.length = n) (hz : -4096 ≤ z ∧ z ≤ 4096) :
    PutAt w [] b o (z, bs) (some ⟨g1, 0, none⟩) 48 := ⟨h0, by simp only [hn]; exact h1, hb, fun _ _ => by simp, wf_small hz⟩
/-- Some of the six. -/
theorem puts_six {w : World} {g1 g2 : Nat} (h : SixM w g1 g2) (i n : Nat) (hi : i + n ≤ 6) : PutsC w [] (some ⟨g2, i * 2, none⟩) ((List.range n).map fun k => (((i + k : Nat) : Int), ones)) := by
  have hl : ((List.range n).map fun k => (((i + k : Nat) : Int), ones)).length = n := by simp
  refine ⟨by rw [hl]; omega, fun x hx => ?_, .inr ⟨g2, i * 2, rfl, by simp, fun k hk => ?_⟩⟩
  · simp only [List.mem_map, List.mem_range] at hx
    obtain ⟨k, hk, rfl⟩ := hx
    exact ⟨wf_small (by simp only; omega), by simp only [bytesB_length]; omega⟩
  · rw [hl] at hk
    refine ⟨some ⟨g1, 0, none⟩, 48, ?_, fun e => by cases e⟩
    have e : ((List.range n).map fun k => (((i + k : Nat) : Int), ones))[k]'(by rw [hl]; exact hk) = (((i + k : Nat) : Int), ones) := by simp
    rw [e]
    exact lit_at (by rw [show i * 2 + k * 2 = (i + k) * 2 by omega]; exact h.c0 (i + k) (by omega)) (by rw [show i * 2 + k * 2 + 1 = (i + k) * 2 + 1 by omega]; exact h.c1 (i + k) (by omega)) h.b (bytesB_length _) (by omega)
theorem lv_six {w : World} {g1 g2 : Nat} (h : SixM w g1 g2) (i n lc : Nat) (hi : i + n ≤ 6) : LV w (.slice (some ⟨g2, i * 2, none⟩) n lc) :=
  ⟨_, lc, (List.range n).map fun k => (((i + k : Nat) : Int), ones), by simp, puts_six h i n hi⟩
theorem lv_one {w : World} {b g1 n lc : Nat} {z : Int} {bs : List Byte} (h0 : w.cell? ⟨b, 0, none⟩ = some (.int .i64 z)) (h1 : w.cell? ⟨b, 1, none⟩ = some (.slice (some ⟨g1, 0, none⟩) n 48)) (hb : Bys w (some ⟨g1, 0, none⟩) bs) (hn : bs.length = n) (hn2 : n ≤ 100) (hz : -4096 ≤ z ∧ z ≤ 4096) : LV w (.slice (some ⟨b, 0, none⟩) 1 lc) := by
  refine ⟨_, lc, [(z, bs)], rfl, ⟨by simp, fun x hx => ?_, .inr ⟨b, 0, rfl, by simp, fun k hk => ?_⟩⟩⟩
  · simp only [List.mem_cons, List.not_mem_nil, or_false] at hx
    subst hx
    exact ⟨wf_small hz, by simp only [hn]; exact hn2⟩
  · match k, hk with
    | 0, _ => exact ⟨_, _, lit_at h0 h1 hb hn hz, fun e => by cases e⟩
    | k + 1, hk => exact absurd hk (by simp)
theorem lv_three {w : World} {b g1 lc : Nat} (h : ∀ j u, ([.int .i64 0, .slice (some ⟨g1, 0, none⟩) 48 48, .int .i64 1, .slice (some ⟨g1, 0, none⟩) 48 48, .int .i64 1, .slice (some ⟨g1, 0, none⟩) 48 48] : List Value)[j]? = some u → w.cell? ⟨b, j, none⟩ = some u) (hb : Bys w (some ⟨g1, 0, none⟩) ones) : LV w (.slice (some ⟨b, 0, none⟩) 3 lc) := by
  refine ⟨_, lc, [(0, ones), (1, ones), (1, ones)], rfl, ⟨by simp, fun x hx => ?_, .inr ⟨b, 0, rfl, by simp, fun k hk => ?_⟩⟩⟩
  · simp only [List.mem_cons, List.not_mem_nil, or_false] at hx
    rcases hx with rfl | rfl | rfl
    · exact ⟨wf_small (by decide), by simp only [bytesB_length]; omega⟩
    · exact ⟨wf_small (by decide), by simp only [bytesB_length]; omega⟩
    · exact ⟨wf_small (by decide), by simp only [bytesB_length]; omega⟩
  · match k, hk with
    | 0, _ => exact ⟨_, _, lit_at (h 0 _ rfl) (h 1 _ rfl) hb (bytesB_length _) (by decide), fun e => by cases e⟩
    | 1, _ => exact ⟨_, _, lit_at (h 2 _ rfl) (h 3 _ rfl) hb (bytesB_length _) (by decide), fun e => by cases e⟩
    | 2, _ => exact ⟨_, _, lit_at (h 4 _ rfl) (h 5 _ rfl) hb (bytesB_length _) (by decide), fun e => by cases e⟩
    | k + 3, hk => exact absurd hk (by simp)
def OneP (w : World) (g1 : Nat) (v : Value) : Prop := ∃ g, v = .slice (some ⟨g, 0, none⟩) 1 1 ∧ w.cell? ⟨g, 0, none⟩ = some (.int .i64 1) ∧ w.cell? ⟨g, 1, none⟩ = some (.slice (some ⟨g1, 0, none⟩) 48 48)
def DV (S : Prop) (w : World) (v : Value) : Prop := ∃ x : DoW, v = x.val ∧ x.Ok w S
theorem DoW.Ok.below {x : DoW} {S : Prop} {w w' : World} (h : x.Ok w S) (hb : Below w.heap.size w w') : x.Ok w' S :=
  ⟨⟨h.old.k.below hb, h.old.kn, h.old.b.below hb, h.old.bn, h.old.bl⟩, h.a, h.h4, h.h8, h.l.below hb⟩
def LstV (S : Prop) (n : Nat) (w : World) (v : Value) : Prop := ∃ g, v = .slice (some ⟨g, 0, none⟩) n n ∧ DosJ w (some ⟨g, 0, none⟩) n S
theorem DosJ.below {w w' : World} {a : Option Addr} {n : Nat} {S : Prop} (h : DosJ w a n S) (hb : Below w.heap.size w w') : DosJ w' a n S :=
  h.imp id fun ⟨b, off, e, hc⟩ => ⟨b, off, e, fun i hi => by
    obtain ⟨x, h0, h1, h2, h3, h4, h5, ok⟩ := hc i hi
    exact ⟨x, keepc hb h0, keepc hb h1, keepc hb h2, keepc hb h3, keepc hb h4, keepc hb h5, ok.below hb⟩⟩
/-- What a slot holds: a value, or a list of puts, or one put, or a list of deeds, or a deed. -/
inductive Knd where
  | ex (v : Value)
  | lv
  | onep
  | lst
  | dv
def Knd.is (g1 : Nat) (S : Prop) (n : Nat) (v : Value) (w : World) : Knd → Prop
  | .ex u => v = u
  | .lv => LV w v
  | .onep => OneP w g1 v
  | .lst => LstV S n w v
  | .dv => DV S w v
theorem Knd.below {g1 n : Nat} {S : Prop} {v : Value} {w w' : World} {k : Knd} (h : k.is g1 S n v w) (hb : Below w.heap.size w w') : k.is g1 S n v w' := by
  cases k with
  | ex u => exact h
  | lv => exact LV.below h hb
  | onep =>
    obtain ⟨g, e, h1, h2⟩ := h
    exact ⟨g, e, keepc hb h1, keepc hb h2⟩
  | lst =>
    obtain ⟨g, e, h1⟩ := h
    exact ⟨g, e, h1.below hb⟩
  | dv =>
    obtain ⟨x, e, h1⟩ := h
    exact ⟨x, e, h1.below hb⟩
def onesV (g1 : Nat) : Value := .slice (some ⟨g1, 0, none⟩) 48 48
def sixV (g2 : Nat) : Value := .slice (some ⟨g2, 0, none⟩) 6 6
def kndN (g1 g2 k : Nat) : Knd :=
  if k = 88 ∨ k = 92 ∨ k = 96 ∨ k = 125 then .ex (onesV g1)
  else if k = 76 ∨ k = 79 ∨ k = 81 ∨ k = 84 ∨ k = 101 ∨ k = 103 ∨ k = 114 ∨ k = 122 then .ex (sixV g2)
  else if k = 97 then .ex (.slice (some ⟨g1, 0, none⟩) 47 48)
  else if k = 89 then .ex (.agg #[.int .i64 12, .slice (some ⟨g1, 0, none⟩) 48 48])
  else if k = 93 then .ex (.agg #[.int .i64 (-1), .slice (some ⟨g1, 0, none⟩) 48 48])
  else if k = 98 then .ex (.agg #[.int .i64 1, .slice (some ⟨g1, 0, none⟩) 47 48])
  else if k = 102 then .ex (.slice (some ⟨g2, 0, none⟩) 2 2)
  else if k = 104 then .ex (.pointer (some ⟨g2, 2, none⟩))
  else if k = 105 then .ex (.agg #[.int .i64 1, .slice (some ⟨g1, 0, none⟩) 48 48])
  else if k = 106 then .onep
  else if k = 77 ∨ k = 82 ∨ k = 85 ∨ k = 90 ∨ k = 94 ∨ k = 99 ∨ k = 107 ∨ k = 115 ∨ k = 123 then .lv
  else if k = 131 ∨ k = 11 then .lst
  else .dv
theorem info39f : (Tryz.prog.info? 39).map (fun i => (i.zero, i.size, i.bytes)) = some (some (.agg #[.int .i64 0, .slice none 0 0]), 2, 32) := by kernel_rfl
/-- append(six[:2:2], six[1]) makes a new row. -/
theorem run_full {g1 g2 g : Nat} {w : World} (h6 : SixM w g1 g2) (hg0 : w.cell? ⟨g, 0, none⟩ = some (.int .i64 1)) (hg1 : w.cell? ⟨g, 1, none⟩ = some (.slice (some ⟨g1, 0, none⟩) 48 48)) (ty : TypeId) :
    ∃ v w', (Builtin.append_ #[40, 40] ty #[.slice (some ⟨g2, 0, none⟩) 2 2, .slice (some ⟨g, 0, none⟩) 1 1]).run Tryz.prog w = .ok v w' ∧ LV w' v ∧ Below w.heap.size w w' := by
  obtain ⟨i0, hi, hz0, hz1, hz2⟩ := info_parts info39f
  obtain ⟨v, w', h1, h2, h3⟩ := run_append_arg_grows w 40 ty 39 i0 _ 2 32 Tryz.underlying40 hi hz0 hz1 hz2 rfl (by decide) ⟨g2, 0, none⟩ 2 2 [.int .i64 0, .slice (some ⟨g1, 0, none⟩) 48 48, .int .i64 1, .slice (some ⟨g1, 0, none⟩) 48 48] rfl (fun j u hj => by
      match j, hj with
      | 0, hj => simp at hj; subst hj; exact h6.c0 0 (by decide)
      | 1, hj => simp at hj; subst hj; exact h6.c1 0 (by decide)
      | 2, hj => simp at hj; subst hj; exact h6.c0 1 (by decide)
      | 3, hj => simp at hj; subst hj; exact h6.c1 1 (by decide)
      | j + 4, hj => simp at hj)
    ⟨g, 0, none⟩ 1 1 [.int .i64 1, .slice (some ⟨g1, 0, none⟩) 48 48] rfl (fun j u hj => by
      match j, hj with
      | 0, hj => simp at hj; subst hj; exact hg0
      | 1, hj => simp at hj; subst hj; exact hg1
      | j + 2, hj => simp at hj) (by decide) (by decide) (by decide)
  have hb : Below w.heap.size w w' := ⟨h3.os, h3.tape, h3.output, h3.size, fun i hi => h3.block i hi (by simp)⟩
  refine ⟨v, w', h1, ?_, hb⟩
  obtain ⟨_, ⟨_, h0⟩ | ⟨b, cap, cur, e, _, hh, hc, hm, hs, ht⟩⟩ := h2
  · cases h0
  · subst e
    refine lv_three (fun j u hu => ?_) (h6.b.below hb)
    rw [cell_of_row _ _ _ _ _ _ hh]
    have hj : j < 6 := by
      have := (List.getElem?_eq_some_iff.1 hu).1
      simpa using this
    have := congrArg (fun z => z[j]?) ht
    simp only [List.getElem?_take, Array.getElem?_toList] at this
    rw [if_pos (by omega)] at this
    rw [this]
    exact hu
/-- A step, said with what follows as a letter. -/
theorem step_of {P : Program} {o : Oper} {d : Nat} {a : Act} {w : World} {Q : Exit → Act → World → Prop} {R : World → World → Prop} {Φ : Nat → Value → World → Prop} (hd : o.dst = some d)
    (h : ∀ K : Act → World → Prop, (∀ v w', R w w' → Φ d v w' → K { tmps := a.tmps.setIfInBounds d v, defers := a.defers } w') → o.wp P a w K Q) :
    o.wp P a w (fun a' w' => ∃ v, a' = a.put o.dst v ∧ R w w' ∧ ∀ d, o.dst = some d → Φ d v w') Q := by
  refine h _ fun v w' h1 h2 => ⟨v, ?_, h1, fun d' hd' => ?_⟩
  · rw [hd]; rfl
  · rw [hd] at hd'; cases hd'; exact h2
/-- The cells of a deed. -/
def DoCells (cells : Array Value) (o : Nat) (x : DoW) : Prop :=
  cells[o]? = some (.int .i64 x.kd) ∧ cells[o + 1]? = some (.int .i64 x.A) ∧ cells[o + 2]? = some (.int .i64 x.bit) ∧ cells[o + 3]? = some (.slice x.la x.l.length x.lc) ∧ cells[o + 4]? = some (.slice x.ka x.K.length x.kc) ∧ cells[o + 5]? = some (.slice x.ba x.B.length x.bc)
theorem fillDo_step (cells : Array Value) (k : Nat) (c0 c1 c2 c3 c4 c5 : Value) (rest : List (Nat × Value)) (h : k * 6 + 6 ≤ cells.size) :
    Instr.fill (fun i => some (i * 6, 6)) cells ((k, .agg #[c0, c1, c2, c3, c4, c5]) :: rest) = Instr.fill (fun i => some (i * 6, 6)) ((((((cells.setIfInBounds (k * 6 + 0) c0).setIfInBounds (k * 6 + 1) c1).setIfInBounds (k * 6 + 2) c2).setIfInBounds (k * 6 + 3) c3).setIfInBounds (k * 6 + 4) c4).setIfInBounds (k * 6 + 5) c5) rest := by
  rw [Instr.fill]
  split
  · rename_i h'; cases h'
  · rename_i h'
    cases h'
    split
    · rename_i h2
      exfalso
      simp [Value.cells] at h2
      omega
    · simp [Value.cells]
theorem fill_do (xs : List DoW) : ∀ (k : Nat) (cells : Array Value), (k + xs.length) * 6 ≤ cells.size →
    ∃ cells', Instr.fill (fun i => some (i * 6, 6)) cells (((xs.map DoW.val).zipIdx k).map fun p => (p.2, p.1)) = some cells' ∧ (∀ j, j < k * 6 → cells'[j]? = cells[j]?) ∧ ∀ i x, xs[i]? = some x → DoCells cells' ((k + i) * 6) x := by
  induction xs with
  | nil =>
    intro k cells h
    exact ⟨cells, rfl, fun _ _ => rfl, fun i x hx => by simp at hx⟩
  | cons x xs ih =>
    intro k cells h
    simp only [List.length_cons] at h
    obtain ⟨c1, hc1⟩ : ∃ c1, c1 = (((((cells.setIfInBounds (k * 6 + 0) (.int .i64 x.kd)).setIfInBounds (k * 6 + 1) (.int .i64 x.A)).setIfInBounds (k * 6 + 2) (.int .i64 x.bit)).setIfInBounds (k * 6 + 3) (.slice x.la x.l.length x.lc)).setIfInBounds (k * 6 + 4) (.slice x.ka x.K.length x.kc)).setIfInBounds (k * 6 + 5) (.slice x.ba x.B.length x.bc) := ⟨_, rfl⟩
    have hs : c1.size = cells.size := by rw [hc1]; simp
    obtain ⟨c', h1, h2, h3⟩ := ih (k + 1) c1 (by rw [hs]; omega)
    refine ⟨c', ?_, fun j hj => ?_, fun i y hy => ?_⟩
    · simp only [List.map_cons, List.zipIdx_cons, DoW.val]
      rw [fillDo_step cells k _ _ _ _ _ _ _ (by omega), ← hc1]
      exact h1
    · rw [h2 j (by omega), hc1]
      simp only [Array.getElem?_setIfInBounds]
      repeat rw [if_neg (by omega)]
    · cases i with
      | zero =>
        simp at hy
        subst hy
        have g : ∀ j, j < 6 → c'[k * 6 + j]? = c1[k * 6 + j]? := fun j hj => h2 _ (by omega)
        have e0 := g 0 (by omega)
        have e1 := g 1 (by omega)
        have e2 := g 2 (by omega)
        have e3 := g 3 (by omega)
        have e4 := g 4 (by omega)
        have e5 := g 5 (by omega)
        have b0 : k * 6 < cells.size := by omega
        have b1 : k * 6 + 1 < cells.size := by omega
        have b2 : k * 6 + 2 < cells.size := by omega
        have b3 : k * 6 + 3 < cells.size := by omega
        have b4 : k * 6 + 4 < cells.size := by omega
        have b5 : k * 6 + 5 < cells.size := by omega
        unfold DoCells
        simp only [Nat.add_zero] at e0 ⊢
        rw [e0, e1, e2, e3, e4, e5, hc1]
        simp [b0, b1, b2, b3, b4, b5]
      | succ i =>
        have := h3 i y (by simpa using hy)
        rwa [show k + 1 + i = k + (i + 1) from by omega] at this
theorem info43 : (Tryz.prog.info? 43).map (fun i => (i.size, i.zero.isSome)) = some (6, true) := by kernel_rfl
/-- A list of deeds is made. -/
theorem wp_lst {o : Oper} {a : Act} {w : World} {S : Prop} {K : Act → World → Prop} {Q : Exit → Act → World → Prop} {parts : Array (Nat × Operand)} {n : Nat} (xs : List DoW) (hn : xs.length = n) (h0 : 0 < n) (h9 : n ≤ 100) (ho : o.op = .buildSlice 44 n parts)
    (hp : (parts.map fun (i, x) => (i, a.eval x)).toList = ((xs.map DoW.val).zipIdx 0).map fun p => (p.2, p.1)) (hok : ∀ x ∈ xs, x.Ok w S)
    (h : ∀ w' , Below w.heap.size w w' → DosJ w' (some ⟨w.heap.size, 0, none⟩) n S → K (a.put o.dst (.slice (some ⟨w.heap.size, 0, none⟩) n n)) w') : o.wp Tryz.prog a w K Q := by
  cases hi : Tryz.prog.info? 43 with
  | none => have := info43; rw [hi] at this; cases this
  | some ie =>
    have hh := info43
    rw [hi] at hh
    simp only [Option.map_some, Option.some.injEq, Prod.mk.injEq] at hh
    obtain ⟨hs, hz⟩ := hh
    obtain ⟨z, hz⟩ := Option.isSome_iff_exists.1 hz
    obtain ⟨cells, hf, _, hc⟩ := fill_do xs 0 ((Array.range (n * 6)).map (z.cells[· % z.cells.size]!)) (by simp; omega)
    refine wp_buildSlice 44 43 n parts ho cells ie z Tryz.underlying44 hi hz (by rw [hs]; omega) (by rw [hs]; omega) (by rw [hs, hp]; exact hf) (h _ (Below.new _ _) (.inr ⟨w.heap.size, 0, rfl, fun i hil => ?_⟩))
    have hil' : i < xs.length := by omega
    have hci := hc i xs[i] (List.getElem?_eq_getElem hil')
    rw [show (0 + i) * 6 = 0 + i * 6 from by omega] at hci
    obtain ⟨c0, c1, c2, c3, c4, c5⟩ := hci
    have cn : ∀ (j : Nat) (v : Value), cells[j]? = some v → (w.alloc (.cells cells 43)).cell? ⟨w.heap.size, j, none⟩ = some v := fun j v h => (cell_new _ _ _ _).trans h
    exact ⟨xs[i], cn _ _ c0, cn _ _ c1, cn _ _ c2, cn _ _ c3, cn _ _ c4, cn _ _ c5, (hok _ (List.getElem_mem _)).below (Below.new _ _)⟩
/-- A deed's cells. -/
def DoW.row (x : DoW) : List Value := [.int .i64 x.kd, .int .i64 x.A, .int .i64 x.bit, .slice x.la x.l.length x.lc, .slice x.ka x.K.length x.kc, .slice x.ba x.B.length x.bc]
theorem row_get (xs : List DoW) : ∀ (i : Nat) (x : DoW), xs[i]? = some x → ∀ j, j < 6 → (xs.flatMap DoW.row)[i * 6 + j]? = x.row[j]? := by
  induction xs with
  | nil => intro i x h; simp at h
  | cons y xs ih =>
    intro i x h j hj
    have hy : y.row.length = 6 := rfl
    rw [List.flatMap_cons]
    cases i with
    | zero =>
      simp at h
      subst h
      rw [List.getElem?_append_left (by omega), Nat.zero_mul, Nat.zero_add]
    | succ i =>
      rw [List.getElem?_append_right (by omega), hy, show (i + 1) * 6 + j - 6 = i * 6 + j by omega]
      exact ih i x (by simpa using h) j hj
theorem dosJ_new {w : World} {S : Prop} {cells : Array Value} {n : Nat} (xs : List DoW) (hn : xs.length = n) (hc : cells = (xs.flatMap DoW.row).toArray) (hok : ∀ x ∈ xs, x.Ok w S) : DosJ (w.alloc (.cells cells 43)) (some ⟨w.heap.size, 0, none⟩) n S := by
  subst hn hc
  refine .inr ⟨w.heap.size, 0, rfl, fun i hi => ?_⟩
  have hx := List.getElem?_eq_getElem hi
  have cn : ∀ j, j < 6 → (w.alloc (.cells (xs.flatMap DoW.row).toArray 43)).cell? ⟨w.heap.size, 0 + i * 6 + j, none⟩ = xs[i].row[j]? := fun j hj => by
    rw [cell_new, List.getElem?_toArray, Nat.zero_add]
    exact row_get xs i _ hx j hj
  exact ⟨xs[i], cn 0 (by omega), cn 1 (by omega), cn 2 (by omega), cn 3 (by omega), cn 4 (by omega), cn 5 (by omega), (hok _ (List.getElem_mem _)).below (Below.new _ _)⟩
theorem eval_held (a : Act) (k : Nat) : a.eval (.tmp k) = held a k := by simp [Act.eval, held]
theorem list_fn {l : List Value} {n : Nat} (h : l.length = n) : ∃ f : Nat → Value, l = (List.range n).map f := by
  refine ⟨fun k => l.getD k undef, List.ext_getElem? fun i => ?_⟩
  rw [List.getElem?_map]
  rcases Nat.lt_or_ge i n with h' | h'
  · simp [h', List.getElem?_eq_getElem (h ▸ h' : i < l.length)]
  · simp [Nat.not_lt.2 h', List.getElem?_eq_none (h ▸ h' : l.length ≤ i)]
theorem old_nil (w : World) : Old w none 0 [] none 0 [] := ⟨Bools.nil _ _, fun _ => rfl, Bys.nil _ _, fun _ => rfl, by simp⟩
theorem old_ones {w : World} {g1 g2 : Nat} (h : SixM w g1 g2) : Old w none 0 [] (some ⟨g1, 0, none⟩) 48 ones := ⟨Bools.nil _ _, fun _ => rfl, h.b, (fun e => by cases e), by rw [bytesB_length]; decide⟩
theorem ok_mk {w : World} {S : Prop} {kd A bit : Int} {la ka ba : Option Addr} {lc kc bc : Nat} {l : List (Int × List Byte)} {K : List Bool} {B : List Byte} (h : Old w ka kc K ba bc B) (hA : -4096 ≤ A ∧ A ≤ 4096) (h4 : S → kd % 9 ≠ 4) (h8 : kd % 9 = 8 → S) (hl : PutsC w [] la l) : DoW.Ok ⟨kd, A, bit, la, lc, l, ka, kc, K, ba, bc, B⟩ w S :=
  ⟨h, by simp only; omega, h4, h8, hl⟩
theorem puts_nil (w : World) : PutsC w [] none [] := ⟨by simp, by simp, .inl rfl⟩
end Go.Proofs.YtdhidcoglioalaaGreat.Walks
