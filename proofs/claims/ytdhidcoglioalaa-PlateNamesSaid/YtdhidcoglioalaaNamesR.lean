/-
  What the values are that PlateNames makes ahead of its loop.
-/
import Derived.Test.YtdhidcoglioalaaPlaysW
import Derived.Test.YtdhidcoglioalaaPlateX
import Derived.Test.YtdhidcoglioalaaAnyLaw
import Derived.ArgAppend
import Derived.Great.BuildSlice
namespace Go.Proofs.Ytdhidcoglioalaa.Walks
open Go.RowKit Plain
set_option linter.unusedVariables false

def DoV.val (x : DoV) : Value := .agg #[.int .i64 x.kd, .int .i64 x.A, .int .i64 x.bit, .slice x.ba x.B.length x.bc, .slice x.ka x.K.length x.kc]
def OneV (g1 : Nat) (v : Value) : Prop := v = .slice (some ⟨g1, 0, none⟩) 64 64
def ByV (w : World) (v : Value) : Prop := ∃ a bc B, v = .slice a B.length bc ∧ Bys w a B ∧ (a = none → bc = 0) ∧ B.length ≤ bc
def BoV (w : World) (v : Value) : Prop := ∃ a c K, v = .slice a K.length c ∧ Bools w a K ∧ (a = none → c = 0)
def OneB (w : World) (v : Value) : Prop := ∃ g, v = .slice (some ⟨g, 0, none⟩) 1 1 ∧ w.cell? ⟨g, 0, none⟩ = some (byteV 1)
def DoW (w : World) (v : Value) : Prop := ∃ x : DoV, v = x.val ∧ x.Ok w
def LstV (w : World) (v : Value) : Prop := ∃ g, v = .slice (some ⟨g, 0, none⟩) 28 28 ∧ Dos w (some ⟨g, 0, none⟩) 28
/-- What the slot k holds behind the operation that yields it. -/
def PhiN (g1 k : Nat) (v : Value) (w : World) : Prop :=
  if k = 79 ∨ k = 82 then OneV g1 v
  else if k = 73 ∨ k = 75 ∨ k = 77 ∨ k = 80 ∨ k = 84 ∨ k = 93 ∨ k = 97 ∨ k = 99 ∨ k = 107 then ByV w v
  else if k = 104 ∨ k = 109 then BoV w v
  else if k = 83 then OneB w v
  else if k = 115 ∨ k = 6 then LstV w v
  else DoW w v
theorem PhiN.below {g1 k : Nat} {v : Value} {w w' : World} (h : PhiN g1 k v w) (hb : Below w.heap.size w w') : PhiN g1 k v w' := by
  unfold PhiN at h ⊢
  repeat' split at h
  · rw [if_pos (by assumption)]; exact h
  · rw [if_neg (by assumption), if_pos (by assumption)]
    obtain ⟨a, bc, B, e, h1, h2, h3⟩ := h
    exact ⟨a, bc, B, e, h1.below hb, h2, h3⟩
  · rw [if_neg (by assumption), if_neg (by assumption), if_pos (by assumption)]
    obtain ⟨a, c, K, e, h1, h2⟩ := h
    exact ⟨a, c, K, e, h1.below hb, h2⟩
  · rw [if_neg (by assumption), if_neg (by assumption), if_neg (by assumption), if_pos (by assumption)]
    obtain ⟨g, e, h1⟩ := h
    exact ⟨g, e, keepc hb h1⟩
  · rw [if_neg (by assumption), if_neg (by assumption), if_neg (by assumption), if_neg (by assumption), if_pos (by assumption)]
    obtain ⟨g, e, h1⟩ := h
    exact ⟨g, e, h1.below hb⟩
  · rw [if_neg (by assumption), if_neg (by assumption), if_neg (by assumption), if_neg (by assumption), if_neg (by assumption)]
    obtain ⟨x, e, h1⟩ := h
    exact ⟨x, e, h1.below hb⟩
theorem by_one {g1 : Nat} {w1 w : World} (hS : Below w1.heap.size w1 w) (hO : Bys w1 (some ⟨g1, 0, none⟩) (bytesOf (oneS 1))) : ByV w (.slice (some ⟨g1, 0, none⟩) 64 64) :=
  ⟨_, _, bytesOf (oneS 1), by rw [bytesOf_length], hO.below hS, (fun h => by cases h), by rw [bytesOf_length]; exact Nat.le_refl _⟩
theorem by_63 {g1 : Nat} {w1 w : World} (hS : Below w1.heap.size w1 w) (hO : Bys w1 (some ⟨g1, 0, none⟩) (bytesOf (oneS 1))) : ByV w (.slice (some ⟨g1, 0, none⟩) 63 64) :=
  ⟨_, _, (bytesOf (oneS 1)).take 63, by rw [List.length_take, bytesOf_length]; rfl, (hO.below hS).take 63, (fun h => by cases h), by rw [List.length_take, bytesOf_length]; decide⟩
/-- append(one, 1) makes a new row: one's is full. -/
theorem run_full {g1 g : Nat} {w1 w : World} (hS : Below w1.heap.size w1 w) (hO : Bys w1 (some ⟨g1, 0, none⟩) (bytesOf (oneS 1))) (hg : w.cell? ⟨g, 0, none⟩ = some (byteV 1)) (ty : TypeId) :
    ∃ v w', (Builtin.append_ #[42, 42] ty #[.slice (some ⟨g1, 0, none⟩) 64 64, .slice (some ⟨g, 0, none⟩) 1 1]).run Try.prog w = .ok v w' ∧ ByV w' v ∧ Below w.heap.size w w' := by
  obtain ⟨i0, hi, hz0, hz1, hz2⟩ := info_parts info5f
  have hO' := hO.below hS
  obtain ⟨v, w', h1, h2, h3⟩ := run_append_arg_grows w 42 ty 5 i0 (.int .u8 0) 1 1 Try.underlying42 hi hz0 hz1 hz2 rfl (by decide) ⟨g1, 0, none⟩ 64 64 ((bytesOf (oneS 1)).map byteV) (by rw [List.length_map, bytesOf_length]) (news_bys hO')
    ⟨g, 0, none⟩ 1 1 [byteV 1] rfl (fun j u hj => by
      cases j with
      | zero => simp at hj; subst hj; exact hg
      | succ j => simp at hj) (by decide) (by decide) (by decide)
  have hb : Below w.heap.size w w' := ⟨h3.os, h3.tape, h3.output, h3.size, fun i hi => h3.block i hi (by simp)⟩
  refine ⟨v, w', h1, ?_, hb⟩
  have hl : (bytesOf (oneS 1) ++ [1]).length = 65 := by rw [List.length_append, bytesOf_length]; rfl
  have h2' := h2
  obtain ⟨_, ⟨_, h0⟩ | ⟨b, cap, cur, e, _, _, hc, _⟩⟩ := h2'
  · cases h0
  · subst e
    have hx : OwnBy w' w.heap.size (some ⟨b, 0, none⟩) (bytesOf (oneS 1) ++ [1]) cap := by
      rw [OwnBy, hl, List.map_append]
      exact h2
    obtain ⟨b1, _, _⟩ := OwnBy.bys hx (by rw [hl]; decide)
    exact ⟨_, cap, _, by rw [hl], b1, (fun h => by cases h), by rw [hl]; exact hc⟩
/-- A step, said with what follows as a letter. -/
theorem step_of {P : Program} {o : Oper} {d : Nat} {a : Act} {w : World} {Q : Exit → Act → World → Prop} {R : World → World → Prop} {Φ : Nat → Value → World → Prop} (hd : o.dst = some d)
    (h : ∀ K : Act → World → Prop, (∀ v w', R w w' → Φ d v w' → K { tmps := a.tmps.setIfInBounds d v, defers := a.defers } w') → o.wp P a w K Q) :
    o.wp P a w (fun a' w' => ∃ v, a' = a.put o.dst v ∧ R w w' ∧ ∀ d, o.dst = some d → Φ d v w') Q := by
  refine h _ fun v w' h1 h2 => ⟨v, ?_, h1, fun d' hd' => ?_⟩
  · rw [hd]; rfl
  · rw [hd] at hd'; cases hd'; exact h2
/-- The cells of a call. -/
def DoCells (cells : Array Value) (o : Nat) (x : DoV) : Prop :=
  cells[o]? = some (.int .i64 x.kd) ∧ cells[o + 1]? = some (.int .i64 x.A) ∧ cells[o + 2]? = some (.int .i64 x.bit) ∧ cells[o + 3]? = some (.slice x.ba x.B.length x.bc) ∧ cells[o + 4]? = some (.slice x.ka x.K.length x.kc)
theorem fillDo_step (cells : Array Value) (k : Nat) (c0 c1 c2 c3 c4 : Value) (rest : List (Nat × Value)) (h : k * 5 + 5 ≤ cells.size) :
    Instr.fill (fun i => some (i * 5, 5)) cells ((k, .agg #[c0, c1, c2, c3, c4]) :: rest) = Instr.fill (fun i => some (i * 5, 5)) (((((cells.setIfInBounds (k * 5 + 0) c0).setIfInBounds (k * 5 + 1) c1).setIfInBounds (k * 5 + 2) c2).setIfInBounds (k * 5 + 3) c3).setIfInBounds (k * 5 + 4) c4) rest := by
  rw [Instr.fill]
  split
  · rename_i h'; cases h'
  · rename_i h'
    cases h'
    split
    · rename_i h2
      exfalso
      simp [Value.cells] at h2
      omega
    · simp [Value.cells]
theorem fill_do (xs : List DoV) : ∀ (k : Nat) (cells : Array Value), (k + xs.length) * 5 ≤ cells.size →
    ∃ cells', Instr.fill (fun i => some (i * 5, 5)) cells (((xs.map DoV.val).zipIdx k).map fun p => (p.2, p.1)) = some cells' ∧ (∀ j, j < k * 5 → cells'[j]? = cells[j]?) ∧ ∀ i x, xs[i]? = some x → DoCells cells' ((k + i) * 5) x := by
  induction xs with
  | nil =>
    intro k cells h
    exact ⟨cells, rfl, fun _ _ => rfl, fun i x hx => by simp at hx⟩
  | cons x xs ih =>
    intro k cells h
    simp only [List.length_cons] at h
    obtain ⟨c1, hc1⟩ : ∃ c1, c1 = ((((cells.setIfInBounds (k * 5 + 0) (.int .i64 x.kd)).setIfInBounds (k * 5 + 1) (.int .i64 x.A)).setIfInBounds (k * 5 + 2) (.int .i64 x.bit)).setIfInBounds (k * 5 + 3) (.slice x.ba x.B.length x.bc)).setIfInBounds (k * 5 + 4) (.slice x.ka x.K.length x.kc) := ⟨_, rfl⟩
    have hs : c1.size = cells.size := by rw [hc1]; simp
    obtain ⟨c', h1, h2, h3⟩ := ih (k + 1) c1 (by rw [hs]; omega)
    refine ⟨c', ?_, fun j hj => ?_, fun i y hy => ?_⟩
    · simp only [List.map_cons, List.zipIdx_cons, DoV.val]
      rw [fillDo_step cells k _ _ _ _ _ _ (by omega), ← hc1]
      exact h1
    · rw [h2 j (by omega), hc1]
      simp only [Array.getElem?_setIfInBounds]
      repeat rw [if_neg (by omega)]
    · cases i with
      | zero =>
        simp at hy
        subst hy
        have g : ∀ j, j < 5 → c'[k * 5 + j]? = c1[k * 5 + j]? := fun j hj => h2 _ (by omega)
        have e0 := g 0 (by omega)
        have e1 := g 1 (by omega)
        have e2 := g 2 (by omega)
        have e3 := g 3 (by omega)
        have e4 := g 4 (by omega)
        have b0 : k * 5 < cells.size := by omega
        have b1 : k * 5 + 1 < cells.size := by omega
        have b2 : k * 5 + 2 < cells.size := by omega
        have b3 : k * 5 + 3 < cells.size := by omega
        have b4 : k * 5 + 4 < cells.size := by omega
        unfold DoCells
        simp only [Nat.add_zero] at e0 ⊢
        rw [e0, e1, e2, e3, e4, hc1]
        simp [b0, b1, b2, b3, b4]
      | succ i =>
        have := h3 i y (by simpa using hy)
        rwa [show k + 1 + i = k + (i + 1) from by omega] at this
theorem info55 : (Try.prog.info? 55).map (fun i => (i.size, i.zero.isSome)) = some (5, true) := by kernel_rfl
/-- A list of calls is made. -/
theorem wp_lst {o : Oper} {a : Act} {w : World} {K : Act → World → Prop} {Q : Exit → Act → World → Prop} {parts : Array (Nat × Operand)} {n : Nat} (xs : List DoV) (hn : xs.length = n) (h0 : 0 < n) (h9 : n ≤ 100) (ho : o.op = .buildSlice 50 n parts)
    (hp : (parts.map fun (i, x) => (i, a.eval x)).toList = ((xs.map DoV.val).zipIdx 0).map fun p => (p.2, p.1)) (hok : ∀ x ∈ xs, x.Ok w)
    (h : ∀ w' , Below w.heap.size w w' → Dos w' (some ⟨w.heap.size, 0, none⟩) n → K (a.put o.dst (.slice (some ⟨w.heap.size, 0, none⟩) n n)) w') : o.wp Try.prog a w K Q := by
  cases hi : Try.prog.info? 55 with
  | none => have := info55; rw [hi] at this; cases this
  | some ie =>
    have hh := info55
    rw [hi] at hh
    simp only [Option.map_some, Option.some.injEq, Prod.mk.injEq] at hh
    obtain ⟨hs, hz⟩ := hh
    obtain ⟨z, hz⟩ := Option.isSome_iff_exists.1 hz
    obtain ⟨cells, hf, _, hc⟩ := fill_do xs 0 ((Array.range (n * 5)).map (z.cells[· % z.cells.size]!)) (by simp; omega)
    refine wp_buildSlice 50 55 n parts ho cells ie z Try.underlying50 hi hz (by rw [hs]; omega) (by rw [hs]; omega) (by rw [hs, hp]; exact hf) (h _ (Below.new _ _) ⟨by omega, .inr ⟨w.heap.size, 0, rfl, fun i hil => ?_⟩⟩)
    have hil' : i < xs.length := by omega
    have hci := hc i xs[i] (List.getElem?_eq_getElem hil')
    rw [show (0 + i) * 5 = 0 + i * 5 from by omega] at hci
    obtain ⟨c0, c1, c2, c3, c4⟩ := hci
    have cn : ∀ (j : Nat) (v : Value), cells[j]? = some v → (w.alloc (.cells cells 55)).cell? ⟨w.heap.size, j, none⟩ = some v := fun j v h => (cell_new _ _ _ _).trans h
    exact ⟨xs[i], cn _ _ c0, cn _ _ c1, cn _ _ c2, cn _ _ c3, cn _ _ c4, (hok _ (List.getElem_mem _)).below (Below.new _ _)⟩
theorem eval_held (a : Act) (k : Nat) : a.eval (.tmp k) = held a k := by simp [Act.eval, held]
theorem wf_small {n : Int} (h : -4096 ≤ n ∧ n ≤ 4096) : Wf n := by
  simp [Wf, Lit.wf, IntKind.min, IntKind.max, IntKind.signed, IntKind.bits]
  omega
theorem list_fn {l : List Value} {n : Nat} (h : l.length = n) : ∃ f : Nat → Value, l = (List.range n).map f := by
  refine ⟨fun k => l.getD k undef, List.ext_getElem? fun i => ?_⟩
  rw [List.getElem?_map]
  rcases Nat.lt_or_ge i n with h' | h'
  · simp [h', List.getElem?_eq_getElem (h ▸ h' : i < l.length)]
  · simp [Nat.not_lt.2 h', List.getElem?_eq_none (h ▸ h' : l.length ≤ i)]
end Go.Proofs.Ytdhidcoglioalaa.Walks
