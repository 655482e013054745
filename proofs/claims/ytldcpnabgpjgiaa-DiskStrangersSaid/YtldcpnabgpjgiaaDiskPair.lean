/-
  How a list of pairs opens.
-/
import Derived.Test.YtldcpnabgpjgiaaHandN
namespace Go.Proofs.Ytldcpnabgpjgiaa.Walks
open Go.ChangeShapes Go.WideShapes Go.RowKit Go.Joins Go.Deep
set_option linter.unusedVariables false
variable {H : Type} {enc : TypeId × Value → H} {w : World} {base : Nat}

theorem cells85 : Try.prog.cellsOf 85 = 2 := by kernel_rfl
/-- Two ints in memory; a list of such. -/
def PairAt (w : World) (b o : Nat) : Prop := ∃ (x y : Int), w.cell? ⟨b, o, none⟩ = some (.int .i64 x) ∧ w.cell? ⟨b, o + 1, none⟩ = some (.int .i64 y) ∧ Wf x ∧ Wf y
def Pairs (w : World) (a : Option Addr) (len : Nat) : Prop := len ≤ 9223372036854775807 ∧ (len = 0 ∨ ∃ b off, a = some ⟨b, off, none⟩ ∧ ∀ i, i < len → PairAt w b (off + i * 2))
theorem PairAt.imp {w w' : World} {b o : Nat} (h : PairAt w b o) (hk : ∀ a v, w.cell? a = some v → w'.cell? a = some v) : PairAt w' b o := by
  obtain ⟨x, y, h0, h1, hx, hy⟩ := h
  exact ⟨x, y, hk _ _ h0, hk _ _ h1, hx, hy⟩
theorem Pairs.imp {w w' : World} {a : Option Addr} {len : Nat} (h : Pairs w a len) (hk : ∀ a v, w.cell? a = some v → w'.cell? a = some v) : Pairs w' a len := by
  obtain ⟨h0, h1 | ⟨b, off, ha, h1⟩⟩ := h
  · exact ⟨h0, .inl h1⟩
  · exact ⟨h0, .inr ⟨b, off, ha, fun i hi' => (h1 i hi').imp hk⟩⟩
theorem Pairs.below {w w' : World} {a : Option Addr} {len : Nat} (h : Pairs w a len) (hb : Below w.heap.size w w') : Pairs w' a len := h.imp fun _ _ hc => keepc hb hc
set_option maxRecDepth 100000 in
theorem pair_of_trod {fuel : Nat} {cs : List Value} {x : DataW H × List MemPlace} (h : DataW.trod enc Try.prog w base (fun _ => true) true fuel 85 cs = some x) (hl : cs.length = 2) :
    ∃ (y z : Int), cs = [.int .i64 y, .int .i64 z] ∧ Wf y ∧ Wf z := by
  obtain ⟨xs, m, _, _, _, hlen, hx⟩ := DataW.trod_array Try.underlying85 h
  match cs, hl with
  | [c0, c1], _ =>
    match xs, hlen with
    | [y0, y1], _ =>
      have h0 : DataW.trod enc Try.prog w base (fun _ => true) true m 3 [c0] = some y0 := by simpa [cells3] using hx 0 (by omega)
      have h1 : DataW.trod enc Try.prog w base (fun _ => true) true m 3 [c1] = some y1 := by simpa [cells3] using hx 1 (by omega)
      obtain ⟨v0, e0, _, w0⟩ := DataW.trod_int Try.underlying3 h0
      obtain ⟨v1, e1, _, w1⟩ := DataW.trod_int Try.underlying3 h1
      simp only [List.cons.injEq, and_true] at e0 e1
      subst e0 e1
      exact ⟨v0, v1, rfl, w0, w1⟩
set_option maxRecDepth 100000 in
theorem open_pairs {v : Value} {d : DataW H} {p : List MemPlace} {r : Reach} {b0 : Nat} (hv : Value.okWide Try.prog w r b0 67 v) (h : DataW.Trod enc Try.prog w base (fun _ => true) true 67 v d p) :
    ∃ (a : Option Addr) (len cap : Nat), v = .slice a len cap ∧ Pairs w a len := by
  obtain ⟨a, len, cap, rfl⟩ := okWide_slice Try.underlying67 hv
  obtain ⟨fuel, hf⟩ := h
  refine ⟨a, len, cap, rfl, ?_⟩
  have hf' : DataW.trod enc Try.prog w base (fun _ => true) true fuel 67 [.slice a len cap] = some (d, p) := by simpa [Value.cells] using hf
  rcases open_slice Try.underlying67 hf' with ⟨hcs, _⟩ | ⟨a', len', cap', m, n, D, Pl, hcs, _, hl, hm, hmm, hx, hi⟩
  · simp only [List.cons.injEq, and_true, Value.slice.injEq] at hcs
    obtain ⟨rfl, rfl, rfl⟩ := hcs
    exact ⟨by simp, .inl rfl⟩
  · simp only [List.cons.injEq, and_true, Value.slice.injEq] at hcs
    obtain ⟨rfl, rfl, rfl⟩ := hcs
    simp only [if_true] at hmm
    subst hmm
    rw [cells85] at hi
    refine ⟨by unfold maxLen at hm; omega, ?_⟩
    by_cases h0 : len = 0
    · exact .inl h0
    right
    simp only [Prod.mk.injEq] at hx
    obtain ⟨rfl, _⟩ := hx
    have hsp : ∃ b off, a' = ⟨b, off, none⟩ := by
      obtain ⟨cs', hc, _⟩ := hi 0 (by omega)
      obtain ⟨_, hcl, hat⟩ := World.cells?_some hc
      have hx := hat 0 (by omega)
      rw [List.getElem?_eq_getElem (by omega)] at hx
      obtain ⟨b, off, s⟩ := a'
      have hspot : s = none := by simpa [Addr.add] using World.cell?_spot hx
      subst hspot
      exact ⟨b, off, rfl⟩
    obtain ⟨b, off, rfl⟩ := hsp
    refine ⟨b, off, rfl, fun i hilt => ?_⟩
    obtain ⟨cs', hc, ht⟩ := hi i (by omega)
    obtain ⟨_, hcl, hat⟩ := World.cells?_some hc
    obtain ⟨y, z, rfl, hy, hz⟩ := pair_of_trod ht hcl
    have key : ∀ j (h : j < 2) v, [Value.int .i64 y, .int .i64 z][j]? = some v → w.cell? ⟨b, off + i * 2 + j, none⟩ = some v := fun j hj v hv => by
      have := hat j hj
      rw [hv, Addr.add_mid, Addr.add_mid] at this
      exact this
    exact ⟨y, z, key 0 (by omega) _ rfl, key 1 (by omega) _ rfl, hy, hz⟩
end Go.Proofs.Ytldcpnabgpjgiaa.Walks
