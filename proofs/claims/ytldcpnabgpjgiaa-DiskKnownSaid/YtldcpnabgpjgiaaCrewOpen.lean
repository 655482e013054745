/-
  How the arguments of this seat's laws open: lists of ints, crews, arrays of ints.
-/
import Derived.Test.YtldcpnabgpjgiaaBase
import Derived.ProofKit
import Derived.OpenShut
import Derived.SizedLaws
import Derived.Lib.SmallJoins
namespace Go.Proofs.Ytldcpnabgpjgiaa.Walks
open Go.ChangeShapes Go.WideShapes Go.RowKit Go.Joins
set_option linter.unusedVariables false
variable {H : Type} {enc : TypeId × Value → H} {w : World} {base : Nat}

/-- The number in a cell. -/
def numI : Value → Int
  | .int _ n => n
  | _ => 0
theorem bytes3 : Try.prog.bytesOf 3 = 8 := by kernel_rfl
theorem cells3 : Try.prog.cellsOf 3 = 1 := by kernel_rfl

/-- A list of ints that came in, as one cell that is read. -/
theorem ints_of_trod {fuel : Nat} {v : Value} {x : DataW H × List MemPlace} (h : DataW.trod enc Try.prog w base (fun _ => true) true fuel 22 [v] = some x)
    (hsz : ∀ m ∈ DataW.weights Try.prog 22 x.1, m ≤ reachBytes) :
    ∃ (a : Option Addr) (cap : Nat) (l : List Int), v = .slice a l.length cap ∧ Ints w a l ∧ (a = none → cap = 0) ∧ l.length ≤ 17592186044415 := by
  rcases open_ints Try.underlying22 Try.underlying3 cells3 h with ⟨hcs, _⟩ | ⟨a, len, cap, zs, hcs, _, hl, hm, hz, hx, hcell, hwz⟩
  · simp only [List.cons.injEq, and_true] at hcs
    subst hcs
    exact ⟨none, 0, [], rfl, Ints.nil _ _, fun _ => rfl, by simp⟩
  · simp only [List.cons.injEq, and_true] at hcs
    subst hcs
    have hzl : zs.length = cap := by simpa using hz
    subst hx
    have hq := hsz ((zs.take len).length * 8 + (zs.drop len).length * 8) (by
      simp only [DataW.weights, Try.underlying22, lits, List.length_map, bytes3, ← Nat.add_mul]
      exact List.mem_cons_self)
    have hr : reachBytes = 140737488351232 := rfl
    rw [hr] at hq
    simp only [List.length_take, List.length_drop] at hq
    have hlen : (zs.take len).length = len := by rw [List.length_take]; omega
    refine ⟨some a, cap, zs.take len, by rw [hlen], ⟨by rw [hlen]; omega, ?_⟩, (by intro h; cases h), by rw [hlen]; omega⟩
    by_cases h0 : len = 0
    · subst h0; left; simp
    right
    have hx := hcell 0 (by omega)
    obtain ⟨b, off, s⟩ := a
    have hspot : s = none := by simpa [Addr.add] using World.cell?_spot hx
    subst hspot
    refine ⟨b, off, rfl, fun i hi => ?_⟩
    have := hcell i (by rw [List.length_take] at hi; omega)
    rw [Addr.add_mid] at this
    rw [List.length_take] at hi
    rw [this, List.getElem_take]
    simp [List.getD, List.getElem?_eq_getElem (show i < zs.length by omega)]

set_option maxRecDepth 100000 in
theorem open_list {v : Value} {d : DataW H} {p : List MemPlace} {r : Reach} {b0 : Nat} (hv : Value.okWide Try.prog w r b0 22 v) (h : DataW.Trod enc Try.prog w base (fun _ => true) true 22 v d p)
    (hsz : ∀ m ∈ DataW.weights Try.prog 22 d, m ≤ reachBytes) :
    ∃ (a : Option Addr) (cap : Nat) (l : List Int), v = .slice a l.length cap ∧ Ints w a l ∧ (a = none → cap = 0) ∧ l.length ≤ 17592186044415 := by
  obtain ⟨a, len, cap, rfl⟩ := okWide_slice Try.underlying22 hv
  obtain ⟨fuel, hf⟩ := h
  exact ints_of_trod (x := (d, p)) (by simpa [Value.cells] using hf) hsz

theorem cells24 : Try.prog.cellsOf 24 = 2 := by kernel_rfl
set_option maxRecDepth 100000 in
theorem open_crew {v : Value} {d : DataW H} {p : List MemPlace} {r : Reach} {b0 : Nat} (hv : Value.okWide Try.prog w r b0 24 v) (h : DataW.Trod enc Try.prog w base (fun _ => true) true 24 v d p)
    (hsz : ∀ m ∈ DataW.weights Try.prog 24 d, m ≤ reachBytes) :
    ∃ (f : Int) (a : Option Addr) (cap : Nat) (l : List Int), v = .agg #[.int .i64 f, .slice a l.length cap] ∧ (Lit.int .i64 f).wf = true ∧ Ints w a l ∧ (a = none → cap = 0) ∧ l.length ≤ 17592186044415 := by
  obtain ⟨c0, c1, y0, y1, m, rfl, rfl, rfl, hy0, hy1⟩ := open_agg2 Try.underlying24 (by kernel_rfl) cells24 hv h
  obtain ⟨f, e0, _, wf⟩ := DataW.trod_int Try.underlying3 hy0
  simp only [List.cons.injEq, and_true] at e0
  subst e0
  obtain ⟨a, cap, l, rfl, h1, h2, h3⟩ := ints_of_trod hy1 (fun m hm => hsz m (by
    simp only [DataW.weights, Try.underlying24]
    simp [DataW.weightsEach]
    exact .inr hm))
  exact ⟨f, a, cap, l, rfl, wf, h1, h2, h3⟩

set_option maxRecDepth 100000 in
/-- An array of ints that came in. -/
theorem open_arr {v : Value} {d : DataW H} {p : List MemPlace} {r : Reach} {b0 : Nat} {t n : Nat} (ht : Try.prog.underlying t = some (.array n 3)) (hct : Try.prog.cellsOf t = n) (hv : Value.okWide Try.prog w r b0 t v) (h : DataW.Trod enc Try.prog w base (fun _ => true) true t v d p) :
    ∃ l : List Int, l.length = n ∧ v = .agg (l.map iv).toArray ∧ ∀ x ∈ l, (Lit.int .i64 x).wf = true := by
  simp only [Value.okWide, ht] at hv
  obtain ⟨cs, rfl, hsz, _⟩ := hv
  rw [hct] at hsz
  obtain ⟨fuel, hf⟩ := h
  obtain ⟨xs, m, _, _, _, hl, hx⟩ := DataW.trod_array ht hf
  have key : ∀ i (h : i < cs.size), ∃ a : Int, cs[i] = .int .i64 a ∧ (Lit.int .i64 a).wf = true := by
    intro i hi
    have h0 := hx i (by omega)
    simp only [cells3, Value.cells, Nat.mul_one] at h0
    rw [List.take_one, List.head?_drop, Array.getElem?_toList, Array.getElem?_eq_getElem hi, Option.toList_some, List.getElem?_eq_getElem (show i < xs.length by omega)] at h0
    obtain ⟨a, e0, _, w0⟩ := DataW.trod_int Try.underlying3 h0
    simp at e0
    exact ⟨a, e0, w0⟩
  refine ⟨cs.toList.map numI, by simp [hsz], ?_, ?_⟩
  · congr 1
    apply Array.ext
    · simp
    · intro i h1 h2
      obtain ⟨a, e, _⟩ := key i h1
      simp [e, numI, iv]
  · intro x hx'
    simp only [List.mem_map] at hx'
    obtain ⟨c, hc, rfl⟩ := hx'
    obtain ⟨i, hi, rfl⟩ := List.getElem_of_mem hc
    obtain ⟨a, e, wa⟩ := key i (by simpa using hi)
    rw [Array.getElem_toList, e]
    exact wa
theorem list3 {l : List Int} (h : l.length = 3) : ∃ x0 x1 x2, l = [x0, x1, x2] := by
  match l, h with
  | [x0, x1, x2], _ => exact ⟨_, _, _, rfl⟩
theorem list4 {l : List Int} (h : l.length = 4) : ∃ x0 x1 x2 x3, l = [x0, x1, x2, x3] := by
  match l, h with
  | [x0, x1, x2, x3], _ => exact ⟨_, _, _, _, rfl⟩
theorem list7 {l : List Int} (h : l.length = 7) : ∃ x0 x1 x2 x3 x4 x5 x6, l = [x0, x1, x2, x3, x4, x5, x6] := by
  match l, h with
  | [x0, x1, x2, x3, x4, x5, x6], _ => exact ⟨_, _, _, _, _, _, _, rfl⟩
theorem list8 {l : List Int} (h : l.length = 8) : ∃ x0 x1 x2 x3 x4 x5 x6 x7, l = [x0, x1, x2, x3, x4, x5, x6, x7] := by
  match l, h with
  | [x0, x1, x2, x3, x4, x5, x6, x7], _ => exact ⟨_, _, _, _, _, _, _, _, rfl⟩
end Go.Proofs.Ytldcpnabgpjgiaa.Walks
