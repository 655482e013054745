/-
  How the arguments of the plate's laws open: lists of bools, of bytes, of puts.
-/
import Derived.Test.YtdhidcoglioalaaPlateJ
import Derived.ProofKit
import Derived.OpenShut
import Derived.SizedLaws
import Derived.Lib.SmallJoins
import Derived.Deep.Slices
import Derived.Deep.Grids
import Derived.ChangeSame
namespace Go.Proofs.Ytdhidcoglioalaa.Walks
open Go.ChangeShapes Go.WideShapes Go.RowKit Go.Joins Go.Deep Plain
set_option linter.unusedVariables false
variable {H : Type} {enc : TypeId × Value → H} {w : World} {base : Nat}

theorem bytes4 : Try.prog.bytesOf 4 = 1 := by kernel_rfl
theorem cells4 : Try.prog.cellsOf 4 = 1 := by kernel_rfl
theorem bytes5 : Try.prog.bytesOf 5 = 1 := by kernel_rfl
theorem cells5 : Try.prog.cellsOf 5 = 1 := by kernel_rfl
theorem cells3 : Try.prog.cellsOf 3 = 1 := by kernel_rfl
theorem cells82 : Try.prog.cellsOf 82 = 3 := by kernel_rfl
theorem add0 (a : Addr) : a.add 0 = a := by unfold Addr.add; simp
theorem addr_plain {a : Addr} {v : Value} (h : w.cell? (a.add 0) = some v) : ∃ b off, a = ⟨b, off, none⟩ := by
  rw [add0] at h
  obtain ⟨b, off, s⟩ := a
  have hspot : s = none := by simpa using World.cell?_spot h
  subst hspot
  exact ⟨b, off, rfl⟩
/-- A byte of an int in its bounds. -/
theorem byteV_of {z : Int} (h : (Lit.int .u8 z).wf = true) : Value.int .u8 z = byteV (BitVec.ofInt 8 z) := by
  have hb : 0 ≤ z ∧ z ≤ 255 := by
    simp [Lit.wf, IntKind.min, IntKind.max, IntKind.signed, IntKind.bits] at h
    omega
  unfold byteV
  obtain ⟨n, rfl⟩ : ∃ n : Nat, z = n := ⟨z.toNat, by omega⟩
  rw [BitVec.ofInt_natCast, BitVec.toNat_ofNat, Nat.mod_eq_of_lt (by omega)]
theorem bools_of_trod {fuel : Nat} {v : Value} {x : DataW H × List MemPlace} (h : DataW.trod enc Try.prog w base (fun _ => true) true fuel 23 [v] = some x)
    (hsz : ∀ m ∈ DataW.weights Try.prog 23 x.1, m ≤ reachBytes) : ∃ (a : Option Addr) (cap : Nat) (l : List Bool), v = .slice a l.length cap ∧ Bools w a l ∧ (a = none → cap = 0) := by
  rcases Go.Deep.open_bools Try.underlying23 Try.underlying4 cells4 h with ⟨hcs, _⟩ | ⟨a, len, cap, B, hcs, _, hl, hm, hx, hcell⟩
  · simp only [List.cons.injEq, and_true] at hcs
    subst hcs
    exact ⟨none, 0, [], rfl, Bools.nil _ _, fun _ => rfl⟩
  · simp only [List.cons.injEq, and_true] at hcs
    subst hcs
    subst hx
    have hq : len * 1 + (cap - len) * 1 ≤ reachBytes := by
      have := hsz (len * 1 + (cap - len) * 1) (by
        simp only [DataW.weights, boolRow, Try.underlying23, List.length_map, List.length_range, bytes4, ← Nat.add_mul]
        exact List.mem_cons_self)
      exact this
    have hr : reachBytes = 140737488351232 := rfl
    rw [hr] at hq
    refine ⟨some a, cap, (List.range len).map B, by simp, ⟨by simp; omega, ?_⟩, (by intro h; cases h)⟩
    by_cases h0 : len = 0
    · subst h0; left; rfl
    right
    obtain ⟨b, off, rfl⟩ := addr_plain (hcell 0 (by omega))
    refine ⟨b, off, rfl, fun i hi => ?_⟩
    have := hcell i (by simp at hi; omega)
    rw [Addr.add_mid] at this
    rw [this]
    simp
theorem bytes_of_trod {fuel : Nat} {v : Value} {x : DataW H × List MemPlace} (h : DataW.trod enc Try.prog w base (fun _ => true) true fuel 42 [v] = some x)
    (hsz : ∀ m ∈ DataW.weights Try.prog 42 x.1, m ≤ reachBytes) : ∃ (a : Option Addr) (cap : Nat) (l : List Byte), v = .slice a l.length cap ∧ Bys w a l ∧ (a = none → cap = 0) ∧ l.length ≤ cap := by
  rcases open_ints Try.underlying42 Try.underlying5 cells5 h with ⟨hcs, _⟩ | ⟨a, len, cap, zs, hcs, _, hl, hm, hz, hx, hcell, hwz⟩
  · simp only [List.cons.injEq, and_true] at hcs
    subst hcs
    exact ⟨none, 0, [], rfl, Bys.nil _ _, fun _ => rfl, Nat.le_refl _⟩
  · simp only [List.cons.injEq, and_true] at hcs
    subst hcs
    have hzl : zs.length = cap := by simpa using hz
    subst hx
    have hq := hsz ((zs.take len).length * 1 + (zs.drop len).length * 1) (by
      simp only [DataW.weights, Try.underlying42, lits, List.length_map, bytes5, ← Nat.add_mul]
      exact List.mem_cons_self)
    have hr : reachBytes = 140737488351232 := rfl
    rw [hr] at hq
    simp only [List.length_take, List.length_drop] at hq
    refine ⟨some a, cap, (zs.take len).map (BitVec.ofInt 8), by rw [List.length_map, List.length_take, Nat.min_eq_left (by omega)], ⟨by rw [List.length_map, List.length_take]; omega, ?_⟩, (by intro h; cases h), by rw [List.length_map, List.length_take]; omega⟩
    by_cases h0 : len = 0
    · subst h0; left; simp
    right
    obtain ⟨b, off, rfl⟩ := addr_plain (hcell 0 (by omega))
    refine ⟨b, off, rfl, fun i hi => ?_⟩
    rw [List.length_map, List.length_take] at hi
    have := hcell i (by omega)
    rw [Addr.add_mid] at this
    rw [this, List.getElem_map, List.getElem_take]
    have e : zs.getD i 0 = zs[i]'(by omega) := by simp [List.getD, List.getElem?_eq_getElem (show i < zs.length by omega)]
    rw [e, byteV_of (hwz _ (List.getElem_mem _))]
set_option maxRecDepth 100000 in
theorem open_bools {v : Value} {d : DataW H} {p : List MemPlace} {r : Reach} {b0 : Nat} (hv : Value.okWide Try.prog w r b0 23 v) (h : DataW.Trod enc Try.prog w base (fun _ => true) true 23 v d p)
    (hsz : ∀ m ∈ DataW.weights Try.prog 23 d, m ≤ reachBytes) : ∃ (a : Option Addr) (cap : Nat) (l : List Bool), v = .slice a l.length cap ∧ Bools w a l ∧ (a = none → cap = 0) := by
  obtain ⟨a, len, cap, rfl⟩ := okWide_slice Try.underlying23 hv
  obtain ⟨fuel, hf⟩ := h
  exact bools_of_trod (x := (d, p)) (by simpa [Value.cells] using hf) hsz
set_option maxRecDepth 100000 in
theorem open_bytes {v : Value} {d : DataW H} {p : List MemPlace} {r : Reach} {b0 : Nat} (hv : Value.okWide Try.prog w r b0 42 v) (h : DataW.Trod enc Try.prog w base (fun _ => true) true 42 v d p)
    (hsz : ∀ m ∈ DataW.weights Try.prog 42 d, m ≤ reachBytes) : ∃ (a : Option Addr) (cap : Nat) (l : List Byte), v = .slice a l.length cap ∧ Bys w a l ∧ (a = none → cap = 0) ∧ l.length ≤ cap := by
  obtain ⟨a, len, cap, rfl⟩ := okWide_slice Try.underlying42 hv
  obtain ⟨fuel, hf⟩ := h
  exact bytes_of_trod (x := (d, p)) (by simpa [Value.cells] using hf) hsz
abbrev PutL := Int × Byte × Bool
/-- Puts lie in memory. -/
def Puts (w : World) (a : Option Addr) (l : List PutL) : Prop := l.length ≤ 9223372036854775807 ∧ (l = [] ∨ ∃ b off, a = some ⟨b, off, none⟩ ∧ ∀ i (h : i < l.length),
  w.cell? ⟨b, off + i * 3, none⟩ = some (.int .i64 l[i].1) ∧ w.cell? ⟨b, off + i * 3 + 1, none⟩ = some (.int .u8 (l[i].2.1.toNat : Int)) ∧ w.cell? ⟨b, off + i * 3 + 2, none⟩ = some (.bool l[i].2.2))
theorem Puts.below {w w' : World} {a : Option Addr} {l : List PutL} (h : Puts w a l) (hb : Below w.heap.size w w') : Puts w' a l :=
  ⟨h.1, h.2.imp id fun ⟨b, off, e, hc⟩ => ⟨b, off, e, fun i hi => ⟨keepc hb (hc i hi).1, keepc hb (hc i hi).2.1, keepc hb (hc i hi).2.2⟩⟩⟩
set_option maxRecDepth 100000 in
theorem put_of_trod {fuel : Nat} {cs : List Value} {x : DataW H × List MemPlace} (h : DataW.trod enc Try.prog w base (fun _ => true) true fuel 82 cs = some x) :
    ∃ (n : Int) (b : Byte) (f : Bool), cs = [.int .i64 n, .int .u8 (b.toNat : Int), .bool f] := by
  obtain ⟨xs, n, _, rfl, hl, hlen, hf⟩ := DataW.trod_struct Try.underlying82 h
  rw [cells82] at hl
  match cs, hl with
  | [c0, c1, c2], _ =>
    match xs, hlen with
    | [y0, y1, y2], _ =>
      have h0 : DataW.trod enc Try.prog w base (fun _ => true) true n 3 [c0] = some y0 := by simpa [cells3] using hf 0 _ rfl
      have h1 : DataW.trod enc Try.prog w base (fun _ => true) true n 5 [c1] = some y1 := by simpa [cells5] using hf 1 _ rfl
      have h2 : DataW.trod enc Try.prog w base (fun _ => true) true n 4 [c2] = some y2 := by simpa [cells4] using hf 2 _ rfl
      obtain ⟨v0, e0, _, _⟩ := DataW.trod_int Try.underlying3 h0
      obtain ⟨v1, e1, _, w1⟩ := DataW.trod_int Try.underlying5 h1
      obtain ⟨v2, e2, _⟩ := DataW.trod_bool Try.underlying4 h2
      simp only [List.cons.injEq, and_true] at e0 e1 e2
      subst e0 e1 e2
      exact ⟨v0, BitVec.ofInt 8 v1, v2, by rw [byteV_of w1]; rfl⟩
set_option maxRecDepth 100000 in
theorem open_puts {v : Value} {d : DataW H} {p : List MemPlace} {r : Reach} {b0 : Nat} (hv : Value.okWide Try.prog w r b0 22 v) (h : DataW.Trod enc Try.prog w base (fun _ => true) true 22 v d p) :
    ∃ (a : Option Addr) (cap : Nat) (l : List PutL), v = .slice a l.length cap ∧ Puts w a l := by
  obtain ⟨a, len, cap, rfl⟩ := okWide_slice Try.underlying22 hv
  obtain ⟨fuel, hf⟩ := h
  have hf' : DataW.trod enc Try.prog w base (fun _ => true) true fuel 22 [.slice a len cap] = some (d, p) := by simpa [Value.cells] using hf
  rcases open_slice Try.underlying22 hf' with ⟨hcs, _⟩ | ⟨a', len', cap', m, n, D, Pl, hcs, _, hl, hm, hmm, hx, hi⟩
  · simp only [List.cons.injEq, and_true, Value.slice.injEq] at hcs
    obtain ⟨rfl, rfl, rfl⟩ := hcs
    exact ⟨none, 0, [], rfl, by simp, .inl rfl⟩
  · simp only [List.cons.injEq, and_true, Value.slice.injEq] at hcs
    obtain ⟨rfl, rfl, rfl⟩ := hcs
    simp only [if_true] at hmm
    subst hmm
    rw [cells82] at hi
    have hc : ∀ i, ∃ y : PutL, i < len → w.cell? (a'.add (i * 3)) = some (.int .i64 y.1) ∧ w.cell? ((a'.add (i * 3)).add 1) = some (.int .u8 (y.2.1.toNat : Int)) ∧ w.cell? ((a'.add (i * 3)).add 2) = some (.bool y.2.2) := by
      intro i
      by_cases hilt : i < len
      · obtain ⟨cs', hc, ht⟩ := hi i (by omega)
        obtain ⟨_, hcl, hat⟩ := World.cells?_some hc
        obtain ⟨n, b, f, rfl⟩ := put_of_trod ht
        have e0 := hat 0 (by omega)
        have e1 := hat 1 (by omega)
        have e2 := hat 2 (by omega)
        rw [add0] at e0
        exact ⟨(n, b, f), fun _ => ⟨e0, e1, e2⟩⟩
      · exact ⟨(0, 0, false), fun h => absurd h hilt⟩
    obtain ⟨g, hg⟩ := Classical.axiomOfChoice hc
    refine ⟨some a', m, (List.range len).map g, by simp, by simp; unfold maxLen at hm; omega, ?_⟩
    by_cases h0 : len = 0
    · subst h0; left; rfl
    right
    obtain ⟨b, off, rfl⟩ := addr_plain (hg 0 (by omega)).1
    refine ⟨b, off, rfl, fun i hi => ?_⟩
    have := hg i (by simpa using hi)
    simp only [Addr.add_mid] at this
    simpa using this
end Go.Proofs.Ytdhidcoglioalaa.Walks
