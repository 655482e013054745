/-
  How the arguments of the journal's laws open: lists of ints, of deeds.
-/
import Derived.Test.YtdhidcoglioalaaPlateH
import Derived.ProofKit
import Derived.OpenShut
import Derived.SizedLaws
import Derived.Lib.SmallJoins
import Derived.Deep.Slices
import Derived.Deep.Grids
import Derived.ChangeSame
namespace Go.Proofs.Ytdhidcoglioalaa.Walks
open Go.ChangeShapes Go.WideShapes Go.RowKit Go.Joins Go.Deep Plain
set_option linter.unusedVariables false
variable {H : Type} {enc : TypeId × Value → H} {w : World} {base : Nat}

theorem bytes4 : Try.prog.bytesOf 4 = 1 := by kernel_rfl
theorem cells4 : Try.prog.cellsOf 4 = 1 := by kernel_rfl
theorem bytes5 : Try.prog.bytesOf 5 = 1 := by kernel_rfl
theorem cells5 : Try.prog.cellsOf 5 = 1 := by kernel_rfl
theorem cells3 : Try.prog.cellsOf 3 = 1 := by kernel_rfl
theorem bytes3 : Try.prog.bytesOf 3 = 8 := by kernel_rfl
theorem cells69 : Try.prog.cellsOf 69 = 5 := by kernel_rfl
theorem cells31 : Try.prog.cellsOf 31 = 1 := by kernel_rfl
theorem cells23 : Try.prog.cellsOf 23 = 1 := by kernel_rfl
theorem add0 (a : Addr) : a.add 0 = a := by unfold Addr.add; simp
theorem addr_plain {a : Addr} {v : Value} (h : w.cell? (a.add 0) = some v) : ∃ b off, a = ⟨b, off, none⟩ := by
  rw [add0] at h
  obtain ⟨b, off, s⟩ := a
  have hspot : s = none := by simpa using World.cell?_spot h
  subst hspot
  exact ⟨b, off, rfl⟩
/-- A byte of an int in its bounds. -/
theorem byteV_of {z : Int} (h : (Lit.int .u8 z).wf = true) : Value.int .u8 z = byteV (BitVec.ofInt 8 z) := by
  have hb : 0 ≤ z ∧ z ≤ 255 := by
    simp [Lit.wf, IntKind.min, IntKind.max, IntKind.signed, IntKind.bits] at h
    omega
  unfold byteV
  obtain ⟨n, rfl⟩ : ∃ n : Nat, z = n := ⟨z.toNat, by omega⟩
  rw [BitVec.ofInt_natCast, BitVec.toNat_ofNat, Nat.mod_eq_of_lt (by omega)]
theorem bools_of_trod {fuel : Nat} {v : Value} {x : DataW H × List MemPlace} (h : DataW.trod enc Try.prog w base (fun _ => true) true fuel 23 [v] = some x)
    (hsz : ∀ m ∈ DataW.weights Try.prog 23 x.1, m ≤ reachBytes) : ∃ (a : Option Addr) (cap : Nat) (l : List Bool), v = .slice a l.length cap ∧ Bools w a l ∧ (a = none → cap = 0) := by
  rcases Go.Deep.open_bools Try.underlying23 Try.underlying4 cells4 h with ⟨hcs, _⟩ | ⟨a, len, cap, B, hcs, _, hl, hm, hx, hcell⟩
  · simp only [List.cons.injEq, and_true] at hcs
    subst hcs
    exact ⟨none, 0, [], rfl, Bools.nil _ _, fun _ => rfl⟩
  · simp only [List.cons.injEq, and_true] at hcs
    subst hcs
    subst hx
    have hq : len * 1 + (cap - len) * 1 ≤ reachBytes := by
      have := hsz (len * 1 + (cap - len) * 1) (by
        simp only [DataW.weights, boolRow, Try.underlying23, List.length_map, List.length_range, bytes4, ← Nat.add_mul]
        exact List.mem_cons_self)
      exact this
    have hr : reachBytes = 140737488351232 := rfl
    rw [hr] at hq
    refine ⟨some a, cap, (List.range len).map B, by simp, ⟨by simp; omega, ?_⟩, (by intro h; cases h)⟩
    by_cases h0 : len = 0
    · subst h0; left; rfl
    right
    obtain ⟨b, off, rfl⟩ := addr_plain (hcell 0 (by omega))
    refine ⟨b, off, rfl, fun i hi => ?_⟩
    have := hcell i (by simp at hi; omega)
    rw [Addr.add_mid] at this
    rw [this]
    simp
theorem bytes_of_trod {fuel : Nat} {v : Value} {x : DataW H × List MemPlace} (h : DataW.trod enc Try.prog w base (fun _ => true) true fuel 42 [v] = some x)
    (hsz : ∀ m ∈ DataW.weights Try.prog 42 x.1, m ≤ reachBytes) : ∃ (a : Option Addr) (cap : Nat) (l : List Byte), v = .slice a l.length cap ∧ Bys w a l ∧ (a = none → cap = 0) ∧ l.length ≤ cap := by
  rcases open_ints Try.underlying42 Try.underlying5 cells5 h with ⟨hcs, _⟩ | ⟨a, len, cap, zs, hcs, _, hl, hm, hz, hx, hcell, hwz⟩
  · simp only [List.cons.injEq, and_true] at hcs
    subst hcs
    exact ⟨none, 0, [], rfl, Bys.nil _ _, fun _ => rfl, Nat.le_refl _⟩
  · simp only [List.cons.injEq, and_true] at hcs
    subst hcs
    have hzl : zs.length = cap := by simpa using hz
    subst hx
    have hq := hsz ((zs.take len).length * 1 + (zs.drop len).length * 1) (by
      simp only [DataW.weights, Try.underlying42, lits, List.length_map, bytes5, ← Nat.add_mul]
      exact List.mem_cons_self)
    have hr : reachBytes = 140737488351232 := rfl
    rw [hr] at hq
    simp only [List.length_take, List.length_drop] at hq
    refine ⟨some a, cap, (zs.take len).map (BitVec.ofInt 8), by rw [List.length_map, List.length_take, Nat.min_eq_left (by omega)], ⟨by rw [List.length_map, List.length_take]; omega, ?_⟩, (by intro h; cases h), by rw [List.length_map, List.length_take]; omega⟩
    by_cases h0 : len = 0
    · subst h0; left; simp
    right
    obtain ⟨b, off, rfl⟩ := addr_plain (hcell 0 (by omega))
    refine ⟨b, off, rfl, fun i hi => ?_⟩
    rw [List.length_map, List.length_take] at hi
    have := hcell i (by omega)
    rw [Addr.add_mid] at this
    rw [this, List.getElem_map, List.getElem_take]
    have e : zs.getD i 0 = zs[i]'(by omega) := by simp [List.getD, List.getElem?_eq_getElem (show i < zs.length by omega)]
    rw [e, byteV_of (hwz _ (List.getElem_mem _))]
set_option maxRecDepth 100000 in
theorem open_bools {v : Value} {d : DataW H} {p : List MemPlace} {r : Reach} {b0 : Nat} (hv : Value.okWide Try.prog w r b0 23 v) (h : DataW.Trod enc Try.prog w base (fun _ => true) true 23 v d p)
    (hsz : ∀ m ∈ DataW.weights Try.prog 23 d, m ≤ reachBytes) : ∃ (a : Option Addr) (cap : Nat) (l : List Bool), v = .slice a l.length cap ∧ Bools w a l ∧ (a = none → cap = 0) := by
  obtain ⟨a, len, cap, rfl⟩ := okWide_slice Try.underlying23 hv
  obtain ⟨fuel, hf⟩ := h
  exact bools_of_trod (x := (d, p)) (by simpa [Value.cells] using hf) hsz
set_option maxRecDepth 100000 in
theorem open_bytes {v : Value} {d : DataW H} {p : List MemPlace} {r : Reach} {b0 : Nat} (hv : Value.okWide Try.prog w r b0 42 v) (h : DataW.Trod enc Try.prog w base (fun _ => true) true 42 v d p)
    (hsz : ∀ m ∈ DataW.weights Try.prog 42 d, m ≤ reachBytes) : ∃ (a : Option Addr) (cap : Nat) (l : List Byte), v = .slice a l.length cap ∧ Bys w a l ∧ (a = none → cap = 0) ∧ l.length ≤ cap := by
  obtain ⟨a, len, cap, rfl⟩ := okWide_slice Try.underlying42 hv
  obtain ⟨fuel, hf⟩ := h
  exact bytes_of_trod (x := (d, p)) (by simpa [Value.cells] using hf) hsz
theorem ints_of_trod {fuel : Nat} {v : Value} {x : DataW H × List MemPlace} (h : DataW.trod enc Try.prog w base (fun _ => true) true fuel 31 [v] = some x)
    (hsz : ∀ m ∈ DataW.weights Try.prog 31 x.1, m ≤ reachBytes) : ∃ (a : Option Addr) (cap : Nat) (l : List Int), v = .slice a l.length cap ∧ Ints w a l ∧ (a = none → cap = 0) ∧ l.length ≤ cap ∧ ∀ y ∈ l, Wf y := by
  rcases open_ints Try.underlying31 Try.underlying3 cells3 h with ⟨hcs, _⟩ | ⟨a, len, cap, zs, hcs, _, hl, hm, hz, hx, hcell, hwz⟩
  · simp only [List.cons.injEq, and_true] at hcs
    subst hcs
    exact ⟨none, 0, [], rfl, Ints.nil _ _, fun _ => rfl, Nat.le_refl _, by simp⟩
  · simp only [List.cons.injEq, and_true] at hcs
    subst hcs
    have hzl : zs.length = cap := by simpa using hz
    subst hx
    have hq := hsz ((zs.take len).length * 8 + (zs.drop len).length * 8) (by
      simp only [DataW.weights, Try.underlying31, lits, List.length_map, bytes3, ← Nat.add_mul]
      exact List.mem_cons_self)
    have hr : reachBytes = 140737488351232 := rfl
    rw [hr] at hq
    simp only [List.length_take, List.length_drop] at hq
    refine ⟨some a, cap, zs.take len, by rw [List.length_take, Nat.min_eq_left (by omega)], ⟨by rw [List.length_take]; omega, ?_⟩, (by intro h; cases h), by rw [List.length_take]; omega, fun y hy => hwz _ (List.mem_of_mem_take hy)⟩
    by_cases h0 : len = 0
    · subst h0; left; simp
    right
    obtain ⟨b, off, rfl⟩ := addr_plain (hcell 0 (by omega))
    refine ⟨b, off, rfl, fun i hi => ?_⟩
    rw [List.length_take] at hi
    have := hcell i (by omega)
    rw [Addr.add_mid] at this
    rw [this, List.getElem_take]
    have e : zs.getD i 0 = zs[i]'(by omega) := by simp [List.getD, List.getElem?_eq_getElem (show i < zs.length by omega)]
    rw [e]
set_option maxRecDepth 100000 in
theorem open_intl {v : Value} {d : DataW H} {p : List MemPlace} {r : Reach} {b0 : Nat} (hv : Value.okWide Try.prog w r b0 31 v) (h : DataW.Trod enc Try.prog w base (fun _ => true) true 31 v d p)
    (hsz : ∀ m ∈ DataW.weights Try.prog 31 d, m ≤ reachBytes) : ∃ (a : Option Addr) (cap : Nat) (l : List Int), v = .slice a l.length cap ∧ Ints w a l ∧ (a = none → cap = 0) ∧ l.length ≤ cap ∧ ∀ y ∈ l, Wf y := by
  obtain ⟨a, len, cap, rfl⟩ := okWide_slice Try.underlying31 hv
  obtain ⟨fuel, hf⟩ := h
  exact ints_of_trod (x := (d, p)) (by simpa [Value.cells] using hf) hsz
/-- What a deed's cells hold. -/
structure DeedV where
  ba : Option Addr
  bc : Nat
  L : List Int
  B : Byte
  clr : Bool
  fail : Int
  ka : Option Addr
  kc : Nat
  K : List Bool
structure DeedV.Ok (x : DeedV) (w : World) : Prop where
  i : Ints w x.ba x.L
  il : x.L.length ≤ x.bc
  f : Wf x.fail
  k : Bools w x.ka x.K
  kn : x.ka = none → x.kc = 0
/-- A deed in memory. -/
structure DeedAt (w : World) (b o : Nat) (x : DeedV) : Prop where
  c0 : w.cell? ⟨b, o, none⟩ = some (.slice x.ba x.L.length x.bc)
  c1 : w.cell? ⟨b, o + 1, none⟩ = some (.int .u8 (x.B.toNat : Int))
  c2 : w.cell? ⟨b, o + 2, none⟩ = some (.bool x.clr)
  c3 : w.cell? ⟨b, o + 3, none⟩ = some (.int .i64 x.fail)
  c4 : w.cell? ⟨b, o + 4, none⟩ = some (.slice x.ka x.K.length x.kc)
  ok : x.Ok w
def Deedz (w : World) (a : Option Addr) (len : Nat) : Prop := len ≤ 9223372036854775807 ∧ (len = 0 ∨ ∃ b off, a = some ⟨b, off, none⟩ ∧ ∀ i, i < len → ∃ x, DeedAt w b (off + i * 5) x)
theorem DeedV.Ok.below {w w' : World} {x : DeedV} (h : x.Ok w) (hb : Below w.heap.size w w') : x.Ok w' := ⟨h.i.below hb, h.il, h.f, h.k.below hb, h.kn⟩
theorem DeedAt.below {w w' : World} {b o : Nat} {x : DeedV} (h : DeedAt w b o x) (hb : Below w.heap.size w w') : DeedAt w' b o x :=
  ⟨keepc hb h.c0, keepc hb h.c1, keepc hb h.c2, keepc hb h.c3, keepc hb h.c4, h.ok.below hb⟩
theorem Deedz.below {w w' : World} {a : Option Addr} {len : Nat} (h : Deedz w a len) (hb : Below w.heap.size w w') : Deedz w' a len :=
  ⟨h.1, h.2.imp id fun ⟨b, off, e, hc⟩ => ⟨b, off, e, fun i hi => ⟨_, (hc i hi).choose_spec.below hb⟩⟩⟩
theorem weightsAll_in {H : Type} {P : Program} {e : TypeId} : ∀ {l : List (DataW H)} {d : DataW H}, d ∈ l → ∀ n ∈ d.weights P e, n ∈ DataW.weightsAll P e l
  | x :: r, d, h, n, hn => by
    simp only [DataW.weightsAll, List.mem_append]
    rcases List.mem_cons.1 h with h | h
    · subst h; exact Or.inl hn
    · exact Or.inr (weightsAll_in h n hn)
set_option maxRecDepth 100000 in
theorem deed_of_trod {fuel : Nat} {cs : List Value} {x : DataW H × List MemPlace} (h : DataW.trod enc Try.prog w base (fun _ => true) true fuel 69 cs = some x)
    (hsz : ∀ m ∈ DataW.weights Try.prog 69 x.1, m ≤ reachBytes) :
    ∃ y : DeedV, cs = [.slice y.ba y.L.length y.bc, .int .u8 (y.B.toNat : Int), .bool y.clr, .int .i64 y.fail, .slice y.ka y.K.length y.kc] ∧ y.Ok w := by
  obtain ⟨xs, n, _, rfl, hl, hlen, hf⟩ := DataW.trod_struct Try.underlying69 h
  rw [cells69] at hl
  match cs, hl with
  | [c0, c1, c2, c3, c4], _ =>
    match xs, hlen with
    | [y0, y1, y2, y3, y4], _ =>
      have h0 : DataW.trod enc Try.prog w base (fun _ => true) true n 31 [c0] = some y0 := by simpa [cells31] using hf 0 _ rfl
      have h1 : DataW.trod enc Try.prog w base (fun _ => true) true n 5 [c1] = some y1 := by simpa [cells5] using hf 1 _ rfl
      have h2 : DataW.trod enc Try.prog w base (fun _ => true) true n 4 [c2] = some y2 := by simpa [cells4] using hf 2 _ rfl
      have h3 : DataW.trod enc Try.prog w base (fun _ => true) true n 3 [c3] = some y3 := by simpa [cells3] using hf 3 _ rfl
      have h4 : DataW.trod enc Try.prog w base (fun _ => true) true n 23 [c4] = some y4 := by simpa [cells23] using hf 4 _ rfl
      clear hf
      obtain ⟨v1, e1, _, w1⟩ := DataW.trod_int Try.underlying5 h1
      obtain ⟨v2, e2, _⟩ := DataW.trod_bool Try.underlying4 h2
      obtain ⟨v3, e3, _, w3⟩ := DataW.trod_int Try.underlying3 h3
      simp only [List.cons.injEq, and_true] at e1 e2 e3
      subst e1 e2 e3
      obtain ⟨ba, bc, L, rfl, i1, i2, i3, _⟩ := ints_of_trod h0 (fun m hm => hsz m (by
        simp only [DataW.weights, Try.underlying69]
        simp [DataW.weightsEach, hm]))
      obtain ⟨ka, kc, K, rfl, j1, j2⟩ := bools_of_trod h4 (fun m hm => hsz m (by
        simp only [DataW.weights, Try.underlying69]
        simp [DataW.weightsEach, hm]))
      exact ⟨⟨ba, bc, L, BitVec.ofInt 8 v1, v2, v3, ka, kc, K⟩, by rw [byteV_of w1]; rfl, i1, i3, w3, j1, j2⟩
set_option maxRecDepth 100000 in
theorem open_deedz {v : Value} {d : DataW H} {p : List MemPlace} {r : Reach} {b0 : Nat} (hv : Value.okWide Try.prog w r b0 63 v) (h : DataW.Trod enc Try.prog w base (fun _ => true) true 63 v d p)
    (hsz : ∀ m ∈ DataW.weights Try.prog 63 d, m ≤ reachBytes) :
    ∃ (a : Option Addr) (len cap : Nat), v = .slice a len cap ∧ Deedz w a len := by
  obtain ⟨a, len, cap, rfl⟩ := okWide_slice Try.underlying63 hv
  obtain ⟨fuel, hf⟩ := h
  refine ⟨a, len, cap, rfl, ?_⟩
  have hf' : DataW.trod enc Try.prog w base (fun _ => true) true fuel 63 [.slice a len cap] = some (d, p) := by simpa [Value.cells] using hf
  rcases open_slice Try.underlying63 hf' with ⟨hcs, _⟩ | ⟨a', len', cap', m, n, D, Pl, hcs, _, hl, hm, hmm, hx, hi⟩
  · simp only [List.cons.injEq, and_true, Value.slice.injEq] at hcs
    obtain ⟨rfl, rfl, rfl⟩ := hcs
    exact ⟨by simp, .inl rfl⟩
  · simp only [List.cons.injEq, and_true, Value.slice.injEq] at hcs
    obtain ⟨rfl, rfl, rfl⟩ := hcs
    simp only [if_true] at hmm
    subst hmm
    rw [cells69] at hi
    refine ⟨by unfold maxLen at hm; omega, ?_⟩
    by_cases h0 : len = 0
    · exact .inl h0
    right
    simp only [Prod.mk.injEq] at hx
    obtain ⟨rfl, _⟩ := hx
    have hsp : ∃ b off, a' = ⟨b, off, none⟩ := by
      obtain ⟨cs', hc, _⟩ := hi 0 (by omega)
      obtain ⟨_, hcl, hat⟩ := World.cells?_some hc
      have hx := hat 0 (by omega)
      rw [List.getElem?_eq_getElem (by omega)] at hx
      obtain ⟨b, off, s⟩ := a'
      have hspot : s = none := by simpa [Addr.add] using World.cell?_spot hx
      subst hspot
      exact ⟨b, off, rfl⟩
    obtain ⟨b, off, rfl⟩ := hsp
    refine ⟨b, off, rfl, fun i hilt => ?_⟩
    obtain ⟨cs', hc, ht⟩ := hi i (by omega)
    obtain ⟨_, hcl, hat⟩ := World.cells?_some hc
    obtain ⟨y, rfl, hr⟩ := deed_of_trod ht (fun m hm => hsz m (by
      simp only [DataW.weights, Try.underlying63, List.mem_cons, List.mem_append]
      exact .inr (.inl (weightsAll_in (List.mem_map.2 ⟨i, by simpa using hilt, rfl⟩) m hm))))
    have key : ∀ j (h : j < 5) v, [Value.slice y.ba y.L.length y.bc, .int .u8 (y.B.toNat : Int), .bool y.clr, .int .i64 y.fail, .slice y.ka y.K.length y.kc][j]? = some v → w.cell? ⟨b, off + i * 5 + j, none⟩ = some v := fun j hj v hv => by
      have := hat j hj
      rw [hv, Addr.add_mid, Addr.add_mid] at this
      exact this
    exact ⟨y, ⟨key 0 (by omega) _ rfl, key 1 (by omega) _ rfl, key 2 (by omega) _ rfl, key 3 (by omega) _ rfl, key 4 (by omega) _ rfl, hr⟩⟩
end Go.Proofs.Ytdhidcoglioalaa.Walks
