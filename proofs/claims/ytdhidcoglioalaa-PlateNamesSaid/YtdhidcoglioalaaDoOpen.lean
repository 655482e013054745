/-
  How a list of calls opens.
-/
import Derived.Test.YtdhidcoglioalaaPlOpen
import Derived.Test.YtdhidcoglioalaaTwo
namespace Go.Proofs.Ytdhidcoglioalaa.Walks
open Go.ChangeShapes Go.WideShapes Go.RowKit Go.Joins Go.Deep Plain
set_option linter.unusedVariables false
variable {H : Type} {enc : TypeId × Value → H} {w : World} {base : Nat}

theorem cells55 : Try.prog.cellsOf 55 = 5 := by kernel_rfl
theorem cells42 : Try.prog.cellsOf 42 = 1 := by kernel_rfl
theorem cells23 : Try.prog.cellsOf 23 = 1 := by kernel_rfl
/-- What a call is handed, as its cells hold it. -/
structure DoV where
  kd : Int
  A : Int
  bit : Int
  ba : Option Addr
  bc : Nat
  B : List Byte
  ka : Option Addr
  kc : Nat
  K : List Bool
structure DoV.Ok (x : DoV) (w : World) : Prop where
  a : Wf x.A
  b : Bys w x.ba x.B
  bn : x.ba = none → x.bc = 0
  bl : x.B.length ≤ x.bc
  k : Bools w x.ka x.K
  kn : x.ka = none → x.kc = 0
/-- A call in memory. -/
structure DoAt (w : World) (b o : Nat) (x : DoV) : Prop where
  c0 : w.cell? ⟨b, o, none⟩ = some (.int .i64 x.kd)
  c1 : w.cell? ⟨b, o + 1, none⟩ = some (.int .i64 x.A)
  c2 : w.cell? ⟨b, o + 2, none⟩ = some (.int .i64 x.bit)
  c3 : w.cell? ⟨b, o + 3, none⟩ = some (.slice x.ba x.B.length x.bc)
  c4 : w.cell? ⟨b, o + 4, none⟩ = some (.slice x.ka x.K.length x.kc)
  ok : x.Ok w
def Dos (w : World) (a : Option Addr) (len : Nat) : Prop := len ≤ 9223372036854775807 ∧ (len = 0 ∨ ∃ b off, a = some ⟨b, off, none⟩ ∧ ∀ i, i < len → ∃ x, DoAt w b (off + i * 5) x)
theorem DoV.Ok.below {w w' : World} {x : DoV} (h : x.Ok w) (hb : Below w.heap.size w w') : x.Ok w' := ⟨h.a, h.b.below hb, h.bn, h.bl, h.k.below hb, h.kn⟩
theorem DoAt.below {w w' : World} {b o : Nat} {x : DoV} (h : DoAt w b o x) (hb : Below w.heap.size w w') : DoAt w' b o x :=
  ⟨keepc hb h.c0, keepc hb h.c1, keepc hb h.c2, keepc hb h.c3, keepc hb h.c4, h.ok.below hb⟩
theorem Dos.below {w w' : World} {a : Option Addr} {len : Nat} (h : Dos w a len) (hb : Below w.heap.size w w') : Dos w' a len :=
  ⟨h.1, h.2.imp id fun ⟨b, off, e, hc⟩ => ⟨b, off, e, fun i hi => ⟨_, (hc i hi).choose_spec.below hb⟩⟩⟩
theorem weightsAll_mem {H : Type} {P : Program} {e : TypeId} : ∀ {l : List (DataW H)} {d : DataW H}, d ∈ l → ∀ n ∈ d.weights P e, n ∈ DataW.weightsAll P e l
  | x :: r, d, h, n, hn => by
    simp only [DataW.weightsAll, List.mem_append]
    rcases List.mem_cons.1 h with h | h
    · subst h; exact Or.inl hn
    · exact Or.inr (weightsAll_mem h n hn)
set_option maxRecDepth 100000 in
theorem do_of_trod {fuel : Nat} {cs : List Value} {x : DataW H × List MemPlace} (h : DataW.trod enc Try.prog w base (fun _ => true) true fuel 55 cs = some x)
    (hsz : ∀ m ∈ DataW.weights Try.prog 55 x.1, m ≤ reachBytes) :
    ∃ y : DoV, cs = [.int .i64 y.kd, .int .i64 y.A, .int .i64 y.bit, .slice y.ba y.B.length y.bc, .slice y.ka y.K.length y.kc] ∧ y.Ok w := by
  obtain ⟨xs, n, _, rfl, hl, hlen, hf⟩ := DataW.trod_struct Try.underlying55 h
  rw [cells55] at hl
  match cs, hl with
  | [c0, c1, c2, c3, c4], _ =>
    match xs, hlen with
    | [y0, y1, y2, y3, y4], _ =>
      have h0 : DataW.trod enc Try.prog w base (fun _ => true) true n 3 [c0] = some y0 := by simpa [cells3] using hf 0 _ rfl
      have h1 : DataW.trod enc Try.prog w base (fun _ => true) true n 3 [c1] = some y1 := by simpa [cells3] using hf 1 _ rfl
      have h2 : DataW.trod enc Try.prog w base (fun _ => true) true n 3 [c2] = some y2 := by simpa [cells3] using hf 2 _ rfl
      have h3 : DataW.trod enc Try.prog w base (fun _ => true) true n 42 [c3] = some y3 := by simpa [cells42] using hf 3 _ rfl
      have h4 : DataW.trod enc Try.prog w base (fun _ => true) true n 23 [c4] = some y4 := by simpa [cells23] using hf 4 _ rfl
      clear hf
      obtain ⟨v0, e0, _, _⟩ := DataW.trod_int Try.underlying3 h0
      obtain ⟨v1, e1, _, w1⟩ := DataW.trod_int Try.underlying3 h1
      obtain ⟨v2, e2, _, w2⟩ := DataW.trod_int Try.underlying3 h2
      simp only [List.cons.injEq, and_true] at e0 e1 e2
      subst e0 e1 e2
      obtain ⟨ba, bc, B, rfl, i1, i2, i3⟩ := bytes_of_trod h3 (fun m hm => hsz m (by
        simp only [DataW.weights, Try.underlying55]
        simp [DataW.weightsEach, hm]))
      obtain ⟨ka, kc, K, rfl, j1, j2⟩ := bools_of_trod h4 (fun m hm => hsz m (by
        simp only [DataW.weights, Try.underlying55]
        simp [DataW.weightsEach, hm]))
      exact ⟨⟨v0, v1, v2, ba, bc, B, ka, kc, K⟩, rfl, w1, i1, i2, i3, j1, j2⟩
set_option maxRecDepth 100000 in
theorem open_dos {v : Value} {d : DataW H} {p : List MemPlace} {r : Reach} {b0 : Nat} (hv : Value.okWide Try.prog w r b0 50 v) (h : DataW.Trod enc Try.prog w base (fun _ => true) true 50 v d p)
    (hsz : ∀ m ∈ DataW.weights Try.prog 50 d, m ≤ reachBytes) :
    ∃ (a : Option Addr) (len cap : Nat), v = .slice a len cap ∧ Dos w a len := by
  obtain ⟨a, len, cap, rfl⟩ := okWide_slice Try.underlying50 hv
  obtain ⟨fuel, hf⟩ := h
  refine ⟨a, len, cap, rfl, ?_⟩
  have hf' : DataW.trod enc Try.prog w base (fun _ => true) true fuel 50 [.slice a len cap] = some (d, p) := by simpa [Value.cells] using hf
  rcases open_slice Try.underlying50 hf' with ⟨hcs, _⟩ | ⟨a', len', cap', m, n, D, Pl, hcs, _, hl, hm, hmm, hx, hi⟩
  · simp only [List.cons.injEq, and_true, Value.slice.injEq] at hcs
    obtain ⟨rfl, rfl, rfl⟩ := hcs
    exact ⟨by simp, .inl rfl⟩
  · simp only [List.cons.injEq, and_true, Value.slice.injEq] at hcs
    obtain ⟨rfl, rfl, rfl⟩ := hcs
    simp only [if_true] at hmm
    subst hmm
    rw [cells55] at hi
    refine ⟨by unfold maxLen at hm; omega, ?_⟩
    by_cases h0 : len = 0
    · exact .inl h0
    right
    simp only [Prod.mk.injEq] at hx
    obtain ⟨rfl, _⟩ := hx
    have hsp : ∃ b off, a' = ⟨b, off, none⟩ := by
      obtain ⟨cs', hc, _⟩ := hi 0 (by omega)
      obtain ⟨_, hcl, hat⟩ := World.cells?_some hc
      have hx := hat 0 (by omega)
      rw [List.getElem?_eq_getElem (by omega)] at hx
      obtain ⟨b, off, s⟩ := a'
      have hspot : s = none := by simpa [Addr.add] using World.cell?_spot hx
      subst hspot
      exact ⟨b, off, rfl⟩
    obtain ⟨b, off, rfl⟩ := hsp
    refine ⟨b, off, rfl, fun i hilt => ?_⟩
    obtain ⟨cs', hc, ht⟩ := hi i (by omega)
    obtain ⟨_, hcl, hat⟩ := World.cells?_some hc
    obtain ⟨y, rfl, hr⟩ := do_of_trod ht (fun m hm => hsz m (by
      simp only [DataW.weights, Try.underlying50, List.mem_cons, List.mem_append]
      exact .inr (.inl (weightsAll_mem (List.mem_map.2 ⟨i, by simpa using hilt, rfl⟩) m hm))))
    have key : ∀ j (h : j < 5) v, [Value.int .i64 y.kd, .int .i64 y.A, .int .i64 y.bit, .slice y.ba y.B.length y.bc, .slice y.ka y.K.length y.kc][j]? = some v → w.cell? ⟨b, off + i * 5 + j, none⟩ = some v := fun j hj v hv => by
      have := hat j hj
      rw [hv, Addr.add_mid, Addr.add_mid] at this
      exact this
    exact ⟨y, ⟨key 0 (by omega) _ rfl, key 1 (by omega) _ rfl, key 2 (by omega) _ rfl, key 3 (by omega) _ rfl, key 4 (by omega) _ rfl, hr⟩⟩
end Go.Proofs.Ytdhidcoglioalaa.Walks
