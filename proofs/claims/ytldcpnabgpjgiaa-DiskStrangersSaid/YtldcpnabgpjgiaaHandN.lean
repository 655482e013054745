/-
  How a list of deeds opens.
-/
import Derived.Test.YtldcpnabgpjgiaaCrewOpen
import Derived.Test.YtldcpnabgpjgiaaHandB
import Derived.Deep.Slices
import Derived.ChangeSame
namespace Go.Proofs.Ytldcpnabgpjgiaa.Walks
open Go.ChangeShapes Go.WideShapes Go.RowKit Go.Joins Go.Deep
set_option linter.unusedVariables false
variable {H : Type} {enc : TypeId × Value → H} {w : World} {base : Nat}

theorem cells36 : Try.prog.cellsOf 36 = 8 := by kernel_rfl
theorem cells22 : Try.prog.cellsOf 22 = 1 := by kernel_rfl
/-- A deed in memory. -/
def DeedAt (w : World) (b o : Nat) : Prop := ∃ (kd n e : Int) (a : Option Addr) (cap : Nat) (m : List Int) (oF : Int) (oa : Option Addr) (ocap : Nat) (ol : List Int) (s r : Int),
  (w.cell? ⟨b, o, none⟩ = some (.int .i64 kd) ∧ w.cell? ⟨b, o + 1, none⟩ = some (.int .i64 n) ∧ w.cell? ⟨b, o + 2, none⟩ = some (.int .i64 e) ∧ w.cell? ⟨b, o + 3, none⟩ = some (.slice a m.length cap) ∧
   w.cell? ⟨b, o + 4, none⟩ = some (.int .i64 oF) ∧ w.cell? ⟨b, o + 5, none⟩ = some (.slice oa ol.length ocap) ∧ w.cell? ⟨b, o + 6, none⟩ = some (.int .i64 s) ∧ w.cell? ⟨b, o + 7, none⟩ = some (.int .u8 r)) ∧
  Wf n ∧ Wf e ∧ (Ints w a m ∧ (a = none → cap = 0) ∧ m.length ≤ 17592186044415) ∧ (Ints w oa ol ∧ ol.length ≤ 17592186044415) ∧ 0 ≤ r ∧ r ≤ 255
def Deeds (w : World) (a : Option Addr) (len : Nat) : Prop := len ≤ 9223372036854775807 ∧ (len = 0 ∨ ∃ b off, a = some ⟨b, off, none⟩ ∧ ∀ i, i < len → DeedAt w b (off + i * 8))
theorem DeedAt.imp {w w' : World} {b o : Nat} (h : DeedAt w b o) (hk : ∀ a v, w.cell? a = some v → w'.cell? a = some v) (hi : ∀ a l, Ints w a l → Ints w' a l) : DeedAt w' b o := by
  obtain ⟨kd, n, e, a, cap, m, oF, oa, ocap, ol, s, r, ⟨h0, h1, h2, h3, h4, h5, h6, h7⟩, hn, he, ⟨hm1, hm2, hm3⟩, ⟨ho1, ho2⟩, hr⟩ := h
  exact ⟨kd, n, e, a, cap, m, oF, oa, ocap, ol, s, r, ⟨hk _ _ h0, hk _ _ h1, hk _ _ h2, hk _ _ h3, hk _ _ h4, hk _ _ h5, hk _ _ h6, hk _ _ h7⟩, hn, he, ⟨hi _ _ hm1, hm2, hm3⟩, ⟨hi _ _ ho1, ho2⟩, hr⟩
theorem Deeds.imp {w w' : World} {a : Option Addr} {len : Nat} (h : Deeds w a len) (hk : ∀ a v, w.cell? a = some v → w'.cell? a = some v) (hi : ∀ a l, Ints w a l → Ints w' a l) : Deeds w' a len := by
  obtain ⟨h0, h1 | ⟨b, off, ha, h1⟩⟩ := h
  · exact ⟨h0, .inl h1⟩
  · exact ⟨h0, .inr ⟨b, off, ha, fun i hi' => (h1 i hi').imp hk hi⟩⟩
theorem Deeds.below {w w' : World} {a : Option Addr} {len : Nat} (h : Deeds w a len) (hb : Below w.heap.size w w') : Deeds w' a len := h.imp (fun _ _ hc => keepc hb hc) (fun _ _ hI => hI.below hb)

theorem weightsAll_mem {H : Type} {P : Program} {e : TypeId} : ∀ {l : List (DataW H)} {d : DataW H}, d ∈ l → ∀ n ∈ d.weights P e, n ∈ DataW.weightsAll P e l
  | x :: r, d, h, n, hn => by
    simp only [DataW.weightsAll, List.mem_append]
    rcases List.mem_cons.1 h with h | h
    · subst h; exact Or.inl hn
    · exact Or.inr (weightsAll_mem h n hn)
set_option maxRecDepth 100000 in
theorem deed_of_trod {fuel : Nat} {cs : List Value} {x : DataW H × List MemPlace} (h : DataW.trod enc Try.prog w base (fun _ => true) true fuel 36 cs = some x)
    (hsz : ∀ m ∈ DataW.weights Try.prog 36 x.1, m ≤ reachBytes) :
    ∃ (kd n e : Int) (a : Option Addr) (cap : Nat) (m : List Int) (oF : Int) (oa : Option Addr) (ocap : Nat) (ol : List Int) (s r : Int),
      cs = [.int .i64 kd, .int .i64 n, .int .i64 e, .slice a m.length cap, .int .i64 oF, .slice oa ol.length ocap, .int .i64 s, .int .u8 r] ∧
      Wf n ∧ Wf e ∧ (Ints w a m ∧ (a = none → cap = 0) ∧ m.length ≤ 17592186044415) ∧ (Ints w oa ol ∧ ol.length ≤ 17592186044415) ∧ 0 ≤ r ∧ r ≤ 255 := by
  obtain ⟨xs, n, _, rfl, hl, hlen, hf⟩ := DataW.trod_struct Try.underlying36 h
  rw [cells36] at hl
  match cs, hl with
  | [c0, c1, c2, c3, c4, c5, c6, c7], _ =>
    match xs, hlen with
    | [y0, y1, y2, y3, y4, y5, y6], _ =>
      have h0 : DataW.trod enc Try.prog w base (fun _ => true) true n 3 [c0] = some y0 := by simpa [cells3] using hf 0 _ rfl
      have h1 : DataW.trod enc Try.prog w base (fun _ => true) true n 3 [c1] = some y1 := by simpa [cells3] using hf 1 _ rfl
      have h2 : DataW.trod enc Try.prog w base (fun _ => true) true n 3 [c2] = some y2 := by simpa [cells3] using hf 2 _ rfl
      have h3 : DataW.trod enc Try.prog w base (fun _ => true) true n 22 [c3] = some y3 := by simpa [cells22] using hf 3 _ rfl
      have h4 : DataW.trod enc Try.prog w base (fun _ => true) true n 24 [c4, c5] = some y4 := by simpa [cells24] using hf 4 _ rfl
      have h5 : DataW.trod enc Try.prog w base (fun _ => true) true n 3 [c6] = some y5 := by simpa [cells3] using hf 5 _ rfl
      have h6 : DataW.trod enc Try.prog w base (fun _ => true) true n 5 [c7] = some y6 := by simpa [cells5] using hf 6 _ rfl
      clear hf
      obtain ⟨v0, e0, _, _⟩ := DataW.trod_int Try.underlying3 h0
      obtain ⟨v1, e1, _, w1⟩ := DataW.trod_int Try.underlying3 h1
      obtain ⟨v2, e2, _, w2⟩ := DataW.trod_int Try.underlying3 h2
      obtain ⟨v5, e5, _, _⟩ := DataW.trod_int Try.underlying3 h5
      obtain ⟨v6, e6, _, w6⟩ := DataW.trod_int Try.underlying5 h6
      simp only [List.cons.injEq, and_true] at e0 e1 e2 e5 e6
      subst e0 e1 e2 e5 e6
      obtain ⟨a, cap, m, rfl, i1, i2, i3⟩ := ints_of_trod h3 (fun m hm => hsz m (by
        simp only [DataW.weights, Try.underlying36]
        simp [DataW.weightsEach, hm]))
      obtain ⟨z0, z1, n', rfl, _, hz0, hz1⟩ := trod_struct2 Try.underlying24 h4
      have hz0 : DataW.trod enc Try.prog w base (fun _ => true) true n' 3 [c4] = some z0 := by simpa [cells3] using hz0
      have hz1 : DataW.trod enc Try.prog w base (fun _ => true) true n' 22 [c5] = some z1 := by simpa [cells22] using hz1
      obtain ⟨v4, e4, _, _⟩ := DataW.trod_int Try.underlying3 hz0
      simp only [List.cons.injEq, and_true] at e4
      subst e4
      obtain ⟨oa, ocap, ol, rfl, j1, j2, j3⟩ := ints_of_trod hz1 (fun m hm => hsz m (by
        simp only [DataW.weights, Try.underlying36, List.map]
        simp [DataW.weightsEach, DataW.weights, Try.underlying24, hm]))
      have hw6 : 0 ≤ v6 ∧ v6 ≤ 255 := by
        simp [Lit.wf, IntKind.min, IntKind.max, IntKind.signed, IntKind.bits] at w6
        omega
      exact ⟨v0, v1, v2, a, cap, m, v4, oa, ocap, ol, v5, v6, rfl, w1, w2, ⟨i1, i2, i3⟩, ⟨j1, j3⟩, hw6⟩
set_option maxRecDepth 100000 in
theorem open_deeds {v : Value} {d : DataW H} {p : List MemPlace} {r : Reach} {b0 : Nat} (hv : Value.okWide Try.prog w r b0 25 v) (h : DataW.Trod enc Try.prog w base (fun _ => true) true 25 v d p)
    (hsz : ∀ m ∈ DataW.weights Try.prog 25 d, m ≤ reachBytes) :
    ∃ (a : Option Addr) (len cap : Nat), v = .slice a len cap ∧ Deeds w a len := by
  obtain ⟨a, len, cap, rfl⟩ := okWide_slice Try.underlying25 hv
  obtain ⟨fuel, hf⟩ := h
  refine ⟨a, len, cap, rfl, ?_⟩
  have hf' : DataW.trod enc Try.prog w base (fun _ => true) true fuel 25 [.slice a len cap] = some (d, p) := by simpa [Value.cells] using hf
  rcases open_slice Try.underlying25 hf' with ⟨hcs, _⟩ | ⟨a', len', cap', m, n, D, Pl, hcs, _, hl, hm, hmm, hx, hi⟩
  · simp only [List.cons.injEq, and_true, Value.slice.injEq] at hcs
    obtain ⟨rfl, rfl, rfl⟩ := hcs
    exact ⟨by simp, .inl rfl⟩
  · simp only [List.cons.injEq, and_true, Value.slice.injEq] at hcs
    obtain ⟨rfl, rfl, rfl⟩ := hcs
    simp only [if_true] at hmm
    subst hmm
    rw [cells36] at hi
    refine ⟨by unfold maxLen at hm; omega, ?_⟩
    by_cases h0 : len = 0
    · exact .inl h0
    right
    simp only [Prod.mk.injEq] at hx
    obtain ⟨rfl, _⟩ := hx
    have hsp : ∃ b off, a' = ⟨b, off, none⟩ := by
      obtain ⟨cs', hc, _⟩ := hi 0 (by omega)
      obtain ⟨_, hcl, hat⟩ := World.cells?_some hc
      have hx := hat 0 (by omega)
      rw [List.getElem?_eq_getElem (by omega)] at hx
      obtain ⟨b, off, s⟩ := a'
      have hspot : s = none := by simpa [Addr.add] using World.cell?_spot hx
      subst hspot
      exact ⟨b, off, rfl⟩
    obtain ⟨b, off, rfl⟩ := hsp
    refine ⟨b, off, rfl, fun i hilt => ?_⟩
    obtain ⟨cs', hc, ht⟩ := hi i (by omega)
    obtain ⟨_, hcl, hat⟩ := World.cells?_some hc
    obtain ⟨kd, n, e, a, cap, m, oF, oa, ocap, ol, s, r, rfl, hr⟩ := deed_of_trod ht (fun m hm => hsz m (by
      simp only [DataW.weights, Try.underlying25, List.mem_cons, List.mem_append]
      exact .inr (.inl (weightsAll_mem (List.mem_map.2 ⟨i, by simpa using hilt, rfl⟩) m hm))))
    have key : ∀ j (h : j < 8) v, [Value.int .i64 kd, .int .i64 n, .int .i64 e, .slice a m.length cap, .int .i64 oF, .slice oa ol.length ocap, .int .i64 s, .int .u8 r][j]? = some v → w.cell? ⟨b, off + i * 8 + j, none⟩ = some v := fun j hj v hv => by
      have := hat j hj
      rw [hv, Addr.add_mid, Addr.add_mid] at this
      exact this
    exact ⟨kd, n, e, a, cap, m, oF, oa, ocap, ol, s, r, ⟨key 0 (by omega) _ rfl, key 1 (by omega) _ rfl, key 2 (by omega) _ rfl, key 3 (by omega) _ rfl, key 4 (by omega) _ rfl, key 5 (by omega) _ rfl, key 6 (by omega) _ rfl, key 7 (by omega) _ rfl⟩, hr⟩
end Go.Proofs.Ytldcpnabgpjgiaa.Walks
