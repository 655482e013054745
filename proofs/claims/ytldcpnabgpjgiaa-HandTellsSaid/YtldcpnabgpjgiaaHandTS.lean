/-
  How a list of deeds opens; what the two hands' doings leave of both.
-/
import Derived.Test.YtldcpnabgpjgiaaHandTL
import Derived.Test.YtldcpnabgpjgiaaHandTJ
import Derived.Test.YtldcpnabgpjgiaaHandTO
import Derived.Test.YtldcpnabgpjgiaaHandTQ
import Derived.Test.YtldcpnabgpjgiaaHandTR
import Derived.Test.YtldcpnabgpjgiaaHandN
namespace Go.Proofs.Ytldcpnabgpjgiaa.Walks
open Go.ChangeShapes Go.WideShapes Go.RowKit Go.Joins Go.Deep
set_option linter.unusedVariables false
variable {H : Type} {enc : TypeId × Value → H} {w : World} {base : Nat}

/-- A deed in memory. -/
def DeedAt2 (w : World) (b o : Nat) : Prop := ∃ (kd n e : Int) (a : Option Addr) (cap : Nat) (m : List Int) (oF : Int) (oa : Option Addr) (ocap : Nat) (ol : List Int) (s r : Int),
  (w.cell? ⟨b, o, none⟩ = some (.int .i64 kd) ∧ w.cell? ⟨b, o + 1, none⟩ = some (.int .i64 n) ∧ w.cell? ⟨b, o + 2, none⟩ = some (.int .i64 e) ∧ w.cell? ⟨b, o + 3, none⟩ = some (.slice a m.length cap) ∧
   w.cell? ⟨b, o + 4, none⟩ = some (.int .i64 oF) ∧ w.cell? ⟨b, o + 5, none⟩ = some (.slice oa ol.length ocap) ∧ w.cell? ⟨b, o + 6, none⟩ = some (.int .i64 s) ∧ w.cell? ⟨b, o + 7, none⟩ = some (.int .u8 r)) ∧
  Wf n ∧ Wf e ∧ (Ints w a m ∧ (a = none → cap = 0) ∧ m.length ≤ 17592186044415) ∧ (Ints w oa ol ∧ (oa = none → ocap = 0) ∧ ol.length ≤ 17592186044415) ∧ 0 ≤ r ∧ r ≤ 255
def Deeds2 (w : World) (a : Option Addr) (len : Nat) : Prop := len ≤ 9223372036854775807 ∧ (len = 0 ∨ ∃ b off, a = some ⟨b, off, none⟩ ∧ ∀ i, i < len → DeedAt2 w b (off + i * 8))
theorem DeedAt2.imp {w w' : World} {b o : Nat} (h : DeedAt2 w b o) (hk : ∀ a v, w.cell? a = some v → w'.cell? a = some v) (hi : ∀ a l, Ints w a l → Ints w' a l) : DeedAt2 w' b o := by
  obtain ⟨kd, n, e, a, cap, m, oF, oa, ocap, ol, s, r, ⟨h0, h1, h2, h3, h4, h5, h6, h7⟩, hn, he, ⟨hm1, hm2, hm3⟩, ⟨ho1, ho2, ho3⟩, hr⟩ := h
  exact ⟨kd, n, e, a, cap, m, oF, oa, ocap, ol, s, r, ⟨hk _ _ h0, hk _ _ h1, hk _ _ h2, hk _ _ h3, hk _ _ h4, hk _ _ h5, hk _ _ h6, hk _ _ h7⟩, hn, he, ⟨hi _ _ hm1, hm2, hm3⟩, ⟨hi _ _ ho1, ho2, ho3⟩, hr⟩
theorem Deeds2.imp {w w' : World} {a : Option Addr} {len : Nat} (h : Deeds2 w a len) (hk : ∀ a v, w.cell? a = some v → w'.cell? a = some v) (hi : ∀ a l, Ints w a l → Ints w' a l) : Deeds2 w' a len := by
  obtain ⟨h0, h1 | ⟨b, off, ha, h1⟩⟩ := h
  · exact ⟨h0, .inl h1⟩
  · exact ⟨h0, .inr ⟨b, off, ha, fun i hi' => (h1 i hi').imp hk hi⟩⟩
theorem Deeds2.below {w w' : World} {a : Option Addr} {len : Nat} (h : Deeds2 w a len) (hb : Below w.heap.size w w') : Deeds2 w' a len := h.imp (fun _ _ hc => keepc hb hc) (fun _ _ hI => hI.below hb)

set_option maxRecDepth 100000 in
theorem deed_of_trod2 {fuel : Nat} {cs : List Value} {x : DataW H × List MemPlace} (h : DataW.trod enc Try.prog w base (fun _ => true) true fuel 36 cs = some x)
    (hsz : ∀ m ∈ DataW.weights Try.prog 36 x.1, m ≤ reachBytes) :
    ∃ (kd n e : Int) (a : Option Addr) (cap : Nat) (m : List Int) (oF : Int) (oa : Option Addr) (ocap : Nat) (ol : List Int) (s r : Int),
      cs = [.int .i64 kd, .int .i64 n, .int .i64 e, .slice a m.length cap, .int .i64 oF, .slice oa ol.length ocap, .int .i64 s, .int .u8 r] ∧
      Wf n ∧ Wf e ∧ (Ints w a m ∧ (a = none → cap = 0) ∧ m.length ≤ 17592186044415) ∧ (Ints w oa ol ∧ (oa = none → ocap = 0) ∧ ol.length ≤ 17592186044415) ∧ 0 ≤ r ∧ r ≤ 255 := by
  obtain ⟨xs, n, _, rfl, hl, hlen, hf⟩ := DataW.trod_struct Try.underlying36 h
  rw [cells36] at hl
  match cs, hl with
  | [c0, c1, c2, c3, c4, c5, c6, c7], _ =>
    match xs, hlen with
    | [y0, y1, y2, y3, y4, y5, y6], _ =>
      have h0 : DataW.trod enc Try.prog w base (fun _ => true) true n 3 [c0] = some y0 := by simpa [cells3] using hf 0 _ rfl
      have h1 : DataW.trod enc Try.prog w base (fun _ => true) true n 3 [c1] = some y1 := by simpa [cells3] using hf 1 _ rfl
      have h2 : DataW.trod enc Try.prog w base (fun _ => true) true n 3 [c2] = some y2 := by simpa [cells3] using hf 2 _ rfl
      have h3 : DataW.trod enc Try.prog w base (fun _ => true) true n 22 [c3] = some y3 := by simpa [cells22] using hf 3 _ rfl
      have h4 : DataW.trod enc Try.prog w base (fun _ => true) true n 24 [c4, c5] = some y4 := by simpa [cells24] using hf 4 _ rfl
      have h5 : DataW.trod enc Try.prog w base (fun _ => true) true n 3 [c6] = some y5 := by simpa [cells3] using hf 5 _ rfl
      have h6 : DataW.trod enc Try.prog w base (fun _ => true) true n 5 [c7] = some y6 := by simpa [cells5] using hf 6 _ rfl
      clear hf
      obtain ⟨v0, e0, _, _⟩ := DataW.trod_int Try.underlying3 h0
      obtain ⟨v1, e1, _, w1⟩ := DataW.trod_int Try.underlying3 h1
      obtain ⟨v2, e2, _, w2⟩ := DataW.trod_int Try.underlying3 h2
      obtain ⟨v5, e5, _, _⟩ := DataW.trod_int Try.underlying3 h5
      obtain ⟨v6, e6, _, w6⟩ := DataW.trod_int Try.underlying5 h6
      simp only [List.cons.injEq, and_true] at e0 e1 e2 e5 e6
      subst e0 e1 e2 e5 e6
      obtain ⟨a, cap, m, rfl, i1, i2, i3⟩ := ints_of_trod h3 (fun m hm => hsz m (by
        simp only [DataW.weights, Try.underlying36]
        simp [DataW.weightsEach, hm]))
      obtain ⟨z0, z1, n', rfl, _, hz0, hz1⟩ := trod_struct2 Try.underlying24 h4
      have hz0 : DataW.trod enc Try.prog w base (fun _ => true) true n' 3 [c4] = some z0 := by simpa [cells3] using hz0
      have hz1 : DataW.trod enc Try.prog w base (fun _ => true) true n' 22 [c5] = some z1 := by simpa [cells22] using hz1
      obtain ⟨v4, e4, _, _⟩ := DataW.trod_int Try.underlying3 hz0
      simp only [List.cons.injEq, and_true] at e4
      subst e4
      obtain ⟨oa, ocap, ol, rfl, j1, j2, j3⟩ := ints_of_trod hz1 (fun m hm => hsz m (by
        simp only [DataW.weights, Try.underlying36, List.map]
        simp [DataW.weightsEach, DataW.weights, Try.underlying24, hm]))
      have hw6 : 0 ≤ v6 ∧ v6 ≤ 255 := by
        simp [Lit.wf, IntKind.min, IntKind.max, IntKind.signed, IntKind.bits] at w6
        omega
      exact ⟨v0, v1, v2, a, cap, m, v4, oa, ocap, ol, v5, v6, rfl, w1, w2, ⟨i1, i2, i3⟩, ⟨j1, j2, j3⟩, hw6⟩
set_option maxRecDepth 100000 in
theorem open_deeds2 {v : Value} {d : DataW H} {p : List MemPlace} {r : Reach} {b0 : Nat} (hv : Value.okWide Try.prog w r b0 25 v) (h : DataW.Trod enc Try.prog w base (fun _ => true) true 25 v d p)
    (hsz : ∀ m ∈ DataW.weights Try.prog 25 d, m ≤ reachBytes) :
    ∃ (a : Option Addr) (len cap : Nat), v = .slice a len cap ∧ Deeds2 w a len := by
  obtain ⟨a, len, cap, rfl⟩ := okWide_slice Try.underlying25 hv
  obtain ⟨fuel, hf⟩ := h
  refine ⟨a, len, cap, rfl, ?_⟩
  have hf' : DataW.trod enc Try.prog w base (fun _ => true) true fuel 25 [.slice a len cap] = some (d, p) := by simpa [Value.cells] using hf
  rcases open_slice Try.underlying25 hf' with ⟨hcs, _⟩ | ⟨a', len', cap', m, n, D, Pl, hcs, _, hl, hm, hmm, hx, hi⟩
  · simp only [List.cons.injEq, and_true, Value.slice.injEq] at hcs
    obtain ⟨rfl, rfl, rfl⟩ := hcs
    exact ⟨by simp, .inl rfl⟩
  · simp only [List.cons.injEq, and_true, Value.slice.injEq] at hcs
    obtain ⟨rfl, rfl, rfl⟩ := hcs
    simp only [if_true] at hmm
    subst hmm
    rw [cells36] at hi
    refine ⟨by unfold maxLen at hm; omega, ?_⟩
    by_cases h0 : len = 0
    · exact .inl h0
    right
    simp only [Prod.mk.injEq] at hx
    obtain ⟨rfl, _⟩ := hx
    have hsp : ∃ b off, a' = ⟨b, off, none⟩ := by
      obtain ⟨cs', hc, _⟩ := hi 0 (by omega)
      obtain ⟨_, hcl, hat⟩ := World.cells?_some hc
      have hx := hat 0 (by omega)
      rw [List.getElem?_eq_getElem (by omega)] at hx
      obtain ⟨b, off, s⟩ := a'
      have hspot : s = none := by simpa [Addr.add] using World.cell?_spot hx
      subst hspot
      exact ⟨b, off, rfl⟩
    obtain ⟨b, off, rfl⟩ := hsp
    refine ⟨b, off, rfl, fun i hilt => ?_⟩
    obtain ⟨cs', hc, ht⟩ := hi i (by omega)
    obtain ⟨_, hcl, hat⟩ := World.cells?_some hc
    obtain ⟨kd, n, e, a, cap, m, oF, oa, ocap, ol, s, r, rfl, hr⟩ := deed_of_trod2 ht (fun m hm => hsz m (by
      simp only [DataW.weights, Try.underlying25, List.mem_cons, List.mem_append]
      exact .inr (.inl (weightsAll_mem (List.mem_map.2 ⟨i, by simpa using hilt, rfl⟩) m hm))))
    have key : ∀ j (h : j < 8) v, [Value.int .i64 kd, .int .i64 n, .int .i64 e, .slice a m.length cap, .int .i64 oF, .slice oa ol.length ocap, .int .i64 s, .int .u8 r][j]? = some v → w.cell? ⟨b, off + i * 8 + j, none⟩ = some v := fun j hj v hv => by
      have := hat j hj
      rw [hv, Addr.add_mid, Addr.add_mid] at this
      exact this
    exact ⟨kd, n, e, a, cap, m, oF, oa, ocap, ol, s, r, ⟨key 0 (by omega) _ rfl, key 1 (by omega) _ rfl, key 2 (by omega) _ rfl, key 3 (by omega) _ rfl, key 4 (by omega) _ rfl, key 5 (by omega) _ rfl, key 6 (by omega) _ rfl, key 7 (by omega) _ rfl⟩, hr⟩
end Go.Proofs.Ytldcpnabgpjgiaa.Walks
namespace Go.Proofs.Ytldcpnabgpjgiaa.WalksT
open Go.Proofs.Ytldcpnabgpjgiaa.Walks
open Go.RowKit Plain
set_option linter.unusedVariables false

section
variable {w0 w w' : World} {P p N : Nat} {f : Int} {l : List Int} {O O' : List (Int × Int × List Int)} {E E' : List (Int × Int × Int × Int)} {K : List (Nat × Array Value × TypeId)} {F : Nat → Prop}
theorem st_order (H : St w0 w P p N f l O E O' E' K F) (hN : N + 3 < maxLen) {n e : Int} (hn : Wf n) (he : Wf e) (a : Option Addr) (cap : Nat) (m : List Int) (hI : Ints w a m) (hc : a = none → cap = 0) (hr : m.length ≤ 17592186044415) :
    Calls Try.prog 34 #[.pointer (some ⟨P, 0, none⟩), .int .i64 n, .int .i64 e, .slice a m.length cap] w
      fun e' w' => e' = .returned (.int .i64 (orderE f l O n e m)) ∧ St w0 w' P p (N + 3) f l (orderO f l O n e m) E O' E' K F ∧ KeepC w w' := by
  obtain ⟨q, B, rfl, H, hK, hF, hU⟩ := H
  refine Calls.mono (order_any q N f l O E n e a cap m w H.h hN hn he hI hc hr H.hP) ?_
  rintro e' w' ⟨rfl, hX, ho⟩
  exact ⟨rfl, St.hand ⟨q, B, rfl, H, hK, hF, hU, hX, ho⟩⟩
theorem st_seal (H : St w0 w P p N f l O E O' E' K F) (hN : N + 3 < maxLen) {n e s r : Int} (hn : Wf n) (he : Wf e) (of : Int) (oa : Option Addr) (ocap : Nat) (ol : List Int) (hI : Ints w oa ol) (hr : ol.length ≤ 140737488351232) (hb0 : 0 ≤ r) (hb1 : r ≤ 255) :
    Calls Try.prog 37 #[.pointer (some ⟨P, 0, none⟩), .int .i64 n, .agg #[.int .i64 of, .slice oa ol.length ocap], .int .i64 e, .int .i64 s, .agg (rootC r)] w
      fun e' w' => e' = .returned (.int .i64 (sealE of ol E n e s)) ∧ St w0 w' P p (N + 3) f l O (sealO of ol E n e s r) O' E' K F ∧ KeepC w w' := by
  obtain ⟨q, B, rfl, H, hK, hF, hU⟩ := H
  refine Calls.mono (sealed_any q N f l O E n of oa ocap ol e s r w H.h hN hn he hI hr hb0 hb1) ?_
  rintro e' w' ⟨rfl, hX, ho⟩
  exact ⟨rfl, St.hand ⟨q, B, rfl, H, hK, hF, hU, hX, ho⟩⟩
theorem orderO_len (f : Int) (l : List Int) (O : List (Int × Int × List Int)) (n e : Int) (m : List Int) : (orderO f l O n e m).length ≤ O.length + 1 := by
  unfold orderO; split <;> simp
theorem sealO_len (f : Int) (l : List Int) (E : List (Int × Int × Int × Int)) (n e s r : Int) : (sealO f l E n e s r).length ≤ E.length + 1 := by
  unfold sealO; split <;> simp
/-- The document's hand's doings. -/
theorem St.ref {O1 : List (Int × Int × List Int)} {E1 : List (Int × Int × Int × Int)} (h : ∃ q B, HLoc.p q = P ∧ Both w0 w q p B N f l O E O' E' ∧ (∀ x ∈ K, ¬ q.ban x.1 ∧ w.heap[x.1]? = some (.cells x.2.1 x.2.2 (0, 0))) ∧ (∀ b, F b → B b) ∧ (EUniq E1 ∧ O1.length ≤ N + 1 ∧ E1.length ≤ N + 1) ∧ RefX w' p w0.heap.size B f l O1 E1 ∧ Below w0.heap.size w w' ∧ RefGo p w w') :
    St w0 w' P p (N + 1) f l O E O1 E1 K F ∧ ∀ b, F b → w'.heap[b]? = w.heap[b]? := by
  obtain ⟨q, B, hp, H, hK, hF, hU, hX, hb, hg⟩ := h
  refine ⟨⟨q.to fun b => q.ban b ∨ Made w w' b, B, hp, (H.ref hX hb hg).mono (by omega), fun x hx => ⟨?_, (H.refBlock hg (.inl (hK x hx).1) (lt_of_heap (hK x hx).2)).trans (hK x hx).2⟩, hF, hU⟩, fun b hb => H.refBlock hg (.inr (hF b hb)) (H.lt b (H.sub b (hF b hb)))⟩
  exact fun hh => hh.elim (hK x hx).1 fun h1 => absurd (lt_of_heap (hK x hx).2) (Nat.not_lt.2 h1.1)
theorem st_refOrder (H : St w0 w P p N f l O E O' E' K F) (hN : N ≤ 1000) (n e : Int) (a : Option Addr) (cap : Nat) (m : List Int) (hI : Ints w a m) (hc : a = none → cap = 0) (hr : m.length ≤ 17592186044415) :
    Calls Try.prog 35 #[.pointer (some ⟨p, 0, none⟩), .int .i64 n, .int .i64 e, .slice a m.length cap] w
      fun e' w' => e' = .returned (.int .i64 (orderE f l O' n e m)) ∧ St w0 w' P p (N + 1) f l O E (orderO f l O' n e m) E' K F ∧ ∀ b, F b → w'.heap[b]? = w.heap[b]? := by
  obtain ⟨q, B, rfl, H, hK, hF, hU, h1, h2⟩ := H
  refine Calls.mono (refOrder_any p w0.heap.size B f l O' E' n e a cap m w H.r hI hc hr H.hB (by omega) H.old.size) ?_
  rintro e' w' ⟨rfl, hX, hb, hg⟩
  have := orderO_len f l O' n e m
  exact ⟨rfl, St.ref ⟨q, B, rfl, H, hK, hF, ⟨hU, by omega, by omega⟩, hX, hb, hg⟩⟩
theorem st_refSeal (H : St w0 w P p N f l O E O' E' K F) (hN : N ≤ 1000) (n e s r of : Int) (oa : Option Addr) (ocap : Nat) (ol : List Int) (hI : Ints w oa ol) :
    Calls Try.prog 38 #[.pointer (some ⟨p, 0, none⟩), .int .i64 n, .agg #[.int .i64 of, .slice oa ol.length ocap], .int .i64 e, .int .i64 s, .agg (rootC r)] w
      fun e' w' => e' = .returned (.int .i64 (sealE of ol E' n e s)) ∧ St w0 w' P p (N + 1) f l O E O' (sealO of ol E' n e s r) K F ∧ ∀ b, F b → w'.heap[b]? = w.heap[b]? := by
  obtain ⟨q, B, rfl, H, hK, hF, hU, h1, h2⟩ := H
  refine Calls.mono (refSealed_any p w0.heap.size B f l O' E' n of oa ocap ol e s r w H.r hI H.hB (by omega) H.old.size) ?_
  rintro e' w' ⟨rfl, hX, hb, hg⟩
  have := sealO_len of ol E' n e s r
  exact ⟨rfl, St.ref ⟨q, B, rfl, H, hK, hF, ⟨hU.told of ol n e s r, by omega, by omega⟩, hX, hb, hg⟩⟩
theorem st_crew (H : St w0 w P p N f l O E O' E' K F) {e : Int} (he : Wf e) : Calls Try.prog 39 #[.pointer (some ⟨P, 0, none⟩), .int .i64 e] w (CrewIs f (crewOf f O e) w) := by
  obtain ⟨q, B, rfl, H, hK, hF, hU⟩ := H
  exact crew_any q N f l O E e w H.h he
theorem st_refCrew (H : St w0 w P p N f l O E O E' K F) (hN : N ≤ 1000) (e : Int) : Calls Try.prog 40 #[.pointer (some ⟨p, 0, none⟩), .int .i64 e] w (CrewIs f (crewOf f O e) w) := by
  obtain ⟨q, B, rfl, H, hK, hF, hU, h1, h2⟩ := H
  have hg := goodC_len H.h.good
  exact refCrew_any p w0.heap.size B f l O E' e w H.r (by omega) (fun x hx => good_short (H.h.inv.1 x hx).2.2) hg.1 hg.2.1
theorem st_end (H : St w0 w P p N f l O E O' E' K F) {e : Int} (he : Wf e) (of : Int) (oa : Option Addr) (ocap : Nat) (ol : List Int) (hI : Ints w oa ol) :
    Calls Try.prog 41 #[.pointer (some ⟨P, 0, none⟩), .agg #[.int .i64 of, .slice oa ol.length ocap], .int .i64 e] w (EndIs (endIs E of ol e) w) := by
  obtain ⟨q, B, rfl, H, hK, hF, hU⟩ := H
  exact end_any q N f l O E of oa ocap ol e w H.h he hI
theorem st_refEnd (H : St w0 w P p N f l O E O' E K F) (hN : N ≤ 1000) (e : Int) (of : Int) (oa : Option Addr) (ocap : Nat) (ol : List Int) (hI : Ints w oa ol) :
    Calls Try.prog 42 #[.pointer (some ⟨p, 0, none⟩), .agg #[.int .i64 of, .slice oa ol.length ocap], .int .i64 e] w (EndIs (endIs E of ol e) w) := by
  obtain ⟨q, B, rfl, H, hK, hF, hU, h1, h2⟩ := H
  rw [← refEnd_is hU]
  exact refEnd_any p w0.heap.size B f l O' E of oa ocap ol e w H.r (by omega) H.h.inv2 hI
/-- The marks that are told are ones. -/
theorem St.okEnd (H : St w0 w P p N f l O E O' E' K F) (of : Int) (ol : List Int) (e : Int) : okMark (.agg (markC ((endIs E of ol e).getD (0, 0)).1 ((endIs E of ol e).getD (0, 0)).2)) := by
  obtain ⟨q, B, rfl, H, hK, hF, hU⟩ := H
  cases hc : endIs E of ol e with
  | none => exact okMark_mk (by simp) (by simp)
  | some x =>
    unfold endIs at hc
    by_cases hg : goodC of ol = true
    · rw [if_pos hg] at hc
      obtain ⟨_, a, _, h2⟩ := endTo_some hc
      have h1 := H.h.inv2 _ (endOf_some h2)
      exact okMark_mk (by simp at h1 ⊢; omega) (by simp at h1 ⊢; omega)
    · rw [if_neg hg] at hc; cases hc
theorem St.crewShort (H : St w0 w P p N f l O E O' E' K F) (e : Int) : ((crewOf f O e).getD []).length ≤ 7 := by
  obtain ⟨q, B, rfl, H, hK, hF, hU⟩ := H
  exact crewOf_short (goodC_len H.h.good).1 H.h.inv
end
/-- Both are made. -/
theorem st_new {w0 w1 w2 w3 : World} {q : HLoc} {p : Nat} {f : Int} {l : List Int} (hg : True) (h0 : Below w0.heap.size w0 w1) (hH : HandAt w2 q 0 f l [] []) (hb2 : Below w1.heap.size w1 w2) (hR : ∀ r ∈ q.R, w1.heap.size ≤ r) (hp : w1.heap.size ≤ q.p) (hq : q.ban = Made w0 w1)
    (hr : RefX w3 p w2.heap.size (Made w0 w1) f l [] []) (hb3 : Below w2.heap.size w2 w3) : St w0 w3 q.p p 0 f l [] [] [] [] [] (Made w0 w1) := by
  have hz1 := h0.size
  have hz2 := hb2.size
  have hz3 := hb3.size
  have hpb := hr.pb
  have hpl := hr.lt
  have hqp := hH.pcells
  refine ⟨q.to fun b => Made w0 w1 b ∨ Made w2 w3 b, Made w0 w1, rfl, ⟨?_, ?_, ?_, fun b hm => ?_, .inr ⟨hpb, hpl⟩, fun b ht => ?_, fun b hh => ?_, fun b hh => .inl hh, fun b hh => hh.1, fun b hm => Nat.le_trans hz1 (hR b hm), Below.step (Below.step h0 hb2) hb3⟩, by simp, fun b hh => hh, List.Pairwise.nil, by simp, by simp⟩
  · exact (hH.reban (B := fun b => Made w0 w1 b ∨ Made w2 w3 b) fun b h1 h2 => by rw [hq]; exact h2.elim id fun h3 => absurd h1 (Nat.not_lt.2 h3.1)).below hb3
  · exact ⟨hr.row, hr.c0, hr.c1, by obtain ⟨v, xs, h1, h2, h3⟩ := hr.c2; exact ⟨v, xs, h1, ⟨h2.1, h2.2.imp id fun ⟨g, cap, cur, k1, k2, k3⟩ => ⟨g, cap, cur, k1, by omega, k3⟩⟩, h3⟩, by obtain ⟨v, xs, h1, h2, h3⟩ := hr.c3; exact ⟨v, xs, h1, ⟨h2.1, h2.2.imp id fun ⟨g, cap, cur, k1, k2, k3⟩ => ⟨g, cap, cur, k1, by omega, k3⟩⟩, h3⟩, hr.z2, hr.z3, hr.np, by omega⟩
  · rintro (h1 | h1)
    · exact absurd h1.2 (Nat.not_lt.2 hp)
    · exact absurd hqp (Nat.not_lt.2 h1.1)
  · rintro (h1 | h1)
    · exact absurd h1.2 (Nat.not_lt.2 (hR b hm))
    · exact absurd (hH.lt b hm) (Nat.not_lt.2 h1.1)
  · obtain ⟨j, n, c, hj, hh⟩ := ht
    have key : ∀ {e : TypeId} {size : Nat} {v : Value} {n' : Nat} {xs : List Value}, w3.cell? ⟨p, j, none⟩ = some v → w3.ownsRow w2.heap.size e size v n' xs → w2.heap.size ≤ b ∧ b < w3.heap.size := by
      intro e size v n' xs h1 h2
      rw [h1] at hh
      cases hh
      obtain ⟨_, ⟨k1, _⟩ | ⟨g, cap, cur, k1, k2, k3, _⟩⟩ := h2
      · cases k1
      · simp only [Value.slice.injEq, Option.some.injEq, Addr.mk.injEq] at k1
        have := lt_of_heap k3
        omega
    rcases hj with rfl | rfl
    · obtain ⟨v, xs, h1, h2, _⟩ := hr.c2
      exact .inr (key h1 h2)
    · obtain ⟨v, xs, h1, h2, _⟩ := hr.c3
      exact .inr (key h1 h2)
  · rcases hh with h1 | h1
    · have := h1.2; omega
    · exact h1.2
/-! ### The calls of the law HandTells, at known answers -/
section
variable {w0 : World} {P p N B0 : Nat} {f : Int} {l : List Int} {O O1 : List (Int × Int × List Int)} {E E1 : List (Int × Int × Int × Int)} {K : List (Nat × Array Value × TypeId)} {F : Nat → Prop} {na ma : Option Addr} {m : List Int} {ncap mcap : Nat} {fr ep R : Int}
/-- Both, and a list of one's own that may be written over. -/
def SO (w0 W : World) (P p N : Nat) (f : Int) (l : List Int) (O : List (Int × Int × List Int)) (E : List (Int × Int × Int × Int)) (O' : List (Int × Int × List Int)) (E' : List (Int × Int × Int × Int)) (K : List (Nat × Array Value × TypeId)) (F : Nat → Prop) (B0 : Nat) (na : Option Addr) (m : List Int) (ncap : Nat) : Prop :=
  St w0 W P p N f l O E O' E' K F ∧ Own W B0 na m ncap ∧ ∀ x, na = some x → F x.block
theorem SO.below {W W' : World} {O' : List (Int × Int × List Int)} {E' : List (Int × Int × Int × Int)} (h : SO w0 W P p N f l O E O' E' K F B0 na m ncap) (hb : Below W.heap.size W W') : SO w0 W' P p N f l O E O' E' K F B0 na m ncap :=
  ⟨h.1.below hb, ownsRow_below h.2.1 hb, h.2.2⟩
theorem SO.drew {W : World} {O' : List (Int × Int × List Int)} {E' : List (Int × Int × Int × Int)} (h : SO w0 W P p N f l O E O' E' K F B0 na m ncap) : SO w0 W.drew P p N f l O E O' E' K F B0 na m ncap := h.below (Below.refl _ _).drew
theorem so_order (hN : N ≤ 1000) (hn : Wf fr) (he : Wf ep) (hm : m.length ≤ 17592186044415) (hR : orderE f l O fr ep m = R) (hO : orderO f l O fr ep m = O1) {E' : List (Int × Int × Int × Int)} {O' : List (Int × Int × List Int)} (W : World) (h : SO w0 W P p N f l O E O' E' K F B0 na m ncap) :
    Calls Try.prog 34 #[.pointer (some ⟨P, 0, none⟩), .int .i64 fr, .int .i64 ep, .slice na m.length ncap] W fun e' w' => e' = .returned (.int .i64 R) ∧ SO w0 w' P p (N + 3) f l O1 E O' E' K F B0 na m ncap := by
  subst hR; subst hO
  obtain ⟨hS, hOw, hF⟩ := h
  refine Calls.mono (st_order hS (by unfold maxLen; omega) hn he na ncap m (Own.ints hOw (by omega)) (Own.nocap hOw) hm) ?_
  rintro e' w' ⟨rfl, hS', hk⟩
  exact ⟨rfl, hS', own_keepC hOw hk, hF⟩
theorem so_refOrder (hN : N ≤ 1000) (hm : m.length ≤ 17592186044415) (hI : Ints w0 ma m) (hc : ma = none → mcap = 0) {O' : List (Int × Int × List Int)} {E' : List (Int × Int × Int × Int)} (hR : orderE f l O' fr ep m = R) (hO : orderO f l O' fr ep m = O1) (W : World) (h : SO w0 W P p N f l O E O' E' K F B0 na m ncap) :
    Calls Try.prog 35 #[.pointer (some ⟨p, 0, none⟩), .int .i64 fr, .int .i64 ep, .slice ma m.length mcap] W fun e' w' => e' = .returned (.int .i64 R) ∧ SO w0 w' P p (N + 1) f l O E O1 E' K F B0 na m ncap := by
  subst hR; subst hO
  obtain ⟨hS, hOw, hF⟩ := h
  refine Calls.mono (st_refOrder hS hN fr ep ma mcap m (hI.below hS.old) hc hm) ?_
  rintro e' w' ⟨rfl, hS', hk⟩
  exact ⟨rfl, hS', own_keepF hOw hF hk, hF⟩
theorem so_eq (hm : m.length ≤ 17592186044415) (hI : Ints w0 ma m) {O' : List (Int × Int × List Int)} {E' : List (Int × Int × Int × Int)} (W : World) (h : SO w0 W P p N f l O E O' E' K F B0 na m ncap) :
    Calls Try.prog 36 #[.slice na m.length ncap, .slice ma m.length mcap] W fun e' w' => e' = .returned (.bool true) ∧ SO w0 w' P p N f l O E O' E' K F B0 na m ncap := by
  have hS := h.1
  refine Calls.mono (eqInts_any na ma ncap mcap m m W (Own.ints h.2.1 (by omega)) (hI.below hS.old)) ?_
  rintro e' w' ⟨rfl, hb⟩
  exact ⟨by simp, h.below hb⟩
theorem so_seal {s r of : Int} (hN : N ≤ 1000) (hn : Wf fr) (he : Wf ep) (hm : m.length ≤ 17592186044415) (hr0 : 0 ≤ r) (hr1 : r ≤ 255) (hR : sealE of m E fr ep s = R) (hE : sealO of m E fr ep s r = E1) {O' : List (Int × Int × List Int)} {E' : List (Int × Int × Int × Int)} (W : World) (h : SO w0 W P p N f l O E O' E' K F B0 na m ncap) :
    Calls Try.prog 37 #[.pointer (some ⟨P, 0, none⟩), .int .i64 fr, .agg #[.int .i64 of, .slice na m.length ncap], .int .i64 ep, .int .i64 s, .agg (rootC r)] W fun e' w' => e' = .returned (.int .i64 R) ∧ SO w0 w' P p (N + 3) f l O E1 O' E' K F B0 na m ncap := by
  subst hR; subst hE
  obtain ⟨hS, hOw, hF⟩ := h
  refine Calls.mono (st_seal hS (by unfold maxLen; omega) hn he of na ncap m (Own.ints hOw (by omega)) (by omega) hr0 hr1) ?_
  rintro e' w' ⟨rfl, hS', hk⟩
  exact ⟨rfl, hS', own_keepC hOw hk, hF⟩
theorem so_refSeal {s r of : Int} (hN : N ≤ 1000) (hI : Ints w0 ma m) {O' : List (Int × Int × List Int)} {E' : List (Int × Int × Int × Int)} (hR : sealE of m E' fr ep s = R) (hE : sealO of m E' fr ep s r = E1) (W : World) (h : SO w0 W P p N f l O E O' E' K F B0 na m ncap) :
    Calls Try.prog 38 #[.pointer (some ⟨p, 0, none⟩), .int .i64 fr, .agg #[.int .i64 of, .slice ma m.length mcap], .int .i64 ep, .int .i64 s, .agg (rootC r)] W fun e' w' => e' = .returned (.int .i64 R) ∧ SO w0 w' P p (N + 1) f l O E O' E1 K F B0 na m ncap := by
  subst hR; subst hE
  obtain ⟨hS, hOw, hF⟩ := h
  refine Calls.mono (st_refSeal hS hN fr ep s r of ma mcap m (hI.below hS.old)) ?_
  rintro e' w' ⟨rfl, hS', hk⟩
  exact ⟨rfl, hS', own_keepF hOw hF hk, hF⟩
theorem so_same {of : Int} (hm : m.length ≤ 17592186044415) (hI : Ints w0 ma m) {O' : List (Int × Int × List Int)} {E' : List (Int × Int × Int × Int)} (W : World) (h : SO w0 W P p N f l O E O' E' K F B0 na m ncap) :
    Calls Try.prog 31 #[.agg #[.int .i64 of, .slice na m.length ncap], .agg #[.int .i64 of, .slice ma m.length mcap]] W fun e' w' => e' = .returned (.bool true) ∧ SO w0 w' P p N f l O E O' E' K F B0 na m ncap := by
  have hS := h.1
  refine Calls.mono (same_any of of na ma ncap mcap m m W (Own.ints h.2.1 (by omega)) (hI.below hS.old)) ?_
  rintro e' w' ⟨rfl, hb⟩
  exact ⟨by simp, h.below hb⟩
/-- What a round keeps. -/
def StL (w0 W : World) (P p N : Nat) (f : Int) (l : List Int) (K : List (Nat × Array Value × TypeId)) : Prop := ∃ O E F, St w0 W P p N f l O E O E K F
theorem st_crewAt {W : World} {L : List Int} {X : Int} {T : Bool} (H : St w0 W P p N f l O E O E K F) (he : Wf ep) (hX : (if (crewOf f O ep).isSome then f else 0) = X) (hL : (crewOf f O ep).getD [] = L) (hT : (crewOf f O ep).isSome = T) :
    Calls Try.prog 39 #[.pointer (some ⟨P, 0, none⟩), .int .i64 ep] W fun e' w' => ∃ a' cap', e' = .returned (.tuple #[.agg #[.int .i64 X, .slice a' L.length cap'], .bool T]) ∧ Own w' W.heap.size a' L cap' ∧ Below W.heap.size W w' := by
  subst hX; subst hL; subst hT
  exact st_crew H he
theorem st_refCrewAt {W : World} {L : List Int} {X : Int} {T : Bool} (H : St w0 W P p N f l O E O E K F) (hN : N ≤ 1000) (hX : (if (crewOf f O ep).isSome then f else 0) = X) (hL : (crewOf f O ep).getD [] = L) (hT : (crewOf f O ep).isSome = T) :
    Calls Try.prog 40 #[.pointer (some ⟨p, 0, none⟩), .int .i64 ep] W fun e' w' => ∃ a' cap', e' = .returned (.tuple #[.agg #[.int .i64 X, .slice a' L.length cap'], .bool T]) ∧ Own w' W.heap.size a' L cap' ∧ Below W.heap.size W w' := by
  subst hX; subst hL; subst hT
  exact st_refCrew H hN ep
theorem st_endAt {W : World} {of : Int} {oa : Option Addr} {ocap : Nat} {ol : List Int} {x1 x2 : Int} {T : Bool} (H : St w0 W P p N f l O E O E K F) (he : Wf ep) (hI : Ints W oa ol) (h1 : ((endIs E of ol ep).getD (0, 0)).1 = x1) (h2 : ((endIs E of ol ep).getD (0, 0)).2 = x2) (hT : (endIs E of ol ep).isSome = T) :
    Calls Try.prog 41 #[.pointer (some ⟨P, 0, none⟩), .agg #[.int .i64 of, .slice oa ol.length ocap], .int .i64 ep] W fun e' w' => e' = .returned (.tuple #[.agg (markC x1 x2), .bool T]) ∧ Below W.heap.size W w' := by
  subst h1; subst h2; subst hT
  exact st_end H he of oa ocap ol hI
theorem st_refEndAt {W : World} {of : Int} {oa : Option Addr} {ocap : Nat} {ol : List Int} {x1 x2 : Int} {T : Bool} (H : St w0 W P p N f l O E O E K F) (hN : N ≤ 1000) (hI : Ints W oa ol) (h1 : ((endIs E of ol ep).getD (0, 0)).1 = x1) (h2 : ((endIs E of ol ep).getD (0, 0)).2 = x2) (hT : (endIs E of ol ep).isSome = T) :
    Calls Try.prog 42 #[.pointer (some ⟨p, 0, none⟩), .agg #[.int .i64 of, .slice oa ol.length ocap], .int .i64 ep] W fun e' w' => e' = .returned (.tuple #[.agg (markC x1 x2), .bool T]) ∧ Below W.heap.size W w' := by
  subst h1; subst h2; subst hT
  exact st_refEnd H hN ep of oa ocap ol hI
end
end Go.Proofs.Ytldcpnabgpjgiaa.WalksT
