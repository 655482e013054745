/-
  The walks of slices.DeleteFunc and crew.Others.
-/
import Derived.Test.YtldcpnabgpjgiaaCrewG
namespace Go.Proofs.Ytldcpnabgpjgiaa.Walks
open Go.RowKit Plain
set_option linter.unusedVariables false

theorem grownBy_setCell {w0 w : World} {g o : Nat} {v : Value} (h : w0.grownBy w (some g)) : w0.grownBy (w.setCell ⟨g, o, none⟩ v) (some g) :=
  ⟨h.os, h.tape, h.output, by simpa using h.size, fun k hk hne => by
    rw [heap_setCell_other w ⟨g, o, none⟩ k v (fun e => hne (by rw [e]))]
    exact h.block k hk hne⟩
theorem grownBy_setCells (g : Nat) : ∀ (vs : List Value) (o : Nat) {w0 w : World}, w0.grownBy w (some g) → w0.grownBy (w.setCells g o vs) (some g)
  | [], _, _, _, h => h
  | v :: vs, o, _, _, h => grownBy_setCells g vs (o + 1) (grownBy_setCell h)
theorem heap_setCells (g : Nat) (e : TypeId) : ∀ (vs : List Value) (o : Nat) (w : World) (cur : Array Value), w.heap[g]? = some (.cells cur e (0, 0)) →
    ∃ cur', (w.setCells g o vs).heap[g]? = some (.cells cur' e (0, 0)) ∧ cur'.size = cur.size ∧ ∀ t, t < o → cur'[t]? = cur[t]?
  | [], _, _, cur, h => ⟨cur, h, rfl, fun _ _ => rfl⟩
  | v :: vs, o, w, cur, h => by
    obtain ⟨cur', h1, h2, h3⟩ := heap_setCells g e vs (o + 1) (w.setCell ⟨g, o, none⟩ v) (cur.setIfInBounds o v) (heap_setCell_same _ _ _ _ _ _ h)
    refine ⟨cur', h1, by simpa using h2, fun t ht => ?_⟩
    rw [h3 t (by omega), Array.getElem?_setIfInBounds_ne (by omega)]

/-- The loop's row: the first cells are what is left of the first j, the cells from j on are as they were. -/
def DRow (w : World) (g cap : Nat) (x : Int) (l : List Int) (j : Nat) : Prop :=
  ∃ cur, w.heap[g]? = some (.cells cur 3 (0, 0)) ∧ cur.size = cap ∧ (∀ t (h : t < (dels x (l.take j)).length), cur[t]? = some (iv (dels x (l.take j))[t])) ∧ ∀ t (h : t < l.length), j ≤ t → cur[t]? = some (iv l[t])

theorem DRow.cell {w : World} {g cap : Nat} {x : Int} {l : List Int} {j : Nat} (h : DRow w g cap x l j) (hj : j < l.length) : w.cell? ⟨g, j, none⟩ = some (.int .i64 l[j]) := by
  obtain ⟨cur, h1, _, _, h3⟩ := h
  rw [cell_of_row _ _ _ _ _ _ h1, h3 j hj (Nat.le_refl _)]; rfl
theorem DRow.some {w : World} {g cap : Nat} {x : Int} {l : List Int} {j : Nat} (h : DRow w g cap x l j) {t : Nat} (ht : t < cap) : ∃ v, w.cell? ⟨g, t, none⟩ = some v := by
  obtain ⟨cur, h1, hs, _, _⟩ := h
  rw [cell_of_row _ _ _ _ _ _ h1]
  exact ⟨cur[t], Array.getElem?_eq_getElem (by omega)⟩
theorem DRow.free {w : World} {g cap : Nat} {x : Int} {l : List Int} {j : Nat} (h : DRow w g cap x l j) (t : Nat) : w.frozen? ⟨g, t, none⟩ = false := by
  obtain ⟨cur, h1, hs, _, _⟩ := h
  exact frozen_of_row _ _ _ _ _ h1
theorem DRow.skip {w : World} {g cap : Nat} {x : Int} {l : List Int} {j : Nat} (h : DRow w g cap x l j) (hj : j < l.length) (hx : l[j] = x) : DRow w g cap x l (j + 1) ∧ (dels x (l.take (j + 1))).length = (dels x (l.take j)).length := by
  obtain ⟨cur, h1, hs, h2, h3⟩ := h
  have e : dels x (l.take (j + 1)) = dels x (l.take j) := by rw [dels_take_succ hj, if_pos hx, List.append_nil]
  refine ⟨⟨cur, h1, hs, ?_, fun t ht h' => h3 t ht (by omega)⟩, by rw [e]⟩
  rw [e]; exact h2
theorem DRow.put {w : World} {g cap : Nat} {x : Int} {l : List Int} {j : Nat} (h : DRow w g cap x l j) (hj : j < l.length) (hx : l[j] ≠ x) (hi : (dels x (l.take j)).length < j) (hcap : l.length ≤ cap) :
    DRow (w.setCell ⟨g, (dels x (l.take j)).length, none⟩ (.int .i64 l[j])) g cap x l (j + 1) ∧ (dels x (l.take (j + 1))).length = (dels x (l.take j)).length + 1 := by
  obtain ⟨cur, h1, hs, h2, h3⟩ := h
  have e : dels x (l.take (j + 1)) = dels x (l.take j) ++ [l[j]] := by rw [dels_take_succ hj, if_neg hx]
  refine ⟨⟨cur.setIfInBounds (dels x (l.take j)).length (.int .i64 l[j]), heap_setCell_same _ _ _ _ _ _ h1, by simpa using hs, fun t ht => ?_, fun t ht h' => ?_⟩, by rw [e]; simp⟩
  · simp only [e] at ht ⊢
    rw [List.length_append, List.length_singleton] at ht
    by_cases h4 : t = (dels x (l.take j)).length
    · subst h4
      rw [Array.getElem?_setIfInBounds_self_of_lt (by omega)]
      simp [iv]
    · rw [Array.getElem?_setIfInBounds_ne (by omega), h2 t (by omega), List.getElem_append_left (by omega)]
  · rw [Array.getElem?_setIfInBounds_ne (by omega)]
    exact h3 t ht (by omega)

def DelPost (base : Nat) (a : Option Addr) (cap : Nat) (l : List Int) (x : Int) (w : World) (e : Ending) (w' : World) : Prop :=
  e = .returned (.slice a (dels x l).length cap) ∧ Own w' base a (dels x l) cap ∧ w.grownBy w' (a.map Addr.block) ∧ Below base w w'

set_option maxHeartbeats 1000000 in
theorem deleteFunc_any (base : Nat) (a : Option Addr) (cap : Nat) (l : List Int) (x : Int) (g : Nat) (w : World) (hO : Own w base a l cap) (hr : l.length ≤ 17592186044416) (hbs : base ≤ w.heap.size)
    (hg : w.cell? ⟨g, 0, none⟩ = some (.int .i64 x)) (hga : ∀ ad, a = some ad → ad.block ≠ g) :
    Calls Try.prog 108 #[.slice a l.length cap, .func (.func 109) #[] #[.pointer (some ⟨g, 0, none⟩)]] w (DelPost base a cap l x w) := by
  have HI := Lib.hid (hO.ints (by omega))
  have HO := Lib.hid hO
  have HGA := Lib.hid hga
  clear hO hga
  go_enter Try.func108, Try.ntmps108
  go_wp2_with fail
  refine Calls.mono (indexFunc_any a cap l x g _ HI.out hg) ?_
  rintro e w' ⟨⟨i, rfl, HP⟩, rfl⟩
  rcases HP.out with ⟨rfl, hno⟩ | ⟨k, hk, rfl, hkx, hno⟩
  · have HNO := Lib.hid hno
    clear hno HP
    go_wp2
    go_ret
    exact ⟨by rw [dels_of_not_mem HNO.out]; rfl, by rw [dels_of_not_mem HNO.out]; exact HO.out, ⟨rfl, rfl, rfl, Nat.le_refl _, fun _ _ _ => rfl⟩, Below.refl _ _⟩
  · obtain ⟨gb, cur, rfl, hb, hgb, hc, hm, hs, ht⟩ := HO.out.len_pos_some (by omega)
    have hne : gb ≠ g := HGA.out _ rfl
    have hD0 : DRow w gb cap x l k := by
      refine ⟨cur, hgb, hs, ?_, ?_⟩
      · intro t h
        have e : dels x (l.take k) = l.take k := dels_of_not_mem hno
        simp only [e] at h ⊢
        have := congrArg (fun z => z[t]?) ht
        simp only [List.length_take] at h
        simp only [List.getElem?_take, show t < l.length by omega, if_true, List.getElem?_map, List.getElem?_eq_getElem (show t < l.length by omega), Option.map_some] at this
        rw [← Array.getElem?_toList, this]; simp
      · intro t h _
        have := congrArg (fun z => z[t]?) ht
        simp only [List.getElem?_take, h, if_true, List.getElem?_map, List.getElem?_eq_getElem h, Option.map_some] at this
        rw [← Array.getElem?_toList, this]
    have hlen0 : (dels x (l.take k)).length = k := by rw [dels_of_not_mem hno, List.length_take]; omega
    obtain ⟨hD1, hlen1⟩ := hD0.skip hk hkx
    have HD := Lib.hid hD1
    have HL : Hid ((dels x (l.take (k + 1))).length = k) := Lib.hid (by rw [hlen1, hlen0])
    clear hD0 hD1 hlen0 hlen1 hno HP hgb ht hs hkx
    have hk1 : ((k : Int) == -1) = false := by simp
    go_wp2_with fail
    go_loopw [5, 6] (fun iv jv wr => ∃ i j : Nat, i < j ∧ j ≤ l.length ∧ iv = .int .i64 i ∧ jv = .int .i64 j ∧ Hid ((dels x (l.take j)).length = i) ∧ Hid (DRow wr gb cap x l j) ∧ w.grownBy wr (some gb)) (fun _ jv _ => l.length - (intOf jv).toNat)
    case atStart => exact ⟨k, k + 1, by omega, by omega, rfl, by go_num, HL, HD, ⟨rfl, rfl, rfl, Nat.le_refl _, fun _ _ _ => rfl⟩⟩
    case round =>
      obtain ⟨i, j, hij, hj, rfl, rfl, HLi, HDi, hgr⟩ := hrel
      have hgw : wr.cell? ⟨g, 0, none⟩ = some (.int .i64 x) := by
        rw [World.cell?_of_block (hgr.block g (block_lt_of_cell hg) (by simp; omega))]; exact hg
      by_cases hlt : j < l.length
      · have hcell := HDi.out.cell hlt
        obtain ⟨n, hn⟩ : ∃ n, n = l[j] := ⟨_, rfl⟩
        rw [← hn] at hcell
        have HN := Lib.hid hn
        obtain ⟨v0, hv0⟩ := HDi.out.some (t := i) (by omega)
        have hfr := HDi.out.free i
        have hgrH := Lib.hid hgr
        clear hn hgr
        go_wp2_with fail
        refine Calls.mono (isIt_any n x g _ hgw) ?_
        rintro e w' ⟨rfl, rfl⟩
        by_cases hq : n = x
        · have hq' : (n == x) = true := by simp [hq]
          have HQ := Lib.hid hq
          clear hq
          go_wp2
          go_roundw
          case rel =>
            obtain ⟨d1, d2⟩ := HDi.out.skip hlt (by rw [← HN.out, HQ.out])
            exact ⟨i, j + 1, by omega, by omega, rfl, by go_num, Lib.hid (by rw [d2, HLi.out]), Lib.hid d1, hgrH.out⟩
          case measure => simp [intOf]; omega
        · have hq' : (n == x) = false := by simp [hq]
          have HQ := Lib.hid hq
          clear hq
          go_wp2
          go_roundw
          case rel =>
            obtain ⟨d1, d2⟩ := HDi.out.put hlt (by rw [← HN.out]; exact HQ.out) (by rw [HLi.out]; exact hij) hc
            rw [HLi.out, ← HN.out] at d1
            exact ⟨i + 1, j + 1, by omega, by omega, by go_num, by go_num, Lib.hid (by rw [d2, HLi.out]), Lib.hid d1, grownBy_setCell hgrH.out⟩
          case measure => simp [intOf]; omega
      · obtain rfl : j = l.length := by omega
        have hclr := Lib.run_clear_slice (P := Try.prog) wr 22 3 0 (.int .i64 0) Try.underlying22 Try.zeroValue3 rfl rfl gb i (l.length - i) (cap - i) (by omega)
          (fun t ht => by obtain ⟨v, hv⟩ := HDi.out.some (t := i + t) (by omega); rw [hv]; rfl) (fun t ht => HDi.out.free _)
        have hci : ¬ cap = i := by omega
        have HGR := Lib.hid hgr
        clear hgr
        go_wp2
        go_ret
        have hL := HLi.out
        have hDD := HDi.out
        rw [List.take_length] at hL
        obtain ⟨cur', q1, q2, q3, q4⟩ := hDD
        obtain ⟨cur2, p1, p2, p3⟩ := heap_setCells gb 3 (List.replicate (l.length - i) (.int .i64 0)) i wr cur' q1
        have hgr2 := grownBy_setCells gb (List.replicate (l.length - i) (.int .i64 0)) i HGR.out
        refine ⟨by rw [hL]; rfl, ⟨by simp, .inr ⟨gb, cap, cur2, rfl, hb, p1, by omega, hm, by omega, ?_⟩⟩, hgr2, (Below.refl _ _).grown hgr2 hbs (by intro k hk; cases hk; exact hb)⟩
        apply List.ext_getElem?
        intro t
        rw [Nat.mul_one, hL]
        by_cases ht : t < i
        · rw [List.getElem?_take, if_pos ht, Array.getElem?_toList, p3 t ht]
          have := q3 t (by rw [List.take_length, hL]; exact ht)
          rw [this, List.getElem?_map, List.getElem?_eq_getElem (by omega)]
          simp
        · rw [List.getElem?_take, if_neg ht, List.getElem?_eq_none (by simp; omega)]

set_option maxHeartbeats 1000000 in
theorem others_any (f : Int) (a : Option Addr) (cap : Nat) (l : List Int) (x : Int) (w : World) (hI : Ints w a l) (hn : a = none → cap = 0) :
    Calls Try.prog 72 #[.agg #[.int .i64 f, .slice a l.length cap], .int .i64 x] w fun e w' => ∃ a' cap', e = .returned (.slice a' (othersC f l x).length cap') ∧ Own w' w.heap.size a' (othersC f l x) cap' ∧ Below w.heap.size w w' := by
  have HI := Lib.hid hI
  have HN := Lib.hid hn
  clear hI hn
  cases hg : goodC f l with
  | true =>
    have HG := Lib.hid hg
    have he := errC_good hg
    obtain ⟨g1, g2, g3⟩ := goodC_len hg
    have hl7 : l.length ≤ 7 := by omega
    clear hg g1 g2 g3
    go_enter Try.func72, Try.ntmps72
    go_wp2_with fail
    have A0 := Lib.hid ((HI.out.alloc (.cells #[.int .i64 f, .slice a l.length cap] 24)).alloc (.cells #[.int .i64 x] 3))
    have q1 : ((w.alloc (.cells #[.int .i64 f, .slice a l.length cap] 24)).alloc (.cells #[.int .i64 x] 3)).cell? ⟨w.heap.size, 1, none⟩ = some (.slice a l.length cap) := cell_of_row _ _ _ _ _ _ (heap_alloc2_old _ _ _)
    have q2 : ((w.alloc (.cells #[.int .i64 f, .slice a l.length cap] 24)).alloc (.cells #[.int .i64 x] 3)).cell? ⟨w.heap.size + 1, 0, none⟩ = some (.int .i64 x) := cell_of_row _ _ _ _ _ _ (heap_alloc2_new _ _ _)
    have HB := Lib.hid ((Below.new w (.cells #[.int .i64 f, .slice a l.length cap] 24)).alloc (by simp) (.cells #[.int .i64 x] 3))
    have q6 : ((w.alloc (.cells #[.int .i64 f, .slice a l.length cap] 24)).alloc (.cells #[.int .i64 x] 3)).heap.size = w.heap.size + 2 := by simp
    generalize ((w.alloc (.cells #[.int .i64 f, .slice a l.length cap] 24)).alloc (.cells #[.int .i64 x] 3)) = wa at *
    refine Calls.mono (check_any f a cap l _ A0.out) ?_
    rintro e w1 ⟨rfl, hb⟩
    have q6' := Nat.le_of_eq q6.symm
    have d1 := keepc hb q1
    have d2 := keepc hb q2
    have s1 := hb.size
    have HB1 := Lib.hid hb
    rw [he]
    clear he hb q1 q2 q6
    go_wp2_with fail
    refine Calls.mono (clone_any a cap l _ (A0.out.below HB1.out) HN.out (by omega)) ?_
    rintro e w2 ⟨a', cap', rfl, hO, hb2, _⟩
    have e2 := keepc hb2 d2
    have s2 := hb2.size
    have HB2 := Lib.hid hb2
    have HO := Lib.hid hO
    clear hb2 hO d1 d2
    go_wp2_with fail
    refine Calls.mono (deleteFunc_any w1.heap.size a' cap' l x (w.heap.size + 1) _ HO.out (by omega) s2 e2 (fun ad had => by have := HO.out.base_le had; omega)) ?_
    rintro e w3 ⟨rfl, hO3, _, hb3⟩
    have HO3 := Lib.hid hO3
    have HB3 := Lib.hid hb3
    clear hO3 hb3
    go_wp2
    go_ret
    refine ⟨a', cap', ?_, ?_, ?_⟩
    · simp [othersC, HG.out]
    · rw [show othersC f l x = dels x l by simp [othersC, HG.out]]
      exact ownsRow_base (by omega) HO3.out
    · have h1 := Below.step (Below.step HB.out HB1.out) HB2.out
      exact h1.trans (HB3.out.mono (by omega))
  | false =>
    have HG := Lib.hid hg
    have he := errC_bad hg
    clear hg
    go_enter Try.func72, Try.ntmps72
    go_wp2_with fail
    refine Calls.mono (check_any f a cap l _ ((HI.out.alloc _).alloc _)) ?_
    rintro e w1 ⟨rfl, hb⟩
    rw [he]
    have HB := Lib.hid (Below.step ((Below.new w _).alloc (by simp) _) hb)
    clear he hb
    go_wp2
    go_ret
    have e0 : othersC f l x = [] := by simp [othersC, HG.out]
    refine ⟨none, 0, by rw [e0]; rfl, ?_, HB.out⟩
    rw [e0]
    exact World.ownsRow_nil _ _ _ _
end Go.Proofs.Ytldcpnabgpjgiaa.Walks
