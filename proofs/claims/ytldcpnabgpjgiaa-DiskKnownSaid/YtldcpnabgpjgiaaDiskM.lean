/-
  Counting: how many gave an answer (the closure in count).
  How many answers there are; the best of them: plain laws over the map.
-/
import Derived.Test.YtldcpnabgpjgiaaDiskL
import Derived.Maps.RangeWalk
namespace Go.Proofs.Ytldcpnabgpjgiaa.Walks
open Go.RowKit Plain
open Go.Maps (Keyed IsMap int_keyed)
set_option linter.unusedVariables false
attribute [local go_sem] isPV_mk adV_mk cells_agg cells_agg' held_drew room_drew cellsAt_drew isA4_mk isSl_mk isI_mk intOf_mk

theorem grown_of_below {w w' : World} (h : Below w.heap.size w w') (row : Option Nat) : w.grownBy w' row := ⟨h.os, h.tape, h.output, h.size, fun i hi _ => h.block i hi⟩
/-- One more of a list is met. -/
theorem filter_hit {P : Int → Bool} {f g : Int → Bool} {x : Int} (hx : f x = false) (hg : g x = true) (ho : ∀ k, k ≠ x → g k = f k) : ∀ {l : List Int}, l.Nodup → x ∈ l →
    (l.filter fun k => P k && g k).length = (l.filter fun k => P k && f k).length + (if P x then 1 else 0)
  | [], _, h => by simp at h
  | y :: l, hn, h => by
    rw [List.nodup_cons] at hn
    by_cases e : y = x
    · subst e
      have hsame : (l.filter fun k => P k && g k) = l.filter fun k => P k && f k := List.filter_congr (fun k hk => by rw [ho k (fun e => hn.1 (e ▸ hk))])
      rw [List.filter_cons, List.filter_cons, hsame, hx, hg]
      by_cases hp : P y <;> simp [hp]
    · have hx' : x ∈ l := by
        rcases List.mem_cons.1 h with h | h
        · exact absurd h.symm e
        · exact h
      have ih := filter_hit (P := P) hx hg ho hn.2 hx'
      rw [List.filter_cons, List.filter_cons, ho y e]
      by_cases hp : (P y && f y) = true
      · simp only [hp, if_true, List.length_cons, ih]; omega
      · simp only [hp]; exact ih
def seenB (left : Lit → Bool) (k : Int) : Bool := !left (.int .i64 k)
theorem seen_step {left : Lit → Bool} {x : Int} (hl : left (.int .i64 x) = true) : seenB left x = false ∧ seenB (fun z => left z && !z.sameKey (.int .i64 x)) x = true ∧ ∀ k, k ≠ x → seenB (fun z => left z && !z.sameKey (.int .i64 x)) k = seenB left k := by
  refine ⟨by simp [seenB, hl], by simp [seenB, Lit.sameKey], fun k hk => by simp [seenB, Lit.sameKey, hk]⟩
theorem seen_all {left : Lit → Bool} (h : ∀ kl, left kl = false) (P : Int → Bool) (l : List Int) : (l.filter fun k => P k && seenB left k) = l.filter P :=
  List.filter_congr (fun k _ => by simp [seenB, h])
def RangeR (w0 wr : World) (r2 r N : Nat) (D : DataW (Option Value)) (n : Nat) (crew : List Int) (P : Int → Bool) : Prop :=
  ∃ left cnt, wr.ranges Try.prog 3 RV r2 r N D left cnt ∧ n = (crew.filter fun k => P k && seenB left k).length ∧ Below w0.heap.size w0 wr
theorem below_grown {B : Nat} {a w w' : World} {r : Nat} (h : Below B a w) (hg : w.grownBy w' (some r)) (hB : B ≤ w.heap.size) (hr : B ≤ r) : Below B a w' := h.grown hg hB (by intro k hk; cases hk; exact hr)
set_option maxRecDepth 100000 in
set_option maxHeartbeats 2000000 in
theorem alike_cnt (p r1 r2 N B : Nat) (c : Cl) (A : An) (da : Option Addr) (dc : Nat) (na : Option Addr) (nc : Nat) (w : World) (h : CliAt w p r1 r2 N c) (hw : c.way ≠ 0) (hB : w.cell? ⟨B, 0, none⟩ = some (.pointer (some ⟨p, 0, none⟩)))
    (hk : ∀ k a, c.ans k = some a → k ∈ c.crew) (hg : goodC 1 c.crew = true) (hD : BL w da A.data) (hN : IL w na A.nodes) :
    Calls Try.prog 113 #[.agg #[.int .i64 A.err, .slice da A.data.length dc, .int .i64 A.ep, .slice na A.nodes.length nc], .pointer (some ⟨B, 0, none⟩)] w
      fun e w' => e = .returned (.int .i64 (cntA c.crew c.ans A)) ∧ Below w.heap.size w w' := by
  obtain ⟨qa, qc, la, lc, cf, cs, said, am, hP, hM⟩ := h
  have hsaid := hM.2.2.2.2 hw
  obtain ⟨_, _, rfl, ⟨F, hV, hF⟩, _⟩ := hsaid
  have c79 := hP.cell (cliL_am hM.1)
  have HP := Lib.hid hP
  have HV := Lib.hid hV
  have HF := Lib.hid hF
  have HK := Lib.hid hk
  have HG := Lib.hid hg
  have HND : Hid c.crew.Nodup := Lib.hid ((good_sorted hg).imp (fun h e => by omega))
  have hlen : c.crew.length ≤ 7 := by have := goodC_len hg; omega
  have HD := Lib.hid hD
  have HN := Lib.hid hN
  have hpl := hP.lt
  have hbl := block_lt_of_cell hB
  have hrl := hV.lt
  have C79 := Lib.hid c79
  have HB := Lib.hid hB
  clear hP hM hV hF hk hg hD hN hw hB c79
  go_enter Try.func113, Try.ntmps113
  go_upto_region 2 with (fail)
  obtain ⟨w1, hw1⟩ : ∃ x, x = w.alloc (.cells #[.int .i64 A.err, .slice da A.data.length dc, .int .i64 A.ep, .slice na A.nodes.length nc] 72) := ⟨_, rfl⟩
  have hb1 : Below w.heap.size w w1 := by rw [hw1]; exact Below.new _ _
  have hA : Blk w1 w.heap.size [.int .i64 A.err, .slice da A.data.length dc, .int .i64 A.ep, .slice na A.nodes.length nc] 72 := by rw [hw1]; exact Blk.new _ _ _
  rw [← hw1]
  clear hw1
  have c79 := keepc hb1 C79.out
  have hB1 := keepc hb1 HB.out
  obtain ⟨D, hown, hmap, hat0⟩ := HV.out.below hb1
  have HM := Lib.hid hmap
  have HAT := Lib.hid hat0
  have HB1 := Lib.hid hb1
  have HA := Lib.hid hA
  have HD1 := Lib.hid (HD.out.below hb1)
  have HN1 := Lib.hid (HN.out.below hb1)
  have hz1 : w.heap.size ≤ w1.heap.size := hb1.size
  clear hb1 hA hmap hat0
  go_wp2_with (first | (at_range; refine wpList_range_own _ rfl _ 111 rfl 3 72 int_key Try.underlying111 RV r2 N D rfl hown ?_; intro w2 hrg0 hg0 hs0))
  try go_frame
  have hz2 : w1.heap.size < w2.heap.size := by omega
  have hbl2 : Below w1.heap.size w1 w2 := ⟨hg0.os, hg0.tape, hg0.output, by omega, fun i hi => hg0.block i hi (by simp)⟩
  have HS2 : Hid (RangeR w1 w2 r2 w1.heap.size N D 0 c.crew (fun k => decide (c.ans k = some A))) := Lib.hid ⟨_, _, hrg0, (by
    rw [eq_comm, List.length_eq_zero_iff, List.filter_eq_nil_iff]
    intro k hkc hh
    simp only [Bool.and_eq_true, decide_eq_true_eq, seenB, Bool.not_eq_true'] at hh
    obtain ⟨h1, h2⟩ := hh
    have hwf : Wf k := by have := good_mem HG.out k hkc; exact Wf.of (by omega) (by omega)
    have := HF.out k hwf
    rw [h1] at this
    obtain ⟨x, hx, _⟩ := this
    obtain ⟨kl, hkl⟩ := keyOf_i hwf
    have e := HAT.out _ kl hkl
    rw [hx] at e
    have hkl' : kl = .int .i64 k := by have := Go.Maps.keyOf_int_mk Try.underlying3 hwf; rw [hkl] at this; cases this; rfl
    subst hkl'
    have := Maps.atKey_of_not_has h2 (DataW.held none)
    rw [this] at e
    cases e), hbl2⟩
  clear hrg0 hg0 hs0
  have HZ2 := Lib.hid hz2
  have HZ1 := Lib.hid hz1
  go_loopw [4] (fun i wr => ∃ n : Nat, i = .int .i64 n ∧ n ≤ 7 ∧ Hid (RangeR w1 wr r2 w1.heap.size N D n c.crew (fun k => decide (c.ans k = some A)))) (fun _ wr => wr.rangeLeft r2 w1.heap.size)
  case atStart => exact ⟨0, rfl, by omega, HS2⟩
  case round =>
    obtain ⟨n, rfl, hn7, HR⟩ := hrel
    obtain ⟨left, cnt, hrg, hn, hbr⟩ := HR.out
    have HNQ := Lib.hid hn
    have HBR := Lib.hid hbr
    have HRG := Lib.hid hrg
    clear hn hbr hrg
    go_wp2_with (first | (at_next; refine wpList_next_ranges _ rfl _ rfl 3 int_key RV (Value.int .i64) (fun v : Value => v) (fun key kl h => by obtain ⟨x, hx, _⟩ := Maps.keyOf_int_inv Try.underlying3 h; exact ⟨x, hx⟩) (fun v y h => ⟨v, rfl⟩) r2 w1.heap.size N D left cnt rfl HRG.out ?_ ?_))
    · intro hc0 hl0
      have hfin : n = cntA c.crew c.ans A := by rw [HNQ.out, seen_all hl0]; rfl
      have HFIN := Lib.hid hfin
      clear hc0 hl0 hfin
      go_wp2
      go_ret
      exact ⟨ret_int (by rw [HFIN.out]), Below.step HB1.out HBR.out⟩
    · intro x v kl y1 y2 w3 cnt3 hkey hlk hv hat hrg3 hlt hg3 hs3 hen
      obtain ⟨x', ex, rfl, hwx⟩ := Maps.keyOf_int_inv Try.underlying3 hkey
      cases ex
      simp only [RV, Option.some.injEq, Prod.mk.injEq] at hv
      obtain ⟨rfl, rfl⟩ := hv
      have hFx : F (.int .i64 x) = some v := by
        have e1 := HAT.out _ _ hkey
        rw [hat] at e1
        injection e1 with e1
        exact e1.symm
      have hAx := HF.out x hwx
      rw [hFx] at hAx
      obtain ⟨A', hA', hIn⟩ : ∃ A', c.ans x = some A' ∧ AnIn w v A' := by
        cases hc : c.ans x with
        | none => rw [hc] at hAx; cases hAx
        | some A' => rw [hc] at hAx; obtain ⟨z, hz, hzi⟩ := hAx; cases hz; exact ⟨A', rfl, hzi⟩
      obtain ⟨da', dc', na', nc', rfl, ⟨hX, _⟩, hY, _⟩ := hIn
      have hbw : Below w.heap.size w w3 := (Below.step HB1.out HBR.out).grown hg3 (Nat.le_trans HZ1.out (HBR.out.size)) (by intro k hk; cases hk; exact HZ1.out)
      have hA3 : Blk w3 w.heap.size [.int .i64 A.err, .slice da A.data.length dc, .int .i64 A.ep, .slice na A.nodes.length nc] 72 := (hg3.block _ (by have := HA.out.lt; have := HBR.out.size; omega) (by have := HA.out.lt; simp; omega)).trans ((HA.out.below HBR.out))
      have a0 := hA3.cell (i := 0) rfl
      have a1 := hA3.cell (i := 1) rfl
      have a2 := hA3.cell (i := 2) rfl
      have a3 := hA3.cell (i := 3) rfl
      have hal := hA3.lt
      have HX3 := Lib.hid (hX.below hbw)
      have HY3 := Lib.hid (hY.below hbw)
      have HD3 := Lib.hid (HD.out.below hbw)
      have HN3 := Lib.hid (HN.out.below hbw)
      have HST := Lib.hid (seen_step hlk)
      have HXC := Lib.hid (HK.out x A' hA')
      have HAA := Lib.hid hA'
      have HRG3 := Lib.hid hrg3
      have HLT := Lib.hid hlt
      have HB3 : Hid (Below w1.heap.size w1 w3) := Lib.hid (HBR.out.grown hg3 (HBR.out.size) (by intro k hk; cases hk; exact Nat.le_refl _))
      clear hkey hlk hat hrg3 hlt hg3 hs3 hFx hAx hA' hX hY hbw hA3
      go_wp2_with fail
      refine Calls.mono (sameA_any A' A da' dc' na' nc' da dc na nc _ (HX3.out.below (Below.new _ _)) (HY3.out.below (Below.new _ _)) (HD3.out.below (Below.new _ _)) (HN3.out.below (Below.new _ _))) ?_
      rintro e w4 ⟨rfl, hb4⟩
      have hb34 := Below.step (Below.new _ _) hb4
      have hkk : w4.ranges Try.prog 3 RV r2 w1.heap.size N D (fun z => left z && !z.sameKey (.int .i64 x)) cnt3 := HRG3.out.kept (grown_of_below hb34 none) (by simp) (by simp)
      have hnn := filter_hit (P := fun k => decide (c.ans k = some A)) HST.out.1 HST.out.2.1 HST.out.2.2 HND.out HXC.out
      rw [← HNQ.out] at hnn
      have hle : (c.crew.filter fun k => (fun k => decide (c.ans k = some A)) k && seenB (fun z => left z && !z.sameKey (.int .i64 x)) k).length ≤ 7 := Nat.le_trans (List.length_filter_le _ _) hlen
      have HKK := Lib.hid hkk
      have HNN := Lib.hid hnn
      have HLE := Lib.hid hle
      have HB4 := Lib.hid (Below.step HB3.out hb34)
      clear hb4 hb34 hkk hnn hle hen a0 a1 a2 a3 hal
      cases hd : decide (A' = A) with
      | true =>
        have hR : RangeR w1 w4 r2 w1.heap.size N D (n + 1) c.crew (fun k => decide (c.ans k = some A)) := ⟨_, _, HKK.out, by rw [HNN.out, HAA.out, of_decide_eq_true hd]; simp, HB4.out⟩
        have hn8 : n + 1 ≤ 7 := by have e := HNN.out; rw [if_pos (by simp only [HAA.out, of_decide_eq_true hd, decide_true])] at e; exact Nat.le_trans (Nat.le_of_eq e.symm) HLE.out
        have HRR := Lib.hid hR
        clear hR hd
        go_wp2
        go_roundw
        case rel => exact ⟨n + 1, by go_num, hn8, HRR⟩
        case measure => rw [HKK.out.left_eq, HRG.out.left_eq]; exact HLT.out
      | false =>
        have hR : RangeR w1 w4 r2 w1.heap.size N D n c.crew (fun k => decide (c.ans k = some A)) := ⟨_, _, HKK.out, by rw [HNN.out, HAA.out]; have : ¬ (some A' = some A) := fun h => of_decide_eq_false hd (by cases h; rfl); simp [this], HB4.out⟩
        have HRR := Lib.hid hR
        clear hR hd
        go_wp2
        go_roundw
        case rel => exact ⟨n, rfl, hn7, HRR⟩
        case measure => rw [HKK.out.left_eq, HRG.out.left_eq]; exact HLT.out
end Go.Proofs.Ytldcpnabgpjgiaa.Walks
namespace Go.Proofs.Ytldcpnabgpjgiaa.Walks
open Go.RowKit Plain
open Go.Maps (Keyed IsMap int_keyed)
open Go.WideElems (Fit rd rg rd_key rd_val rg_of)
set_option linter.unusedVariables false

def litN : Lit → Int
  | .int _ n => n
  | _ => 0
theorem find_some {L : List (Lit × DataW (Option Value))} {k : Lit} (z : DataW (Option Value)) : (∃ q ∈ L, q.1.sameKey k = true ∧ (DataW.map L).atKey k z = q.2) ∨ ((∀ q ∈ L, q.1.sameKey k = false) ∧ (DataW.map L).atKey k z = z) := by
  unfold DataW.atKey
  cases hf : L.find? (fun p => p.1.sameKey k) with
  | none =>
    right
    refine ⟨fun q hq => ?_, by simp [hf]⟩
    have := List.find?_eq_none.1 hf q hq
    simpa using this
  | some q =>
    left
    exact ⟨q, List.mem_of_find?_eq_some hf, by simpa using List.find?_some hf, by simp [hf]⟩
theorem sameKey_int {q : Lit} {k : Int} (h : q.sameKey (.int .i64 k) = true) : q = .int .i64 k := by
  cases q <;> simp [Lit.sameKey] at h
  obtain ⟨rfl, rfl⟩ := h
  rfl
theorem size_len {w w0 : World} {r2 N : Nat} {F : Value → Option Value} {D : DataW (Option Value)} {m : Int → Option An} {crew : List Int} (hown : w.ownsMap Try.prog 3 RV r2 N D)
    (hat : ∀ key kl, keyOf Try.prog 3 key = some kl → D.atKey kl (.held none) = .held (F key)) (hF : ∀ k, Wf k → AnsV w0 (F (.int .i64 k)) (m k)) (hk : ∀ k a, m k = some a → k ∈ crew) (hg : goodC 1 crew = true) : Maps.size D = lenA crew m := by
  obtain ⟨L, rfl, hpw, _⟩ := hown.entries int_key
  obtain ⟨es, clock, _, Ft, _, hL⟩ := hown
  have hL : L = (es.toList.map (rg Try.prog 3 RV)).foldr DataW.insert [] := by injection hL
  have hmem : ∀ p ∈ L, ∃ a v, p.1 = .int .i64 a ∧ Wf a ∧ p.2 = .held (some v) := by
    intro p hp
    rw [hL] at hp
    obtain ⟨x, hx, rfl⟩ := List.mem_map.1 (mem_sorted.1 hp)
    obtain ⟨y, hy⟩ := Ft.reads x hx
    rw [rg_of hy]
    obtain ⟨a, _, ha, hw⟩ := Maps.keyOf_int_inv Try.underlying3 (rd_key hy)
    obtain ⟨z, hz, hz2⟩ := rd_val hy
    simp only [RV, Option.some.injEq] at hz
    subst hz
    exact ⟨a, x.val, ha, hw, hz2⟩
  have hs : ∀ p ∈ L, (m (litN p.1)).isSome = true := by
    intro p hp
    obtain ⟨a, v, ha, hw, _⟩ := hmem p hp
    rw [ha]
    show (m a).isSome = true
    have e := hat (.int .i64 a) _ (Go.Maps.keyOf_int_mk Try.underlying3 hw)
    rcases find_some (L := L) (k := .int .i64 a) (.held none) with ⟨q, hq, _, he⟩ | ⟨hn, _⟩
    · obtain ⟨_, v', _, _, hv'⟩ := hmem q hq
      rw [he, hv'] at e
      injection e with e
      have := hF a hw
      rw [← e] at this
      cases hm : m a with
      | none => rw [hm] at this; cases this
      | some A => rfl
    · have := hn p hp
      rw [ha] at this
      simp [Lit.sameKey] at this
  have hb : ∀ k ∈ crew, (m k).isSome = true → ∃ p ∈ L, litN p.1 = k := by
    intro k hkc hsome
    have hw : Wf k := by have := good_mem hg k hkc; exact Wf.of (by omega) (by omega)
    have e := hat (.int .i64 k) _ (Go.Maps.keyOf_int_mk Try.underlying3 hw)
    obtain ⟨A, hA⟩ := Option.isSome_iff_exists.1 hsome
    have hx := hF k hw
    rw [hA] at hx
    obtain ⟨x, hx, _⟩ := hx
    rw [hx] at e
    rcases find_some (L := L) (k := .int .i64 k) (.held none) with ⟨q, hq, hsk, he⟩ | ⟨_, he⟩
    · exact ⟨q, hq, by rw [sameKey_int hsk]; rfl⟩
    · rw [he] at e; cases e
  have hnd : (L.map fun p => litN p.1).Nodup := by
    refine List.pairwise_map.2 (hpw.imp_of_mem ?_)
    intro p q hp hq hne he
    obtain ⟨a, _, ha, _, _⟩ := hmem p hp
    obtain ⟨b, _, hb', _, _⟩ := hmem q hq
    rw [ha, hb'] at hne he
    exact hne (congrArg _ he)
  have hcn : crew.Nodup := (good_sorted hg).imp (fun h e => by omega)
  have hp : (L.map fun p => litN p.1).Perm (crew.filter fun k => (m k).isSome) := by
    refine (List.perm_ext_iff_of_nodup hnd (hcn.filter _)).2 fun x => ?_
    rw [List.mem_map, List.mem_filter]
    constructor
    · rintro ⟨p, hp, rfl⟩
      have := hs p hp
      obtain ⟨A, hA⟩ := Option.isSome_iff_exists.1 this
      exact ⟨hk _ _ hA, this⟩
    · rintro ⟨h1, h2⟩
      obtain ⟨p, hp, rfl⟩ := hb x h1 h2
      exact ⟨p, hp, rfl⟩
  show L.length = lenA crew m
  have := hp.length_eq
  rw [List.length_map] at this
  exact this
theorem best_same {f g : Int → Nat} : ∀ {l : List Int}, (∀ k ∈ l, g k = f k) → l.foldr (fun k r => max (g k) r) 0 = l.foldr (fun k r => max (f k) r) 0
  | [], _ => rfl
  | y :: l, h => by rw [List.foldr_cons, List.foldr_cons, h y (by simp), best_same (fun k hk => h k (by simp [hk]))]
theorem best_hit {f g : Int → Nat} {x : Int} {v : Nat} (hf : f x = 0) (hg : g x = v) (ho : ∀ k, k ≠ x → g k = f k) : ∀ {l : List Int}, l.Nodup → x ∈ l → l.foldr (fun k r => max (g k) r) 0 = max (l.foldr (fun k r => max (f k) r) 0) v
  | [], _, h => by simp at h
  | y :: l, hn, h => by
    rw [List.nodup_cons] at hn
    rw [List.foldr_cons, List.foldr_cons]
    by_cases e : y = x
    · subst e
      rw [best_same (f := f) (g := g) (fun k hk => ho k (fun e => hn.1 (e ▸ hk))), hf, hg]
      omega
    · have hx' : x ∈ l := by
        rcases List.mem_cons.1 h with h | h
        · exact absurd h.symm e
        · exact h
      rw [best_hit hf hg ho hn.2 hx', ho y e]
      omega
theorem best_le {f : Int → Nat} {n : Nat} (h : ∀ k, f k ≤ n) : ∀ (l : List Int), l.foldr (fun k r => max (f k) r) 0 ≤ n
  | [] => by simp
  | y :: l => by rw [List.foldr_cons]; have := best_le h l; have := h y; omega
def bestS (left : Lit → Bool) (crew : List Int) (f : Int → Option An) : Nat := crew.foldr (fun k r => max (if seenB left k then oneA crew f k else 0) r) 0
theorem bestS_all {left : Lit → Bool} (h : ∀ kl, left kl = false) (crew : List Int) (f : Int → Option An) : bestS left crew f = bestA crew f := best_same (fun k _ => by simp [seenB, h])
theorem bestS_step {left : Lit → Bool} {x : Int} (hl : left (.int .i64 x) = true) {crew : List Int} (f : Int → Option An) (hn : crew.Nodup) (hx : x ∈ crew) : bestS (fun z => left z && !z.sameKey (.int .i64 x)) crew f = max (bestS left crew f) (oneA crew f x) := by
  obtain ⟨h1, h2, h3⟩ := seen_step hl
  exact best_hit (by simp [h1]) (by simp [h2]) (fun k hk => by rw [h3 k hk]) hn hx
theorem oneA_le (crew : List Int) (f : Int → Option An) (k : Int) : oneA crew f k ≤ crew.length := by
  unfold oneA
  split
  · exact List.length_filter_le _ _
  · omega
theorem bestS_le (left : Lit → Bool) (crew : List Int) (f : Int → Option An) : bestS left crew f ≤ crew.length := best_le (fun k => by
  split
  · exact oneA_le _ _ _
  · omega) crew
theorem lenA_le (crew : List Int) (f : Int → Option An) : lenA crew f ≤ crew.length := List.length_filter_le _ _
def BestR (w0 wr : World) (r2 r N : Nat) (D : DataW (Option Value)) (b : Nat) (crew : List Int) (f : Int → Option An) : Prop :=
  ∃ left cnt, wr.ranges Try.prog 3 RV r2 r N D left cnt ∧ b = bestS left crew f ∧ Below w0.heap.size w0 wr
end Go.Proofs.Ytldcpnabgpjgiaa.Walks
