/-
  The document's Sealed.
-/
import Derived.Test.YtldcpnabgpjgiaaHandTM
import Derived.Test.YtldcpnabgpjgiaaHandTH
import Derived.IntWalk
import Derived.Deep.AppendLies
import Derived.Deep.RegionLaw
import Derived.Deep.LoopGhost
namespace Go.Proofs.Ytldcpnabgpjgiaa.WalksT
open Go.Proofs.Ytldcpnabgpjgiaa.Walks
open Go.RowKit Plain
set_option linter.unusedVariables false

theorem build149 (n e s r : Int) (w : World) : (Instr.build 149 #[(0, .int .i64 n), (1, .int .i64 e), (2, .agg (markC s r))]).run Try.prog w = .ok (.agg (endC n e s r)) w := by kernel_rfl
theorem slice149 (n e s r : Int) (w : World) : (Instr.buildSlice 140 1 #[(0, .agg (endC n e s r))]).run Try.prog w = .ok (.slice (some ⟨w.heap.size, 0, none⟩) 1 1) (w.alloc (.cells (endC n e s r) 149)) := by kernel_rfl
def eN (v : Value) : Int := intOf (v.cells.getD 0 undef)
def eE (v : Value) : Int := intOf (v.cells.getD 1 undef)
def eS (v : Value) : Int := intOf (v.cells.getD 2 undef)
def eR (v : Value) : Int := intOf (v.cells.getD 3 undef)
def isEnd (v : Value) : Prop := v = .agg (endC (eN v) (eE v) (eS v) (eR v))
theorem isEnd_mk (n e s r : Int) : isEnd (.agg (endC n e s r)) := rfl
theorem eN_mk (n e s r : Int) : eN (.agg (endC n e s r)) = n := rfl
theorem eE_mk (n e s r : Int) : eE (.agg (endC n e s r)) = e := rfl
theorem eS_mk (n e s r : Int) : eS (.agg (endC n e s r)) = s := rfl
theorem eR_mk (n e s r : Int) : eR (.agg (endC n e s r)) = r := rfl
section
variable {ρ : Operand → Value} {d : Option Tmp} {x y z : Operand} {t : TypeId} {p : String} {af : Array Edge} {gd : Option (Nat × Bool)} {w : World}
theorem exec_build149 (h1 : isI (ρ x)) (h2 : isI (ρ y)) (h3 : isMark (ρ z)) :
    (execOp ρ ⟨d, .build 149 #[(0, x), (1, y), (2, z)], t, p, af, gd⟩).run Try.prog w = .ok (.value (.agg (endC (intOf (ρ x)) (intOf (ρ y)) (seqOf (ρ z)) (Walks.byteOf (ρ z))))) w := by
  simp only [execOp]
  have e1 : ρ x = .int .i64 (intOf (ρ x)) := h1
  have e2 : ρ y = .int .i64 (intOf (ρ y)) := h2
  have e3 : ρ z = .agg (markC (seqOf (ρ z)) (Walks.byteOf (ρ z))) := h3
  have : (Array.map (fun z : Nat × Operand => (z.1, ρ z.2)) #[(0, x), (1, y), (2, z)]) = #[(0, ρ x), (1, ρ y), (2, ρ z)] := by simp
  simp only [this]
  rw [e1, e2, e3]
  simp only [seqOf_mk, Walks.byteOf_mk, build149, Sem.run_bind, Result.andThen_ok, Sem.run_pure]
  rfl
theorem exec_slice149 (h1 : isEnd (ρ x)) :
    (execOp ρ ⟨d, .buildSlice 140 1 #[(0, x)], t, p, af, gd⟩).run Try.prog w = .ok (.value (.slice (some ⟨w.heap.size, 0, none⟩) 1 1)) (w.alloc (.cells (endC (eN (ρ x)) (eE (ρ x)) (eS (ρ x)) (eR (ρ x))) 149)) := by
  simp only [execOp]
  have e1 : ρ x = .agg (endC (eN (ρ x)) (eE (ρ x)) (eS (ρ x)) (eR (ρ x))) := h1
  have : (Array.map (fun z : Nat × Operand => (z.1, ρ z.2)) #[(0, x)]) = #[(0, ρ x)] := by simp
  simp only [this]
  rw [e1]
  simp only [eN_mk, eE_mk, eS_mk, eR_mk, slice149, Sem.run_bind, Result.andThen_ok, Sem.run_pure]
end
set_option maxRecDepth 100000 in
theorem info149 : (Try.prog.info? 149).map (fun i => (i.zero, i.size, i.bytes)) = some (some (.agg (endC 0 0 0 0)), 35, 56) := by kernel_rfl
/-- append(ends, one), in a region that draws its order. -/
theorem step_append_end {ops : Array Oper} {o : Oper} {a : Act} {w : World} {K : Act → World → Prop} {Q : Exit → Act → World → Prop} {X : Prop} (hgd : o.guard = none) (s x : Operand)
    (ho : o.op = .call { callee := .builtin .append, args := #[s, x], argTypes := #[140, 140] }) (base : Nat) (v : Value) (k : Nat) (xs : List Value) (hs : a.eval s = v) (hown : w.ownsRow base 149 35 v k xs)
    (gb : Nat) (n e sq r : Int) (hx : a.eval x = .slice (some ⟨gb, 0, none⟩) 1 1) (hb : w.heap[gb]? = some (.cells (endC n e sq r) 149 (0, 0)))
    (hk : k ≤ 1000) (hbase : base ≤ w.heap.size)
    (h : ∀ g cap' w', w'.ownsRow base 149 35 (.slice (some ⟨g, 0, none⟩) (k + 1) cap') (k + 1) (xs ++ (endC n e sq r).toList) → w.grownBy w' v.ownBlock → (v.ownBlock = some g ∨ g = w.heap.size) → g < w'.heap.size → K (a.put o.dst (.slice (some ⟨g, 0, none⟩) (k + 1) cap')) w') :
    if Region.wanted o (yielded ops a.tmps) = true then Oper.wp Try.prog o a w K Q else X := by
  obtain ⟨i0, hi, hz0, hz1, hz2⟩ : ∃ i, Try.prog.info? 149 = some i ∧ i.zero = some (.agg (endC 0 0 0 0)) ∧ i.size = 35 ∧ i.bytes = 56 := by
    have := info149
    cases hi : Try.prog.info? 149 with
    | none => rw [hi] at this; cases this
    | some i =>
      rw [hi] at this
      simp only [Option.map_some, Option.some.injEq, Prod.mk.injEq] at this
      exact ⟨i, rfl, this.1, this.2.1, this.2.2⟩
  exact step_append_lies w hgd s x 140 ho base 149 i0 _ 35 56 Try.underlying140 hi hz0 hz1 hz2 rfl (by decide) v k xs hs hown ⟨gb, 0, none⟩ 1 1 (endC n e sq r).toList hx (by rw [Array.length_toList, endC_size]) (World.news_of_block hb)
    (endC_one n e sq r) (by decide) (by unfold maxLen; omega) (by omega) hbase w.heap.size rfl h

attribute [local go_sem] isLoad38_mk isLoad47_mk loadOp_mk headOf_mk blockOf_mk isMark_mk isRoot_mk isI_mk seqOf_mk byteOf_mk byteO_mk intOf_mk drew_setRow alloc_setRow row47_new row47_drew rowOf_drew rowOf_new row38_drew row38_alloc rowOf_alloc isEnd_mk eN_mk eE_mk eS_mk eR_mk
attribute [local go_sem ↓] exec_load38g exec_load38 exec_build47 exec_build149 exec_slice149

theorem sealE_has {f : Int} {l : List Int} {E : List (Int × Int × Int × Int)} {n e s r : Int} (h : hasC f l n = false) : sealE f l E n e s = 110 ∧ sealO f l E n e s r = E := by simp [sealE, sealO, maySeal, h]
theorem sealE_ep {f : Int} {l : List Int} {E : List (Int × Int × Int × Int)} {n e s r : Int} (h : hasC f l n = true) (h1 : ¬ (0 ≤ e ∧ e ≤ 1048576)) : sealE f l E n e s = 171 ∧ sealO f l E n e s r = E := by
  refine ⟨by simp [sealE, h, h1], ?_⟩
  have : (decide (0 ≤ e) && decide (e ≤ 1048576)) = false := by rw [← Bool.decide_and, decide_eq_false_iff_not]; exact h1
  simp [sealO, maySeal, this]
theorem sealE_seq {f : Int} {l : List Int} {E : List (Int × Int × Int × Int)} {n e s r : Int} (h : hasC f l n = true) (h1 : 0 ≤ e) (h2 : e ≤ 1048576) (h3 : ¬ (1 ≤ s ∧ s ≤ 9007199254740991)) : sealE f l E n e s = 2 ∧ sealO f l E n e s r = E := by
  refine ⟨by simp [sealE, h, h1, h2, h3], ?_⟩
  have : (decide (1 ≤ s) && decide (s ≤ 9007199254740991)) = false := by rw [← Bool.decide_and, decide_eq_false_iff_not]; exact h3
  simp [sealO, maySeal, this]
theorem sealE_old {f : Int} {l : List Int} {E : List (Int × Int × Int × Int)} {n e s r : Int} (h : hasC f l n = true) (h1 : 0 ≤ e) (h2 : e ≤ 1048576) (h3 : 1 ≤ s) (h4 : s ≤ 9007199254740991) (h5 : (endOf E n e).isSome = true) : sealE f l E n e s = 0 ∧ sealO f l E n e s r = E := by simp [sealE, sealO, maySeal, h, h1, h2, h3, h4, h5]
theorem sealE_full {f : Int} {l : List Int} {E : List (Int × Int × Int × Int)} {n e s r : Int} (h : hasC f l n = true) (h1 : 0 ≤ e) (h2 : e ≤ 1048576) (h3 : 1 ≤ s) (h4 : s ≤ 9007199254740991) (h5 : endOf E n e = none) (h6 : endN E n = 64) : sealE f l E n e s = 7 ∧ sealO f l E n e s r = E := by simp [sealE, sealO, maySeal, h, h1, h2, h3, h4, h5, h6]
theorem sealE_put {f : Int} {l : List Int} {E : List (Int × Int × Int × Int)} {n e s r : Int} (h : hasC f l n = true) (h1 : 0 ≤ e) (h2 : e ≤ 1048576) (h3 : 1 ≤ s) (h4 : s ≤ 9007199254740991) (h5 : endOf E n e = none) (h6 : endN E n ≠ 64) : sealE f l E n e s = 0 ∧ sealO f l E n e s r = E ++ [(n, e, s, r)] := by simp [sealE, sealO, maySeal, h, h1, h2, h3, h4, h5, h6]

set_option maxRecDepth 100000 in
set_option maxHeartbeats 4000000 in
theorem refSealed_any (p base : Nat) (B : Nat → Prop) (f : Int) (l : List Int) (O : List (Int × Int × List Int)) (E : List (Int × Int × Int × Int)) (n of : Int) (oa : Option Addr) (ocap : Nat) (ol : List Int) (e s r : Int) (w : World)
    (hR : RefX w p base B f l O E) (hI : Ints w oa ol) (hB : ∀ b, w.heap.size ≤ b → ¬ B b) (hE : E.length ≤ 1000) (hbase : base ≤ w.heap.size) :
    Calls Try.prog 38 #[.pointer (some ⟨p, 0, none⟩), .int .i64 n, .agg #[.int .i64 of, .slice oa ol.length ocap], .int .i64 e, .int .i64 s, .agg (rootC r)] w
      fun e' w' => e' = .returned (.int .i64 (sealE of ol E n e s)) ∧ RefX w' p base B f l O (sealO of ol E n e s r) ∧ Below base w w' ∧ RefGo p w w' := by
  have HP := Lib.hid hR.lt
  have HR := Lib.hid hR
  have HI := Lib.hid hI
  have HBB := Lib.hid hB
  clear hR hI hB
  go_enter Try.func38, Try.ntmps38
  go_wp2_with fail
  have HB2 := Lib.hid ((Below.new w (.cells #[.int .i64 of, .slice oa ol.length ocap] 24)).alloc (by simp) (.cells (rootC r) 38))
  obtain ⟨w2, hw2⟩ : ∃ w2, w2 = (w.alloc (.cells #[.int .i64 of, .slice oa ol.length ocap] 24)).alloc (.cells (rootC r) 38) := ⟨_, rfl⟩
  have hz2 : w2.heap.size = w.heap.size + 2 := by rw [hw2]; simp
  have b0 : w2.cell? ⟨w.heap.size, 0, none⟩ = some (.int .i64 of) := by rw [hw2]; exact keepc (Below.new _ _) crew_box2.1
  have b1 : w2.cell? ⟨w.heap.size, 1, none⟩ = some (.slice oa ol.length ocap) := by rw [hw2]; exact keepc (Below.new _ _) crew_box2.2
  have hr0 : w2.heap[w.heap.size + 1]? = some (.cells (rootC r) 38 (0, 0)) := by
    rw [hw2]
    have := heap_alloc_new (w.alloc (.cells #[.int .i64 of, .slice oa ol.length ocap] 24)) (.cells (rootC r) 38)
    simpa using this
  rw [← hw2]
  have hb2 : Below w.heap.size w w2 := by rw [hw2]; exact HB2.out
  clear hw2 HB2
  have HI2 := Lib.hid (HI.out.below hb2)
  obtain ⟨q, hq⟩ : ∃ q, q = hasC of ol n := ⟨_, rfl⟩
  have HQ := Lib.hid hq
  clear hq
  refine Calls.mono (refHas_any of oa ocap ol n _ HI2.out) ?_
  rintro e1 w3 ⟨rfl, hb3⟩
  rw [← HQ.out]
  have HB3 := Lib.hid (Below.step hb2 hb3)
  have hr0 := (hb3.block _ (by omega)).trans hr0
  have hz3 : w.heap.size + 1 < w3.heap.size := by have := hb3.size; omega
  have HR3 := Lib.hid (HR.out.below HB3.out)
  clear hb2 hb3 b0 b1 hz2 HI2
  cases q with
  | false =>
    go_wp2
    go_ret
    obtain ⟨x1, x2⟩ := sealE_has (E := E) (e := e) (s := s) (r := r) HQ.out.symm
    exact ⟨ret_int x1.symm, by rw [x2]; exact HR3.out, HB3.out.mono hbase, RefGo.of_below HP.out HB3.out⟩
  | true =>
    by_cases he1 : 0 ≤ e
    case neg =>
      have he1' : e < 0 := by omega
      go_wp2
      go_ret
      obtain ⟨x1, x2⟩ := sealE_ep (E := E) (e := e) (s := s) (r := r) HQ.out.symm (by omega)
      exact ⟨ret_int x1.symm, by rw [x2]; exact HR3.out, HB3.out.mono hbase, RefGo.of_below HP.out HB3.out⟩
    have he1' : ¬ e < 0 := by omega
    by_cases he2 : e ≤ 1048576
    case neg =>
      have he2' : 1048576 < e := by omega
      go_wp2
      go_ret
      obtain ⟨x1, x2⟩ := sealE_ep (E := E) (e := e) (s := s) (r := r) HQ.out.symm (by omega)
      exact ⟨ret_int x1.symm, by rw [x2]; exact HR3.out, HB3.out.mono hbase, RefGo.of_below HP.out HB3.out⟩
    have he2' : ¬ 1048576 < e := by omega
    by_cases hs1 : 1 ≤ s
    case neg =>
      have hs1' : s < 1 := by omega
      go_wp2
      go_ret
      obtain ⟨x1, x2⟩ := sealE_seq (E := E) (e := e) (s := s) (r := r) HQ.out.symm he1 he2 (by omega)
      exact ⟨ret_int x1.symm, by rw [x2]; exact HR3.out, HB3.out.mono hbase, RefGo.of_below HP.out HB3.out⟩
    have hs1' : ¬ s < 1 := by omega
    by_cases hs2 : s ≤ 9007199254740991
    case neg =>
      have hs2' : 9007199254740991 < s := by omega
      go_wp2
      go_ret
      obtain ⟨x1, x2⟩ := sealE_seq (E := E) (e := e) (s := s) (r := r) HQ.out.symm he1 he2 (by omega)
      exact ⟨ret_int x1.symm, by rw [x2]; exact HR3.out, HB3.out.mono hbase, RefGo.of_below HP.out HB3.out⟩
    have hs2' : ¬ 9007199254740991 < s := by omega
    obtain ⟨a2, cap2, hc2⟩ := HR3.out.len3
    go_wp2_with fail
    go_loop [13, 14] (fun mv iv => ∃ k : Nat, k ≤ E.length ∧ iv = .int .i64 k ∧ mv = .int .i64 (endN (E.take k) n : Nat) ∧ Hid (endOf (E.take k) n e = none)) (fun _ iv => E.length - (intOf iv).toNat)
    case atStart => exact ⟨0, by omega, rfl, rfl, Lib.hid rfl⟩
    case round =>
      obtain ⟨k, hk, rfl, rfl, HN⟩ := hrel
      have hle1 : endN (E.take k) n ≤ k := by unfold endN; exact Nat.le_trans (List.length_filter_le _ _) (by simp; omega)
      by_cases hlt : k < E.length
      · clear hc2
        obtain ⟨g, gcap, hv, hle, hmx, hat⟩ := HR3.out.endAt (by omega)
        obtain ⟨y0, y1, _⟩ := hat k hlt
        obtain ⟨x, hx⟩ : ∃ x, x = E[k].1 := ⟨_, rfl⟩
        obtain ⟨y, hy⟩ : ∃ y, y = E[k].2.1 := ⟨_, rfl⟩
        rw [← hx] at y0
        rw [← hy] at y1
        have s1 := endN_take_succ hlt n
        rw [← hx] at s1
        obtain ⟨M, hM⟩ : ∃ M, M = endN (E.take k) n := ⟨_, rfl⟩
        rw [← hM] at s1 hle1 ⊢
        have HX := Lib.hid hx
        have HY := Lib.hid hy
        have S1 := Lib.hid s1
        clear hat hx hy hM s1
        by_cases hxn : x = n
        · by_cases hye : y = e
          · go_wp2
            go_ret
            obtain ⟨x1, x2⟩ := sealE_old (r := r) HQ.out.symm he1 he2 hs1 hs2 (endOf_isSome hlt ⟨HX.out ▸ hxn, HY.out ▸ hye⟩)
            exact ⟨ret_int x1.symm, by rw [x2]; exact HR3.out, HB3.out.mono hbase, RefGo.of_below HP.out HB3.out⟩
          · go_wp2
            go_round
            case rel => exact ⟨k + 1, by omega, by go_num, by rw [S1.out, if_pos hxn]; rfl, Lib.hid (endOf_take_none hlt HN.out (fun hh => hye (HY.out.trans hh.2)))⟩
            case measure => simp [intOf]; omega
        · go_wp2
          go_round
          case rel => exact ⟨k + 1, by omega, by go_num, by rw [S1.out, if_neg hxn]; rfl, Lib.hid (endOf_take_none hlt HN.out (fun hh => hxn (HX.out.trans hh.1)))⟩
          case measure => simp [intOf]; omega
      · have hk2 : k = E.length := by omega
        subst hk2
        have HN2 : Hid (endOf E n e = none) := Lib.hid (by have := HN.out; rwa [List.take_length] at this)
        rw [List.take_length] at hle1 ⊢
        obtain ⟨M, hM⟩ : ∃ M, M = endN E n := ⟨_, rfl⟩
        rw [← hM] at hle1 ⊢
        have HM := Lib.hid hM
        clear hM HN
        by_cases hm : M = 64
        · have hmi : (M : Int) = 64 := by omega
          go_wp2
          go_ret
          obtain ⟨x1, x2⟩ := sealE_full (r := r) HQ.out.symm he1 he2 hs1 hs2 HN2.out (HM.out.symm.trans hm)
          exact ⟨ret_int x1.symm, by rw [x2]; exact HR3.out, HB3.out.mono hbase, RefGo.of_below HP.out HB3.out⟩
        · have hmi : ¬ (M : Int) = 64 := by omega
          obtain ⟨v2, xs2, hv, o2, o3, o4⟩ := HR3.out.c3
          have hfz := HR3.out.z3
          have hpl : p < w3.heap.size := block_lt_of_cell hv
          have H4 := Lib.hid o4
          have HO3 := Lib.hid o3
          obtain rfl : v2 = .slice a2 E.length cap2 := by rw [hc2] at hv; exact (Option.some.inj hv).symm
          obtain ⟨hrw, hrr⟩ := (show RootAt w3 (w.heap.size + 1) r from hr0).row
          clear hc2 o3 o4
          go_wp2_with fail
          go_region_law
            ((first
              | (refine step_append_end rfl _ _ rfl base (.slice a2 E.length cap2) E.length xs2 (by rfl) (ownsRow_below o2 (by first | exact Below.new _ _ | exact (Below.new _ _).drew | exact (Below.refl _ _).drew.alloc (Nat.le_refl _) _)) w3.heap.size n e s r (by rfl) (heap_alloc_new w3 _) hE (by simp; omega) ?_; intro g5 c5 w5 hown hgr hat hg5; have hv5 : w5.cell? ⟨p, 3, none⟩ = some (.slice a2 E.length cap2) := (hgr.cell_far ⟨p, 3, none⟩ (by simp; omega) (fun hh => (HO3.out _ hh.symm).1 rfl)).trans (by first | exact keepc (Below.new _ _) hv | exact keepc ((Below.new _ _).drew) hv); have hfz5 : w5.frozen? ⟨p, 3, none⟩ = false := (hgr.frozen_far ⟨p, 3, none⟩ (by simp; omega) (fun hh => (HO3.out _ hh.symm).1 rfl)).trans (by first | exact keepf (Below.new _ _) hpl hfz | exact keepf ((Below.new _ _).drew) hpl hfz))))
          all_goals
            go_wp2
            go_ret
            obtain ⟨x1, x2⟩ := sealE_put (r := r) HQ.out.symm he1 he2 hs1 hs2 HN2.out (by rw [← HM.out]; exact hm)
            obtain ⟨r1, r2, r3⟩ := RefX.appended3 HR3.out (by first | exact Below.new _ _ | exact (Below.new _ _).drew) (fun b hb => HBB.out b (Nat.le_trans HB3.out.size hb)) hv o2 HO3.out H4.out hown hgr hat rfl
            exact ⟨ret_int x1.symm, by rw [x2]; exact r1, (HB3.out.mono hbase).trans r2, (RefGo.of_below HP.out HB3.out).trans r3⟩
end Go.Proofs.Ytldcpnabgpjgiaa.WalksT
