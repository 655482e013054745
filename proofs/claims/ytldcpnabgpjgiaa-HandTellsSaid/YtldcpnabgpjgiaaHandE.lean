/-
  The walk of Hand.Sealed.
-/
import Derived.Test.YtldcpnabgpjgiaaHandD
namespace Go.Proofs.Ytldcpnabgpjgiaa.Walks
open Go.RowKit Plain
set_option linter.unusedVariables false

theorem HandX.look2t {w : World} {q : HLoc} {N : Nat} {f : Int} {l : List Int} {O1 O3 O5 : List (Int × Int × List Int)} {E2 E4 : List (Int × Int × Int × Int)} (h : HandX w q N f l O1 O3 O5 E2 E4) {n e : Int} (hn : Wf n) (he : Wf e) :
    (Instr.lookup 62 (.map (some q.r2)) (.agg #[.int .i64 n, .int .i64 e]) true).run Try.prog w = .ok (.tuple #[markV ((endOf E2 n e).getD (0, 0)), .bool (endOf E2 n e).isSome]) w := by
  rw [h.look2 hn he true]
  cases endOf E2 n e <;> rfl

attribute [local go_sem] headOf_mk blockOf_mk isMark_mk isRoot_mk isI_mk seqOf_mk byteOf_mk byteO_mk intOf_mk drew_setRow alloc_setRow row47_new row47_drew rowOf_drew rowOf_new row38_drew
attribute [local go_sem ↓] exec_load38 exec_load47 exec_alloc47 exec_store47 exec_build47 exec_build47z
theorem seal_stay {w : World} {q : HLoc} {N : Nat} {f of : Int} {l ol : List Int} {O : List (Int × Int × List Int)} {E : List (Int × Int × Int × Int)} {n e s r : Int} (h : HandX w q N f l O O O E E) (hm : maySeal of ol E n e s = false) : HandAt w q (N + 3) f l O (sealO of ol E n e s r) := by
  rw [show sealO of ol E n e s r = E by simp [sealO, hm]]
  exact h.mono (by omega) fun _ => rfl

set_option maxRecDepth 100000 in
set_option maxHeartbeats 4000000 in
theorem sealed_any (q : HLoc) (N : Nat) (f : Int) (l : List Int) (O : List (Int × Int × List Int)) (E : List (Int × Int × Int × Int)) (n : Int) (of : Int) (oa : Option Addr) (ocap : Nat) (ol : List Int) (e s r : Int) (w : World)
    (hH : HandAt w q N f l O E) (hN : N + 3 < maxLen) (hn : Wf n) (he : Wf e) (hI : Ints w oa ol) (hr : ol.length ≤ 140737488351232) (hb0 : 0 ≤ r) (hb1 : r ≤ 255) :
    Calls Try.prog 37 #[.pointer (some ⟨q.p, 0, none⟩), .int .i64 n, .agg #[.int .i64 of, .slice oa ol.length ocap], .int .i64 e, .int .i64 s, rootV r] w
      fun e' w' => e' = .returned (.int .i64 (sealE of ol E n e s)) ∧ HandAt w' q (N + 3) f l O (sealO of ol E n e s r) ∧ Only q.R w w' := by
  have HN := Lib.hid hN
  have HI := Lib.hid hI
  have hmm := hI.1
  have HH := Lib.hid hH
  clear hH hI hN
  unfold rootV
  go_enter Try.func37, Try.ntmps37
  go_wp2_with fail
  have HB2 := Lib.hid ((Below.new w (.cells #[.int .i64 of, .slice oa ol.length ocap] 24)).alloc (by simp) (.cells (rootC r) 38))
  obtain ⟨w2, hw2⟩ : ∃ w2, w2 = (w.alloc (.cells #[.int .i64 of, .slice oa ol.length ocap] 24)).alloc (.cells (rootC r) 38) := ⟨_, rfl⟩
  have hz2 : w2.heap.size = w.heap.size + 2 := by rw [hw2]; simp
  have b0 : w2.cell? ⟨w.heap.size, 0, none⟩ = some (.int .i64 of) := by rw [hw2]; exact keepc (Below.new _ _) crew_box2.1
  have b1 : w2.cell? ⟨w.heap.size, 1, none⟩ = some (.slice oa ol.length ocap) := by rw [hw2]; exact keepc (Below.new _ _) crew_box2.2
  have hr0 : w2.heap[w.heap.size + 1]? = some (.cells (rootC r) 38 (0, 0)) := by
    rw [hw2]
    have := heap_alloc_new (w.alloc (.cells #[.int .i64 of, .slice oa ol.length ocap] 24)) (.cells (rootC r) 38)
    simpa using this
  rw [← hw2]
  have hb2 : Below w.heap.size w w2 := by rw [hw2]; exact HB2.out
  clear hw2 HB2
  have H2 := Lib.hid (HH.out.below hb2)
  have c3 := H2.out.c3
  have c2 := H2.out.c2
  refine Calls.mono (none_any q.p (some q.r1) _ c2) ?_
  rintro e0 w' ⟨rfl, rfl⟩
  go_wp2_with fail
  have hbk := Below.new w2 (.cells #[.int .i64 n, .int .i64 e] 144)
  have b0 := keepc hbk b0
  have b1 := keepc hbk b1
  have k0 := (key_box (w := w2) (x := .int .i64 n) (y := .int .i64 e)).1
  have k1 := (key_box (w := w2) (x := .int .i64 n) (y := .int .i64 e)).2
  rw [hz2] at k0 k1
  have hr0 := (hbk.block _ (by omega)).trans hr0
  have HB3 := Lib.hid (Below.step hb2 hbk)
  have hz3 : (w2.alloc (.cells #[.int .i64 n, .int .i64 e] 144)).heap.size = w.heap.size + 3 := by simp [hz2]
  generalize (w2.alloc (.cells #[.int .i64 n, .int .i64 e] 144)) = w3 at *
  clear hbk hb2 c2 c3 hz2
  have H3 := Lib.hid (HH.out.below HB3.out)
  have c3 := H3.out.c3
  obtain ⟨X, hX⟩ : ∃ X, X = (endOf E n e).getD (0, 0) := ⟨_, rfl⟩
  obtain ⟨T, hT⟩ : ∃ T, T = (endOf E n e).isSome := ⟨_, rfl⟩
  have hl1 := H3.out.drew.look2t hn he
  have hl2 := ((H3.out.below (Below.new w3 (.cells (markC 0 0) 47))).drew).look2t hn he
  rw [← hX, ← hT] at hl1 hl2
  simp only [markV] at hl1 hl2
  have HT := Lib.hid hT
  have hp3 : q.p < w3.heap.size := block_lt_of_cell c3
  have hz4 : w.heap.size + 2 < w3.heap.size := by omega
  clear hz3
  clear hX hT
  go_region
  have hb4 : Below w3.heap.size w3 (w3.alloc (.cells (markC X.1 X.2) 47)).drew := (Below.new w3 _).drew
  have b0 := keepc hb4 b0
  have b1 := keepc hb4 b1
  have k0 := keepc hb4 k0
  have k1 := keepc hb4 k1
  have hr0 := (hb4.block _ (by omega)).trans hr0
  have HB4 := Lib.hid (Below.step HB3.out hb4)
  have hz5 : w.heap.size + 2 < (w3.alloc (.cells (markC X.1 X.2) 47)).drew.heap.size := by have := hb4.size; omega
  generalize (w3.alloc (.cells (markC X.1 X.2) 47)).drew = w4 at *
  clear hb4 hl1 hl2 hp3 hz4 c3
  have HI4 := Lib.hid (HI.out.below HB4.out)
  go_wp2_with fail
  refine Calls.mono (has_any of oa ocap ol n _ HI4.out hr) ?_
  rintro e1 w5 ⟨rfl, hb5⟩
  have b0 := keepc hb5 b0
  have b1 := keepc hb5 b1
  have k0 := keepc hb5 k0
  have k1 := keepc hb5 k1
  have hr0 := (hb5.block _ (by omega)).trans hr0
  have HB5 := Lib.hid (Below.step HB4.out hb5)
  have H5 := Lib.hid (HH.out.below HB5.out)
  have HO5 := Lib.hid (Only.of_below (R := q.R) HB5.out)
  have hz5 : w.heap.size + 2 < w5.heap.size := by have := hb5.size; omega
  clear hb5
  cases hq : hasC of ol n with
  | false =>
    have HQ := Lib.hid hq
    clear hq
    go_wp2
    go_ret
    exact ⟨ret_int (by simp [sealE, HQ.out]), seal_stay H5.out (by simp [maySeal, HQ.out]), HO5.out⟩
  | true =>
    have HQ := Lib.hid hq
    clear hq
    by_cases he1 : 0 ≤ e
    case neg =>
      go_wp2
      go_ret
      exact ⟨ret_int (by simp [sealE, HQ.out, show ¬ 0 ≤ e by omega]), seal_stay H5.out (by simp [maySeal, show ¬ 0 ≤ e by omega]), HO5.out⟩
    by_cases he2 : e ≤ 1048576
    case neg =>
      go_wp2
      go_ret
      exact ⟨ret_int (by simp [sealE, HQ.out, show ¬ e ≤ 1048576 by omega]), seal_stay H5.out (by simp [maySeal, show ¬ e ≤ 1048576 by omega]), HO5.out⟩
    by_cases hs1 : 1 ≤ s
    case neg =>
      go_wp2
      go_ret
      exact ⟨ret_int (by simp [sealE, HQ.out, he1, he2, show ¬ 1 ≤ s by omega]), seal_stay H5.out (by simp [maySeal, show ¬ 1 ≤ s by omega]), HO5.out⟩
    by_cases hs2 : s ≤ 9007199254740991
    case neg =>
      go_wp2
      go_ret
      exact ⟨ret_int (by simp [sealE, HQ.out, he1, he2, show ¬ s ≤ 9007199254740991 by omega]), seal_stay H5.out (by simp [maySeal, show ¬ s ≤ 9007199254740991 by omega]), HO5.out⟩
    cases T with
    | true =>
      go_wp2
      go_ret
      exact ⟨ret_int (by simp [sealE, HQ.out, he1, he2, hs1, hs2, ← HT.out]), seal_stay H5.out (by simp [maySeal, ← HT.out]), HO5.out⟩
    | false =>
      have hno : endOf E n e = none := by
        have := HT.out
        cases hc : endOf E n e with
        | none => rfl
        | some r => rw [hc] at this; cases this
      have HNO := Lib.hid hno
      clear hno
      have c5 := H5.out.c5
      have hlk := H5.out.look4 hn
      by_cases hfull : endN E n = 64
      · have hf' : (((endN E n : Nat) : Int) == 64) = true := by simp [hfull]
        have HF := Lib.hid hfull
        clear hfull
        go_wp2
        go_ret
        exact ⟨ret_int (by simp [sealE, HQ.out, he1, he2, hs1, hs2, HNO.out, HF.out]), seal_stay H5.out (by simp [maySeal, HF.out]), HO5.out⟩
      · have hf' : (((endN E n : Nat) : Int) == 64) = false := by simp; omega
        have HF := Lib.hid hfull
        clear hfull
        have c3 := H5.out.c3
        have hr38 : Row38 w5 (w.heap.size + 1) := row38_of hr0 rfl
        have hrow : rowOf w5 (w.heap.size + 1) = rootC r := rowOf_of hr0
        obtain ⟨w6, hs6, H6, hg6⟩ := H5.out.drew.store2 (s := s) (r := r) (by have := HN.out; omega) hn he HNO.out ⟨⟨by omega, hs2⟩, hb0, hb1⟩
        simp only [markV] at hs6
        go_wp2_with fail
        go_region
        have c5 := H6.c5
        have hlk := H6.look4 hn
        have hle := H6.inv4 n
        obtain ⟨w7, hs7, H7, hg7⟩ := H6.store4 (E4' := E ++ [(n, e, s, r)]) (by have := HN.out; omega) hn (fun n' => endN_snoc E (n, e, s, r) n') HF.out
        have HO7 : Hid (Only q.R w w7) := Lib.hid (((HO5.out.trans (Only.of_below (Below.refl _ _).drew)).trans (Only.of_grown hg6 (by simp [HLoc.R]))).trans (Only.of_grown hg7 (by simp [HLoc.R])))
        have H7h := Lib.hid H7
        clear H7 hg6 hg7 hs6
        go_wp2
        go_ret
        refine ⟨ret_int (by simp [sealE, HQ.out, he1, he2, hs1, hs2, HNO.out, HF.out]), ?_, HO7.out⟩
        rw [show sealO of ol E n e s r = E ++ [(n, e, s, r)] by simp [sealO, maySeal, HQ.out, he1, he2, hs1, hs2, HNO.out, HF.out]]
        exact H7h.out.mono (by omega) fun _ => rfl
end Go.Proofs.Ytldcpnabgpjgiaa.Walks
