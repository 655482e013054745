/-
  The hand's methods at known answers; told; works.
-/
import Derived.Test.YtldcpnabgpjgiaaHandG
import Derived.Deep.DeepCutAuto
namespace Go.Proofs.Ytldcpnabgpjgiaa.Walks
open Go.RowKit Plain
set_option linter.unusedVariables false

theorem order_is {q : HLoc} {N : Nat} {f : Int} {l : List Int} {O O' : List (Int × Int × List Int)} {E : List (Int × Int × Int × Int)} {n e res : Int} {m : List Int} (k : Nat) (hk : m.length = k) (a : Option Addr) (cap : Nat) {w : World}
    (hH : HandAt w q N f l O E) (h : orderE f l O n e m = res ∧ orderO f l O n e m = O') (hN : N + 3 < maxLen) (hn : Wf n) (he : Wf e) (hI : Ints w a m) (hc : a = none → cap = 0) (hr : k ≤ 17592186044415) :
    Calls Try.prog 34 #[.pointer (some ⟨q.p, 0, none⟩), .int .i64 n, .int .i64 e, .slice a k cap] w fun e' w' => e' = .returned (.int .i64 res) ∧ HandAt w' q (N + 3) f l O' E ∧ Only q.R w w' := by
  obtain ⟨rfl, rfl⟩ := h
  subst hk
  exact order_any q N f l O E n e a cap m w hH hN hn he hI hc hr
theorem seal_is {q : HLoc} {N : Nat} {f : Int} {l : List Int} {O : List (Int × Int × List Int)} {E E' : List (Int × Int × Int × Int)} {n of e s r res : Int} {ol : List Int} (k : Nat) (hk : ol.length = k) (oa : Option Addr) (ocap : Nat) {w : World}
    (hH : HandAt w q N f l O E) (h : sealE of ol E n e s = res ∧ sealO of ol E n e s r = E') (hN : N + 3 < maxLen) (hn : Wf n) (he : Wf e) (hI : Ints w oa ol) (hr : k ≤ 140737488351232) (hb0 : 0 ≤ r) (hb1 : r ≤ 255) :
    Calls Try.prog 37 #[.pointer (some ⟨q.p, 0, none⟩), .int .i64 n, .agg #[.int .i64 of, .slice oa k ocap], .int .i64 e, .int .i64 s, .agg (rootC r)] w
      fun e' w' => e' = .returned (.int .i64 res) ∧ HandAt w' q (N + 3) f l O E' ∧ Only q.R w w' := by
  obtain ⟨rfl, rfl⟩ := h
  subst hk
  exact sealed_any q N f l O E n of oa ocap ol e s r w hH hN hn he hI hr hb0 hb1
theorem end_is {q : HLoc} {N : Nat} {f : Int} {l : List Int} {O : List (Int × Int × List Int)} {E : List (Int × Int × Int × Int)} {of e : Int} {ol : List Int} {M : Option (Int × Int)} (k : Nat) (hk : ol.length = k) (oa : Option Addr) (ocap : Nat) {w : World}
    (hH : HandAt w q N f l O E) (h : endIs E of ol e = M) (he : Wf e) (hI : Ints w oa ol) :
    Calls Try.prog 41 #[.pointer (some ⟨q.p, 0, none⟩), .agg #[.int .i64 of, .slice oa k ocap], .int .i64 e] w fun e' w' => e' = .returned (.tuple #[.agg (markC (M.getD (0, 0)).1 (M.getD (0, 0)).2), .bool M.isSome]) ∧ Below w.heap.size w w' := by
  subst h
  subst hk
  exact end_any q N f l O E of oa ocap ol e w hH he hI
theorem crewIs_is {q : HLoc} {N : Nat} {f : Int} {l : List Int} {O : List (Int × Int × List Int)} {E : List (Int × Int × Int × Int)} {e : Int} {M : Option (List Int)} {w : World} (hH : HandAt w q N f l O E) (h : crewOf f O e = M) (he : Wf e) :
    Calls Try.prog 39 #[.pointer (some ⟨q.p, 0, none⟩), .int .i64 e] w fun e' w' => ∃ a' cap', e' = .returned (.tuple #[.agg #[.int .i64 (if M.isSome then f else 0), .slice a' (M.getD []).length cap'], .bool M.isSome]) ∧ Own w' w.heap.size a' (M.getD []) cap' ∧ Below w.heap.size w w' := by
  subst h
  exact crew_any q N f l O E e w hH he

set_option maxHeartbeats 1000000 in
theorem told_any {q : HLoc} {N : Nat} {l : List Int} {O : List (Int × Int × List Int)} {E : List (Int × Int × Int × Int)} {e : Int} {m : List Int} (k : Nat) (hk : m.length = k) (a : Option Addr) (cap : Nat) {w : World} (hH : HandAt w q N 1 l O E) (he : Wf e) (hI : Ints w a m) (hm : m ≠ []) :
    Calls Try.prog 46 #[.pointer (some ⟨q.p, 0, none⟩), .int .i64 e, .slice a k cap] w fun e' w' => e' = .returned (.bool (decide (crewOf 1 O e = some m))) ∧ Below w.heap.size w w' := by
  subst hk
  have HH := Lib.hid hH
  have HI := Lib.hid hI
  have hmm := hI.1
  clear hH hI
  go_enter Try.func46, Try.ntmps46
  go_wp2_with fail
  cases hc : crewOf 1 O e with
  | none =>
    refine Calls.mono (crewIs_is HH.out hc he) ?_
    rintro e1 w1 ⟨a1, cap1, rfl, hO, hb⟩
    have HB := Lib.hid hb
    have HC := Lib.hid hc
    clear hb hO hc
    go_wp2
    go_ret
    exact ⟨ret_bool (by rw [HC.out]; simp), Below.step HB.out (Below.new _ _)⟩
  | some M =>
    have hs := crewOf_short (goodC_len HH.out.good).1 HH.out.inv (e := e)
    rw [hc] at hs
    simp only [Option.getD_some] at hs
    refine Calls.mono (crewIs_is HH.out hc he) ?_
    rintro e1 w1 ⟨a1, cap1, rfl, hO, hb⟩
    have HB := Lib.hid hb
    have hI1 := Lib.hid ((Own.ints (l := M) hO (by omega)).alloc (.cells #[.int .i64 1, .slice a1 M.length cap1] 24))
    have hI2 := Lib.hid ((HI.out.below hb).alloc (.cells #[.int .i64 1, .slice a1 M.length cap1] 24))
    have HC := Lib.hid hc
    clear hb hO hc hm
    go_wp2_with fail
    refine Calls.mono (eqInts_any a1 a cap1 cap M m _ hI1.out hI2.out) ?_
    rintro e2 w2 ⟨rfl, hb2⟩
    have HB2 := Lib.hid (Below.step (Below.step HB.out (Below.new _ _)) hb2)
    clear hb2
    go_wp2
    go_ret
    exact ⟨ret_bool (by rw [HC.out]; simp), HB2.out⟩

attribute [local go_sem] isLoad38_mk isLoad47_mk loadOp_mk headOf_mk blockOf_mk isMark_mk isRoot_mk isI_mk isB_mk seqOf_mk byteOf_mk byteO_mk intOf_mk drew_setRow alloc_setRow row47_new row38_new row47_drew rowOf_drew rowOf_new row38_drew row38_alloc row47_alloc rowOf_alloc
attribute [local go_sem ↓] exec_load38g exec_load47g exec_load38 exec_load47 exec_alloc47 exec_store47 exec_alloc38 exec_store38 exec_build47 exec_build47z exec_build38 exec_build38c exec_build47c exec_build38z exec_eql47
/-- A digest's block. -/
def RootAt (w : World) (g : Nat) (r : Int) : Prop := w.heap[g]? = some (.cells (rootC r) 38 (0, 0))
theorem RootAt.row {w : World} {g : Nat} {r : Int} (h : RootAt w g r) : Row38 w g ∧ rowOf w g = rootC r := ⟨row38_of h rfl, rowOf_of h⟩
theorem RootAt.range {w : World} {g : Nat} {r : Int} (h : RootAt w g r) : w.rangeAt g 0 (rootC r).toList := fun j v hv => by
  rw [cell_of_row _ _ _ _ _ _ h, Nat.zero_add]; simpa using hv
theorem RootAt.below {w w' : World} {g : Nat} {r : Int} (h : RootAt w g r) (hb : Below w.heap.size w w') : RootAt w' g r := (hb.block g (lt_of_heap h)).trans h
theorem RootAt.only {w w' : World} {g : Nat} {r : Int} {q : HLoc} {N : Nat} {f : Int} {l : List Int} {O : List (Int × Int × List Int)} {E : List (Int × Int × Int × Int)} (h : RootAt w g r) (hH : HandAt w q N f l O E) (ho : Only q.R w w') : RootAt w' g r :=
  (ho.block g (lt_of_heap h) (hH.notR (a := ⟨g, 0, none⟩) (cell_of_row _ _ 0 _ _ _ h))).trans h
theorem RootAt.drew {w : World} {g : Nat} {r : Int} (h : RootAt w g r) : RootAt w.drew g r := h
theorem Only.drew {R : List Nat} {a b : World} (h : Only R a b) : Only R a b.drew := h.trans (Only.of_below (Below.refl _ _).drew)
/-- What a statement that tells ends leaves. -/
def Sealed (q : HLoc) (w0 : World) (g N : Nat) (O : List (Int × Int × List Int)) (E : List (Int × Int × Int × Int)) (v : Value) (w' : World) : Prop :=
  v = .bool true ∧ HandAt w' q N 1 [1, 2, 3, 4] O E ∧ RootAt w' g 9 ∧ Only q.R w0 w'
theorem nodes0 : nodesL 0 = [5, 6, 7, 9] := by decide
theorem nodes1 : nodesL 1 = [5, 6, 7, 10] := by decide

set_option maxRecDepth 100000 in
set_option maxHeartbeats 8000000 in
theorem works24_any (w : World) : Calls Try.prog 43 #[] w fun e w' => e = .returned (.bool true) ∧ Below w.heap.size w w' := by
  go_enter Try.func43, Try.ntmps43
  go_wp2_with fail
  refine Calls.mono (dir_any _) ?_
  rintro e w1 ⟨a1, cap1, rfl, hO1, hb1⟩
  have HO1 := Lib.hid hO1
  have HB := Lib.hid hb1
  clear hO1 hb1
  go_wp2_with fail
  refine Calls.mono (new_good 1 a1 cap1 [1, 2, 3, 4] 1 _ (Own.ints (l := [1, 2, 3, 4]) HO1.out (by decide)) (Own.nocap HO1.out) (by decide) (by omega) (by omega)) ?_
  rintro e w2 ⟨q, rfl, hH, hb2, hR, hp⟩
  have HR := Lib.hid (fun r hr => Nat.le_trans HB.out.size (hR r hr))
  have HB := Lib.hid (Below.step HB.out hb2)
  have H := Lib.hid hH
  clear hb2 hH HO1 hR hp
  go_wp2_with fail
  refine Calls.mono (nodes_any 0 _) ?_
  rintro e w3 ⟨a3, cap3, rfl, hO3, hb3⟩
  have H := Lib.hid (H.out.below hb3)
  have HB := Lib.hid (Below.step HB.out hb3)
  have I3 := Lib.hid (Own.ints (l := nodesL 0) hO3 (by decide))
  have N3 := Lib.hid (Own.nocap hO3)
  clear hO3 hb3
  go_wp2_with fail
  refine Calls.mono (order_is (O' := [(1, 1, [5, 6, 7, 9])]) (m := [5, 6, 7, 9]) (res := 0) 4 rfl a3 cap3 H.out (by decide) (by unfold maxLen; omega) (Wf.of (by omega) (by omega)) (Wf.of (by omega) (by omega)) (by have := I3.out; rw [nodes0] at this; exact this) N3.out (by omega)) ?_
  rintro e w4 ⟨rfl, hH, hO⟩
  have H := Lib.hid hH
  have HB := Lib.hid (Only.below HB.out hO HR.out (Nat.le_refl _))
  clear hH hO I3 N3
  go_wp2_with fail
  refine Calls.mono (crewIs_is (M := none) H.out (by decide +kernel) (Wf.of (by omega) (by omega))) ?_
  rintro e w5 ⟨a5, cap5, rfl, hO5, hb5⟩
  have H := Lib.hid (H.out.below hb5)
  have HB := Lib.hid (Below.step HB.out hb5)
  have H := Lib.hid (H.out.below (Below.new w5 (.cells #[.int .i64 0, .slice a5 0 cap5] 24)))
  have HB := Lib.hid (Below.step HB.out (Below.new w5 (.cells #[.int .i64 0, .slice a5 0 cap5] 24)))
  clear hO5 hb5
  go_wp2_with fail
  refine Calls.mono (nodes_any 1 _) ?_
  rintro e w6 ⟨a6, cap6, rfl, hO6, hb6⟩
  have H := Lib.hid (H.out.below hb6)
  have HB := Lib.hid (Below.step HB.out hb6)
  have I6 := Lib.hid (Own.ints (l := nodesL 1) hO6 (by decide))
  have N6 := Lib.hid (Own.nocap hO6)
  clear hO6 hb6
  go_wp2_with fail
  refine Calls.mono (order_is (O' := [(1, 1, [5, 6, 7, 9]), (2, 1, [5, 6, 7, 10])]) (m := [5, 6, 7, 10]) (res := 0) 4 rfl a6 cap6 H.out (by decide +kernel) (by unfold maxLen; omega) (Wf.of (by omega) (by omega)) (Wf.of (by omega) (by omega)) (by have := I6.out; rw [nodes1] at this; exact this) N6.out (by omega)) ?_
  rintro e w7 ⟨rfl, hH, hO⟩
  have H := Lib.hid hH
  have HB := Lib.hid (Only.below HB.out hO HR.out (Nat.le_refl _))
  clear hH hO I6 N6
  go_wp2_with fail
  refine Calls.mono (nodes_any 0 _) ?_
  rintro e w8 ⟨a8, cap8, rfl, hO8, hb8⟩
  have H := Lib.hid (H.out.below hb8)
  have HB := Lib.hid (Below.step HB.out hb8)
  have I8 := Lib.hid (Own.ints (l := nodesL 0) hO8 (by decide))
  have N8 := Lib.hid (Own.nocap hO8)
  clear hO8 hb8
  go_wp2_with fail
  refine Calls.mono (order_is (O' := [(1, 1, [5, 6, 7, 9]), (2, 1, [5, 6, 7, 10]), (3, 1, [5, 6, 7, 9])]) (m := [5, 6, 7, 9]) (res := 0) 4 rfl a8 cap8 H.out (by decide +kernel) (by unfold maxLen; omega) (Wf.of (by omega) (by omega)) (Wf.of (by omega) (by omega)) (by have := I8.out; rw [nodes0] at this; exact this) N8.out (by omega)) ?_
  rintro e w9 ⟨rfl, hH, hO⟩
  have H := Lib.hid hH
  have HB := Lib.hid (Only.below HB.out hO HR.out (Nat.le_refl _))
  clear hH hO I8 N8
  go_wp2_with fail
  refine Calls.mono (nodes_any 0 _) ?_
  rintro e w10 ⟨a10, cap10, rfl, hO10, hb10⟩
  have H := Lib.hid (H.out.below hb10)
  have HB := Lib.hid (Below.step HB.out hb10)
  have I10 := Lib.hid (Own.ints (l := nodesL 0) hO10 (by decide))
  have N10 := Lib.hid (Own.nocap hO10)
  clear hO10 hb10
  go_wp2_with fail
  refine Calls.mono (told_any (m := [5, 6, 7, 9]) 4 rfl a10 cap10 H.out (Wf.of (by omega) (by omega)) (by have := I10.out; rw [nodes0] at this; exact this) (by decide)) ?_
  rintro e w11 ⟨rfl, hb11⟩
  have H := Lib.hid (H.out.below hb11)
  have HB := Lib.hid (Below.step HB.out hb11)
  clear hb11 I10 N10
  rw [show decide (crewOf 1 ([(1, 1, [5, 6, 7, 9]), (2, 1, [5, 6, 7, 10]), (3, 1, [5, 6, 7, 9])] : List (Int × Int × List Int)) 1 = some [5, 6, 7, 9]) = true from by decide +kernel]
  go_wp2_with fail
  refine Calls.mono (nodes_any 0 _) ?_
  rintro e w12 ⟨a12, cap12, rfl, hO12, hb12⟩
  have H := Lib.hid (H.out.below hb12)
  have HB := Lib.hid (Below.step HB.out hb12)
  have I12 := Lib.hid (Own.ints (l := nodesL 0) hO12 (by decide))
  have N12 := Lib.hid (Own.nocap hO12)
  clear hO12 hb12
  go_wp2_with fail
  refine Calls.mono (order_is (O' := [(1, 1, [5, 6, 7, 9]), (2, 1, [5, 6, 7, 10]), (3, 1, [5, 6, 7, 9])]) (m := [5, 6, 7, 9]) (res := 0) 4 rfl a12 cap12 H.out (by decide +kernel) (by unfold maxLen; omega) (Wf.of (by omega) (by omega)) (Wf.of (by omega) (by omega)) (by have := I12.out; rw [nodes0] at this; exact this) N12.out (by omega)) ?_
  rintro e w13 ⟨rfl, hH, hO⟩
  have H := Lib.hid hH
  have HB := Lib.hid (Only.below HB.out hO HR.out (Nat.le_refl _))
  clear hH hO I12 N12
  go_wp2_with fail
  have hb13 := Below.new w13 (.cells (rootC 9) 38)
  have hA : RootAt (w13.alloc (.cells (rootC 9) 38)) w13.heap.size 9 := heap_alloc_new _ _
  have H := Lib.hid (H.out.below hb13)
  have HB := Lib.hid (Below.step HB.out hb13)
  generalize (w13.alloc (.cells (rootC 9) 38)) = w14 at *
  obtain ⟨g, hgg⟩ : ∃ g, g = w13.heap.size := ⟨_, rfl⟩
  rw [← hgg] at hA ⊢
  clear hgg hb13
  have hH := H.out
  have hS : Only q.R w14 w14 := Only.refl _ _
  go_cut [7] (fun v wx => Sealed q w14 g (0 + 3 + 3 + 3 + 3 + 3 + 3) [(1, 1, [5, 6, 7, 9]), (2, 1, [5, 6, 7, 10]), (3, 1, [5, 6, 7, 9])] [(5, 0, 7, 9), (6, 0, 7, 9)] v wx)
  case first =>
    obtain ⟨hrw, hrr⟩ := hA.row
    go_region_with
      ((first
        | (go_at_call 47; refine Calls.mono (old_any _) ?_; rintro e wc ⟨a5, cap5, rfl, hO5, hb⟩; have hI5 := Own.ints (l := [5, 6, 7, 8]) hO5 (by decide); have hA := (by first | exact hA.below hb | exact hA.drew.below hb); have hS := (by first | exact hS.trans (Only.of_below hb) | exact hS.drew.trans (Only.of_below hb)); have hH := (by first | exact hH.below hb | exact hH.drew.below hb); obtain ⟨hrw, hrr⟩ := hA.row)
        | (go_at_call 37; (with_reducible refine Calls.mono (seal_is (q := q) (N := 0 + 3 + 3 + 3 + 3) (f := 1) (l := [1, 2, 3, 4]) (O := [(1, 1, [5, 6, 7, 9]), (2, 1, [5, 6, 7, 10]), (3, 1, [5, 6, 7, 9])]) (E := []) (E' := [(5, 0, 7, 9)]) (n := 5) (of := 1) (e := 0) (s := 7) (r := 9) (res := 0) (ol := [5, 6, 7, 8]) 4 rfl a5 cap5 ?_ (by decide +kernel) (by unfold maxLen; omega) (Wf.of (by omega) (by omega)) (Wf.of (by omega) (by omega)) ?_ (by omega) (by omega) (by omega)) ?_); (first | exact hH | exact hH.drew); (first | exact hI5 | exact hI5.drew); rintro e wc ⟨rfl, hH2, hO⟩; have hA := (by first | exact hA.only hH hO | exact hA.drew.only hH.drew hO); have hS := (by first | exact hS.trans hO | exact hS.drew.trans hO); have hH := hH2; obtain ⟨hrw, hrr⟩ := hA.row)
        | (go_at_call 37; (with_reducible refine Calls.mono (seal_is (q := q) (N := 0 + 3 + 3 + 3 + 3 + 3) (f := 1) (l := [1, 2, 3, 4]) (O := [(1, 1, [5, 6, 7, 9]), (2, 1, [5, 6, 7, 10]), (3, 1, [5, 6, 7, 9])]) (E := [(5, 0, 7, 9)]) (E' := [(5, 0, 7, 9), (6, 0, 7, 9)]) (n := 6) (of := 1) (e := 0) (s := 7) (r := 9) (res := 0) (ol := [5, 6, 7, 8]) 4 rfl a5 cap5 ?_ (by decide +kernel) (by unfold maxLen; omega) (Wf.of (by omega) (by omega)) (Wf.of (by omega) (by omega)) ?_ (by omega) (by omega) (by omega)) ?_); (first | exact hH | exact hH.drew); (first | exact hI5 | exact hI5.drew); rintro e wc ⟨rfl, hH2, hO⟩; have hA := (by first | exact hA.only hH hO | exact hA.drew.only hH.drew hO); have hS := (by first | exact hS.trans hO | exact hS.drew.trans hO); have hH := hH2; obtain ⟨hrw, hrr⟩ := hA.row)))
    all_goals
      go_wp2_with fail
      go_meet
      exact ⟨rfl, hH, hA, hS⟩
  case rest =>
    obtain ⟨rfl, hH, hA, hS⟩ := hcut
    have HB := Lib.hid (Only.below HB.out hS HR.out (Nat.le_refl _))
    clear hS
    have H := Lib.hid hH
    clear hH
    go_wp2_with fail
    refine Calls.mono (old_any _) ?_
    rintro e w15 ⟨a15, cap15, rfl, hO15, hb15⟩
    have H := Lib.hid (H.out.below hb15)
    have HB := Lib.hid (Below.step HB.out hb15)
    have hA := hA.below hb15
    have I15 := Lib.hid (Own.ints (l := [5, 6, 7, 8]) hO15 (by decide))
    clear hO15 hb15
    go_wp2_with fail
    refine Calls.mono (end_is (ol := [5, 6, 7, 8]) (M := none) 4 rfl a15 cap15 H.out (by decide +kernel) (Wf.of (by omega) (by omega)) I15.out) ?_
    rintro e w16 ⟨rfl, hb16⟩
    have hbb := Below.step hb16 (Below.new w16 (.cells (markC 0 0) 47))
    have H := Lib.hid (H.out.below hbb)
    have HB := Lib.hid (Below.step HB.out hbb)
    have hA := hA.below hbb
    clear hb16 hbb I15
    go_wp2_with fail
    generalize (w16.alloc (.cells (markC 0 0) 47)) = w17 at *
    have hH := H.out
    have hS : Only q.R w17 w17 := Only.refl _ _
    go_cut [10] (fun v wx => Sealed q w17 g (0 + 3 + 3 + 3 + 3 + 3 + 3 + 3) [(1, 1, [5, 6, 7, 9]), (2, 1, [5, 6, 7, 10]), (3, 1, [5, 6, 7, 9])] [(5, 0, 7, 9), (6, 0, 7, 9), (8, 0, 7, 9)] v wx)
    case first =>
      obtain ⟨hrw, hrr⟩ := hA.row
      go_region_with
        ((first
          | (go_at_call 47; refine Calls.mono (old_any _) ?_; rintro e wc ⟨a5, cap5, rfl, hO5, hb⟩; have hI5 := Own.ints (l := [5, 6, 7, 8]) hO5 (by decide); have hA := (by first | exact hA.below hb | exact hA.drew.below hb); have hS := (by first | exact hS.trans (Only.of_below hb) | exact hS.drew.trans (Only.of_below hb)); have hH := (by first | exact hH.below hb | exact hH.drew.below hb); obtain ⟨hrw, hrr⟩ := hA.row)
          | (go_at_call 37; (with_reducible refine Calls.mono (seal_is (q := q) (N := 0 + 3 + 3 + 3 + 3 + 3 + 3) (f := 1) (l := [1, 2, 3, 4]) (O := [(1, 1, [5, 6, 7, 9]), (2, 1, [5, 6, 7, 10]), (3, 1, [5, 6, 7, 9])]) (E := [(5, 0, 7, 9), (6, 0, 7, 9)]) (E' := [(5, 0, 7, 9), (6, 0, 7, 9), (8, 0, 7, 9)]) (n := 8) (of := 1) (e := 0) (s := 7) (r := 9) (res := 0) (ol := [5, 6, 7, 8]) 4 rfl a5 cap5 ?_ (by decide +kernel) (by unfold maxLen; omega) (Wf.of (by omega) (by omega)) (Wf.of (by omega) (by omega)) ?_ (by omega) (by omega) (by omega)) ?_); (first | exact hH | exact hH.drew); (first | exact hI5 | exact hI5.drew); rintro e wc ⟨rfl, hH2, hO⟩; have hA := (by first | exact hA.only hH hO | exact hA.drew.only hH.drew hO); have hS := (by first | exact hS.trans hO | exact hS.drew.trans hO); have hH := hH2; obtain ⟨hrw, hrr⟩ := hA.row)))
      all_goals
        go_wp2_with fail
        go_meet
        exact ⟨rfl, hH, hA, hS⟩
    case rest =>
      obtain ⟨rfl, hH, hA, hS⟩ := hcut
      have HB := Lib.hid (Only.below HB.out hS HR.out (Nat.le_refl _))
      clear hS
      have H := Lib.hid hH
      clear hH
      go_wp2_with fail
      refine Calls.mono (old_any _) ?_
      rintro e w18 ⟨a18, cap18, rfl, hO18, hb18⟩
      have H := Lib.hid (H.out.below hb18)
      have HB := Lib.hid (Below.step HB.out hb18)
      have hA := hA.below hb18
      have I18 := Lib.hid (Own.ints (l := [5, 6, 7, 8]) hO18 (by decide))
      clear hO18 hb18
      go_wp2_with fail
      refine Calls.mono (end_is (ol := [5, 6, 7, 8]) (M := some (7, 9)) 4 rfl a18 cap18 H.out (by decide +kernel) (Wf.of (by omega) (by omega)) I18.out) ?_
      rintro e w19 ⟨rfl, hb19⟩
      have hbb := Below.step hb19 (Below.new w19 (.cells (markC 7 9) 47))
      have HB := Lib.hid (Below.step HB.out hbb)
      have hA := hA.below hb19
      have hgl : g < w19.heap.size := lt_of_heap hA
      obtain ⟨hrw, hrr⟩ := hA.row
      have hok := okMark_mk (s := 7) (r := 9) (by omega) (by omega)
      clear hb19 hbb I18
      go_wp2
      go_ret
      exact ⟨rfl, HB.out⟩
end Go.Proofs.Ytldcpnabgpjgiaa.Walks
