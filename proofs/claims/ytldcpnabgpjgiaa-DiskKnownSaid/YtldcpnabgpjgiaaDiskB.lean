/-
  Answers: vdisk.ownAnswer, vdisk.same, SameAnswer; ownWish.
-/
import Derived.Test.YtldcpnabgpjgiaaDiskA
import Derived.Test.YtldcpnabgpjgiaaHandA
import Derived.Deep.RegionLaw
import Derived.Deep.CutRange
import Derived.Lib.SmallJoins
namespace Go.Proofs.Ytldcpnabgpjgiaa.Walks
open Go.RowKit Plain
set_option linter.unusedVariables false

theorem frozen_of_row (w : World) (g i : Nat) (cs : Array Value) (t : TypeId) (h : w.heap[g]? = some (.cells cs t (0, 0))) : w.frozen? ⟨g, i, none⟩ = false := by
  simp [World.frozen?, h]
theorem put4 {w : World} {g : Nat} {t : TypeId} {x0 x1 x2 x3 : Value} (hr : w.heap[g]? = some (.cells #[x0, x1, x2, x3] t (0, 0))) (y0 y1 y2 y3 : Value) :
    ((((w.setCell ⟨g, 0, none⟩ y0).setCell ⟨g, 1, none⟩ y1).setCell ⟨g, 2, none⟩ y2).setCell ⟨g, 3, none⟩ y3).heap[g]? = some (.cells #[y0, y1, y2, y3] t (0, 0)) := by
  have h1 := Joins.block_setCell (i := 0) hr y0
  have h2 := Joins.block_setCell (i := 1) h1 y1
  have h3 := Joins.block_setCell (i := 2) h2 y2
  have h4 := Joins.block_setCell (i := 3) h3 y3
  exact h4
theorem z72 : (Try.prog.info? 72).map (·.size) = some 4 := by kernel_rfl
theorem z88 : (Try.prog.info? 88).map (·.size) = some 10 := by kernel_rfl
theorem z81 : (Try.prog.info? 81).map (·.size) = some 58 := by kernel_rfl
theorem z90 : (Try.prog.info? 90).map (·.size) = some 75 := by kernel_rfl
theorem range_of_block {w : World} {g : Nat} {cs : Array Value} {t : TypeId} {fr : Nat × Nat} (h : w.heap[g]? = some (.cells cs t fr)) : w.rangeAt g 0 cs.toList := fun j v hv => by
  rw [cell_of_row _ _ _ _ _ _ h, Nat.zero_add]; simpa using hv
theorem loadBlock {T : TypeId} {n : Nat} {desc : TypeDesc} (hu : Try.prog.underlying T = some desc) (hd : desc.isRow = true) (hi : (Try.prog.info? T).map (·.size) = some n) {w : World} {g : Nat} {cs : Array Value} {t : TypeId} {fr : Nat × Nat} (h : w.heap[g]? = some (.cells cs t fr)) (hc : cs.size = n) :
    (loadVar T ⟨g, 0, none⟩).run Try.prog w = .ok (.agg cs) w := by
  have := run_loadVar_mid (P := Try.prog) w g 0 T cs.toList desc (range_of_block h) hu hd (by rw [Array.length_toList, hc]; exact hi)
  simpa using this
theorem load72 {w : World} {g : Nat} {x0 x1 x2 x3 : Value} {t : TypeId} {fr : Nat × Nat} (h : w.heap[g]? = some (.cells #[x0, x1, x2, x3] t fr)) : (loadVar 72 ⟨g, 0, none⟩).run Try.prog w = .ok (.agg #[x0, x1, x2, x3]) w := loadBlock Try.underlying72 rfl z72 h rfl
/-- An answer's value. -/
def AnIn (w : World) (v : Value) (A : An) : Prop := ∃ da dc na nc, v = .agg #[.int .i64 A.err, .slice da A.data.length dc, .int .i64 A.ep, .slice na A.nodes.length nc] ∧ (BL w da A.data ∧ (da = none → dc = 0)) ∧ IL w na A.nodes ∧ (na = none → nc = 0)
theorem AnIn.below {w w' : World} {v : Value} {A : An} (h : AnIn w v A) (hb : Below w.heap.size w w') : AnIn w' v A := by
  obtain ⟨da, dc, na, nc, e, ⟨h1, h2⟩, h3, h4⟩ := h
  exact ⟨da, dc, na, nc, e, ⟨h1.below hb, h2⟩, h3.below hb, h4⟩
def OwnA (A : An) (w : World) (e : Ending) (w' : World) : Prop := ∃ v, e = .returned v ∧ AnIn w' v A ∧ Below w.heap.size w w'

theorem heap_setCell_ne {w : World} {g i b : Nat} {v : Value} (h : b ≠ g) : (w.setCell ⟨g, i, none⟩ v).heap[b]? = w.heap[b]? := by
  unfold World.setCell
  rw [Array.getElem?_modify, if_neg (fun e => h e.symm)]
/-- A store into a block of another type leaves a list. -/
theorem TL.set {t : TypeId} {k : IntKind} {w : World} {a : Option Addr} {l : List Int} (h : TL t k w a l) {g : Nat} {cs : Array Value} {t' : TypeId} {fz : Nat × Nat} (hg : w.heap[g]? = some (.cells cs t' fz)) (ht : t' ≠ t) (i : Nat) (v : Value) : TL t k (w.setCell ⟨g, i, none⟩ v) a l :=
  h.same fun b cur fz' hc => by
    have hne : b ≠ g := by
      rintro rfl
      rw [hg] at hc
      cases hc
      exact ht rfl
    rw [heap_setCell_ne hne]; exact hc
def OwnA4 (A : An) (w0 : World) (g : Nat) (wx : World) : Prop := ∃ d' dc' n' nc', wx.heap[g]? = some (.cells #[.int .i64 A.err, .slice d' A.data.length dc', .int .i64 A.ep, .slice n' A.nodes.length nc'] 72 (0, 0)) ∧ (BL wx d' A.data ∧ (d' = none → dc' = 0)) ∧ IL wx n' A.nodes ∧ (n' = none → nc' = 0) ∧ Below w0.heap.size w0 wx ∧ wx.heap[w0.heap.size + 1]? = some (.cells #[.int .i64 0, .slice none 0 0, .int .i64 0, .slice none 0 0] 72 (0, 0))
set_option maxRecDepth 100000 in
set_option maxHeartbeats 2000000 in
theorem ownAnswer_any (A : An) (da : Option Addr) (dc : Nat) (na : Option Addr) (nc : Nat) (w : World) (hD : BL w da A.data) (hdn : da = none → dc = 0) (hN : IL w na A.nodes) (hnn : na = none → nc = 0) :
    Calls Try.prog 96 #[.agg #[.int .i64 A.err, .slice da A.data.length dc, .int .i64 A.ep, .slice na A.nodes.length nc]] w (OwnA A w) := by
  have HD := Lib.hid hD
  have HN := Lib.hid hN
  have HDN := Lib.hid hdn
  have HNN := Lib.hid hnn
  clear hD hN hdn hnn
  go_enter Try.func96, Try.ntmps96
  go_wp2_with fail
  obtain ⟨w2, hw2⟩ : ∃ w2, w2 = (w.alloc (.cells #[.int .i64 A.err, .slice da A.data.length dc, .int .i64 A.ep, .slice na A.nodes.length nc] 72)).alloc (.cells #[.int .i64 0, .slice none 0 0, .int .i64 0, .slice none 0 0] 72) := ⟨_, rfl⟩
  have hb2 : Below w.heap.size w w2 := by rw [hw2]; exact (Below.new w _).alloc (by simp) _
  have hz2 : w2.heap.size = w.heap.size + 2 := by rw [hw2]; simp
  have hA : w2.heap[w.heap.size]? = some (.cells #[.int .i64 A.err, .slice da A.data.length dc, .int .i64 A.ep, .slice na A.nodes.length nc] 72 (0, 0)) := by rw [hw2, heap_alloc_lt (by simp)]; exact heap_alloc_new _ _
  have hR : w2.heap[w.heap.size + 1]? = some (.cells #[.int .i64 0, .slice none 0 0, .int .i64 0, .slice none 0 0] 72 (0, 0)) := by rw [hw2]; have := heap_alloc_new (w.alloc (.cells #[.int .i64 A.err, .slice da A.data.length dc, .int .i64 A.ep, .slice na A.nodes.length nc] 72)) (.cells #[.int .i64 0, .slice none 0 0, .int .i64 0, .slice none 0 0] 72); simpa using this
  rw [← hw2]
  clear hw2
  have c1 : w2.cell? ⟨w.heap.size, 1, none⟩ = some (.slice da A.data.length dc) := cell_of_row _ _ _ _ _ _ hA
  have c3 : w2.cell? ⟨w.heap.size, 3, none⟩ = some (.slice na A.nodes.length nc) := cell_of_row _ _ _ _ _ _ hA
  have HD := Lib.hid (HD.out.below hb2)
  have HN := Lib.hid (HN.out.below hb2)
  have HA := Lib.hid hA
  have HR := Lib.hid hR
  have HZ2 := Lib.hid hz2
  have HB2 := Lib.hid hb2
  clear hA hR hz2 hb2
  have hS : Below w2.heap.size w2 w2 := Below.refl _ _
  have hm := HN.out.1
  have f1 : w2.frozen? ⟨w.heap.size, 1, none⟩ = false := frozen_of_row _ _ _ _ _ HA.out
  have f3 : w2.frozen? ⟨w.heap.size, 3, none⟩ = false := frozen_of_row _ _ _ _ _ HA.out
  have hl2 : w.heap.size < w2.heap.size := by rw [HZ2.out]; omega
  have C1 := Lib.hid c1
  have C3 := Lib.hid c3
  have F1 := Lib.hid f1
  have F3 := Lib.hid f3
  go_cut [] from 3 to 11 (fun wx => OwnA4 A w w.heap.size wx)
  case first =>
    go_region_with
      ((first
        | (go_at_call 103; (with_reducible refine Calls.mono (cloneB_any da dc A.data _ ?_ HDN.out) ?_); (first | exact HD.out.below hS | exact HD.out.below hS.drew); rintro e wc ⟨d', dc', rfl, hD', hDn', hb⟩; have hS := (by first | exact Below.step hS hb | exact Below.step hS.drew hb); have c1 := keepc hS C1.out; have c3 := keepc hS C3.out; have f1 := keepf hS hl2 F1.out; have f3 := keepf hS hl2 F3.out)
        | (go_at_call 91; (with_reducible refine Calls.mono (clone_any na nc A.nodes _ ?_ HNN.out ?_) ?_); (first | exact (HN.out.below hS).ints | exact (HN.out.below hS.drew).ints); omega; rintro e wc ⟨n', nc', rfl, hN', hb, _⟩; have hD' := (by first | exact hD'.below hb | exact hD'.below (Below.step (Below.refl _ _).drew hb)); have hS := (by first | exact Below.step hS hb | exact Below.step hS.drew hb); have c1 := keepc hS C1.out; have c3 := keepc hS C3.out; have f1 := keepf hS hl2 F1.out; have f3 := keepf hS hl2 F3.out)))
    all_goals
      go_wp2_with fail
      go_meet
      have hg := (hS.block _ hl2).trans HA.out
      have h1 := Joins.block_setCell (i := 1) hg (.slice d' A.data.length dc')
      have h2 := Joins.block_setCell (i := 3) h1 (.slice n' A.nodes.length nc')
      have hN'' := Own.il hN' hm
      exact ⟨d', dc', n', nc', h2, ⟨⟨(hD'.1.set hg (by decide) 1 _).set h1 (by decide) 3 _, hD'.2⟩, hDn'⟩, (hN''.set hg (by decide) 1 _).set h1 (by decide) 3 _, Own.nocap hN', ((Below.step HB2.out hS).setCell (by simp) _).setCell (by simp) _, by rw [heap_setCell_ne (by omega), heap_setCell_ne (by omega)]; exact (hS.block _ (by rw [HZ2.out]; omega)).trans HR.out⟩
  case rest =>
    obtain ⟨d', dc', n', nc', hg, ⟨hD', hDn'⟩, hN', hNn', hb, hr⟩ := hcut
    have a0 := cell_of_row _ _ 0 _ _ _ hg
    have a1 := cell_of_row _ _ 1 _ _ _ hg
    have a2 := cell_of_row _ _ 2 _ _ _ hg
    have a3 := cell_of_row _ _ 3 _ _ _ hg
    have b0 := cell_of_row _ _ 0 _ _ _ hr
    have b1 := cell_of_row _ _ 1 _ _ _ hr
    have b2 := cell_of_row _ _ 2 _ _ _ hr
    have b3 := cell_of_row _ _ 3 _ _ _ hr
    have e0 := frozen_of_row _ _ 0 _ _ hr
    have e1 := frozen_of_row _ _ 1 _ _ hr
    have e2 := frozen_of_row _ _ 2 _ _ hr
    have e3 := frozen_of_row _ _ 3 _ _ hr
    have HG := Lib.hid hg
    have HRR := Lib.hid hr
    have HX := Lib.hid hD'
    have HY := Lib.hid hN'
    have HBB := Lib.hid hb
    clear hg hr hD' hN' hb
    simp at a0 a1 a2 a3 b0 b1 b2 b3
    go_wp2_with fail
    have hp := put4 HRR.out (.int .i64 A.err) (.slice d' A.data.length dc') (.int .i64 A.ep) (.slice n' A.nodes.length nc')
    have r1 := load72 hp
    refine bodyPost_ret (v := .agg #[.int .i64 A.err, .slice d' A.data.length dc', .int .i64 A.ep, .slice n' A.nodes.length nc']) (by simp [results, Try.results96, asAddr, r1]) rfl ?_
    have h1 := Joins.block_setCell (i := 0) HRR.out (.int .i64 A.err)
    have h2 := Joins.block_setCell (i := 1) h1 (.slice d' A.data.length dc')
    have h3 := Joins.block_setCell (i := 2) h2 (.int .i64 A.ep)
    exact ⟨_, rfl, ⟨d', dc', n', nc', rfl, ⟨⟨(((HX.out.1.set HRR.out (by decide) _ _).set h1 (by decide) _ _).set h2 (by decide) _ _).set h3 (by decide) _ _, HX.out.2⟩, hDn'⟩, (((HY.out.set HRR.out (by decide) _ _).set h1 (by decide) _ _).set h2 (by decide) _ _).set h3 (by decide) _ _, hNn'⟩, (((HBB.out.setCell (by simp) _).setCell (by simp) _).setCell (by simp) _).setCell (by simp) _⟩
theorem two4 (w : World) (t t' : TypeId) (x0 x1 x2 x3 y0 y1 y2 y3 : Value) : ∃ w2, w2 = (w.alloc (.cells #[x0, x1, x2, x3] t)).alloc (.cells #[y0, y1, y2, y3] t') ∧ Below w.heap.size w w2 ∧ w2.heap.size = w.heap.size + 2 ∧
    w2.heap[w.heap.size]? = some (.cells #[x0, x1, x2, x3] t (0, 0)) ∧ w2.heap[w.heap.size + 1]? = some (.cells #[y0, y1, y2, y3] t' (0, 0)) := by
  refine ⟨_, rfl, (Below.new w _).alloc (by simp) _, by simp, ?_, ?_⟩
  · rw [heap_alloc_lt (by simp)]; exact heap_alloc_new _ _
  · have := heap_alloc_new (w.alloc (.cells #[x0, x1, x2, x3] t)) (.cells #[y0, y1, y2, y3] t'); simpa using this
theorem same_case {A B : An} : (A = B) ↔ A.err = B.err ∧ A.data = B.data ∧ A.ep = B.ep ∧ A.nodes = B.nodes :=
  ⟨fun h => by subst h; exact ⟨rfl, rfl, rfl, rfl⟩, fun h => An.ext' h.1 h.2.1 h.2.2.1 h.2.2.2⟩
theorem ans_ne {A B : An} (h : ¬ (A.err = B.err ∧ A.data = B.data ∧ A.ep = B.ep ∧ A.nodes = B.nodes)) : decide (A = B) = false := by
  rw [decide_eq_false_iff_not, same_case]; exact h
theorem ans_eq {A B : An} (h : A.err = B.err ∧ A.data = B.data ∧ A.ep = B.ep ∧ A.nodes = B.nodes) : decide (A = B) = true := by
  rw [decide_eq_true_eq, same_case]; exact h
set_option maxRecDepth 100000 in
set_option maxHeartbeats 2000000 in
theorem sameA_any (A B : An) (da : Option Addr) (dc : Nat) (na : Option Addr) (nc : Nat) (da' : Option Addr) (dc' : Nat) (na' : Option Addr) (nc' : Nat) (w : World) (hD : BL w da A.data) (hN : IL w na A.nodes) (hD' : BL w da' B.data) (hN' : IL w na' B.nodes) :
    Calls Try.prog 114 #[.agg #[.int .i64 A.err, .slice da A.data.length dc, .int .i64 A.ep, .slice na A.nodes.length nc], .agg #[.int .i64 B.err, .slice da' B.data.length dc', .int .i64 B.ep, .slice na' B.nodes.length nc']] w
      fun e w' => e = .returned (.bool (decide (A = B))) ∧ Below w.heap.size w w' := by
  by_cases h1 : A.err = B.err
  case neg =>
    have q1 : (A.err == B.err) = false := by simpa using h1
    have HX := Lib.hid h1
    clear h1 hD hN hD' hN'
    go_enter Try.func114, Try.ntmps114
    go_wp2
    go_ret
    exact ⟨ret_bool (ans_ne fun h => HX.out h.1).symm, (Below.new w _).alloc (by simp) _⟩
  have q1 : (A.err == B.err) = true := by simpa using h1
  have H1 := Lib.hid h1
  clear h1
  have HD := Lib.hid hD
  have HN := Lib.hid hN
  have HD' := Lib.hid hD'
  have HN' := Lib.hid hN'
  clear hD hN hD' hN'
  go_enter Try.func114, Try.ntmps114
  go_wp2_with fail
  obtain ⟨w2, hw2, hb2, _, hA, hB⟩ := two4 w 72 72 (.int .i64 A.err) (.slice da A.data.length dc) (.int .i64 A.ep) (.slice na A.nodes.length nc) (.int .i64 B.err) (.slice da' B.data.length dc') (.int .i64 B.ep) (.slice na' B.nodes.length nc')
  rw [← hw2]
  clear hw2
  have a2 := cell_of_row _ _ 2 _ _ _ hA
  have a3 := cell_of_row _ _ 3 _ _ _ hA
  have b2 := cell_of_row _ _ 2 _ _ _ hB
  have b3 := cell_of_row _ _ 3 _ _ _ hB
  simp at a2 a3 b2 b3
  have HD := Lib.hid (HD.out.below hb2)
  have HN := Lib.hid (HN.out.below hb2)
  have HD' := Lib.hid (HD'.out.below hb2)
  have HN' := Lib.hid (HN'.out.below hb2)
  have HB2 := Lib.hid hb2
  clear hb2 hA hB q1
  refine Calls.mono (equalB_any da da' dc dc' A.data B.data _ HD.out HD'.out) ?_
  rintro e wd ⟨rfl, rfl⟩
  by_cases h2 : A.data = B.data
  case neg =>
    have q2 : decide (A.data = B.data) = false := by simpa using h2
    have HX := Lib.hid h2
    rw [q2]
    clear h2 q2
    go_wp2
    go_ret
    exact ⟨ret_bool (ans_ne fun h => HX.out h.2.1).symm, HB2.out⟩
  have q2 : decide (A.data = B.data) = true := by simpa using h2
  have H2 := Lib.hid h2
  rw [q2]
  clear h2 q2
  by_cases h3 : A.ep = B.ep
  case neg =>
    have q3 : (A.ep == B.ep) = false := by simpa using h3
    have HX := Lib.hid h3
    clear h3
    go_wp2
    go_ret
    exact ⟨ret_bool (ans_ne fun h => HX.out h.2.2.1).symm, HB2.out⟩
  have q3 : (A.ep == B.ep) = true := by simpa using h3
  have H3 := Lib.hid h3
  clear h3
  go_wp2_with fail
  refine Calls.mono (equal_any na na' nc nc' A.nodes B.nodes _ HN.out.ints HN'.out.ints) ?_
  rintro e wd ⟨rfl, hb⟩
  have HB3 := Lib.hid (Below.step HB2.out hb)
  clear hb
  go_wp2
  go_ret
  refine ⟨ret_bool ?_, HB3.out⟩
  by_cases h4 : A.nodes = B.nodes
  · rw [ans_eq ⟨H1.out, H2.out, H3.out, h4⟩]; simpa using h4
  · rw [ans_ne fun h => h4 h.2.2.2]; simpa using h4
set_option maxRecDepth 100000 in
set_option maxHeartbeats 2000000 in
/-- SameAnswer of two that are one. -/
theorem sameAns_is (A : An) (da : Option Addr) (dc : Nat) (na : Option Addr) (nc : Nat) (da' : Option Addr) (dc' : Nat) (na' : Option Addr) (nc' : Nat) (w : World) (hD : BL w da A.data) (hN : IL w na A.nodes) (hD' : BL w da' A.data) (hN' : IL w na' A.nodes) :
    Calls Try.prog 54 #[.agg #[.int .i64 A.err, .slice da A.data.length dc, .int .i64 A.ep, .slice na A.nodes.length nc], .agg #[.int .i64 A.err, .slice da' A.data.length dc', .int .i64 A.ep, .slice na' A.nodes.length nc']] w
      fun e w' => e = .returned (.bool true) ∧ Below w.heap.size w w' := by
  have HD := Lib.hid hD
  have HN := Lib.hid hN
  have HD' := Lib.hid hD'
  have HN' := Lib.hid hN'
  clear hD hN hD' hN'
  go_enter Try.func54, Try.ntmps54
  go_wp2_with fail
  obtain ⟨w2, hw2, hb2, _, hA, hB⟩ := two4 w 72 72 (.int .i64 A.err) (.slice da A.data.length dc) (.int .i64 A.ep) (.slice na A.nodes.length nc) (.int .i64 A.err) (.slice da' A.data.length dc') (.int .i64 A.ep) (.slice na' A.nodes.length nc')
  rw [← hw2]
  clear hw2
  have HA := Lib.hid hA
  have HB := Lib.hid hB
  have HD := Lib.hid (HD.out.below hb2)
  have HN := Lib.hid (HN.out.below hb2)
  have HD' := Lib.hid (HD'.out.below hb2)
  have HN' := Lib.hid (HN'.out.below hb2)
  have HB2 := Lib.hid hb2
  clear hb2 hA hB
  refine Calls.mono (eqBytes_any da da' dc dc' A.data A.data _ HD.out.1 HD'.out.1) ?_
  rintro e w3 ⟨rfl, hb⟩
  rw [decide_eq_true (rfl : A.data = A.data)]
  have HN := Lib.hid (HN.out.below hb)
  have HN' := Lib.hid (HN'.out.below hb)
  have HB2 := Lib.hid (Below.step HB2.out hb)
  have hA := (hb.block _ (lt_of_heap HA.out)).trans HA.out
  have hB := (hb.block _ (lt_of_heap HB.out)).trans HB.out
  have a2 := cell_of_row _ _ 2 _ _ _ hA
  have a3 := cell_of_row _ _ 3 _ _ _ hA
  have b2 := cell_of_row _ _ 2 _ _ _ hB
  have b3 := cell_of_row _ _ 3 _ _ _ hB
  simp at a2 a3 b2 b3
  clear hA hB hb
  go_wp2_with fail
  refine Calls.mono (eqInts_any na na' nc nc' A.nodes A.nodes _ HN.out.ints HN'.out.ints) ?_
  rintro e w4 ⟨rfl, hb⟩
  rw [decide_eq_true (rfl : A.nodes = A.nodes)]
  have HB2 := Lib.hid (Below.step HB2.out hb)
  clear hb
  go_wp2
  go_ret
  exact ⟨rfl, HB2.out⟩
end Go.Proofs.Ytldcpnabgpjgiaa.Walks
