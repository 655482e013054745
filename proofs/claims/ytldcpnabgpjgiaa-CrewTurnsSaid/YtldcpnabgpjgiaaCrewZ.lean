/-
  The walk of the law CrewTurns.
-/
import Derived.Test.YtldcpnabgpjgiaaCrewQ
namespace Go.Proofs.Ytldcpnabgpjgiaa.Walks
open Go.RowKit Plain
set_option linter.unusedVariables false

set_option maxRecDepth 100000 in
set_option maxHeartbeats 4000000 in
theorem crewTurns_walk (x0 x1 x2 x3 x4 x5 x6 x7 : Int) (pv : Int) (w : World) : Calls Try.prog 22 #[.agg #[.int .i64 x0, .int .i64 x1, .int .i64 x2, .int .i64 x3, .int .i64 x4, .int .i64 x5, .int .i64 x6, .int .i64 x7], .int .i64 pv] w fun e w' => e = .returned (.bool true) ∧ Below w.heap.size w w' := by
  go_enter Try.func22, Try.ntmps22
  go_wp2_with fail
  obtain ⟨wb, hwb⟩ : ∃ wb : World, wb = (w.alloc (.cells #[.int .i64 x0, .int .i64 x1, .int .i64 x2, .int .i64 x3, .int .i64 x4, .int .i64 x5, .int .i64 x6, .int .i64 x7] 128)) := ⟨_, rfl⟩
  have hbb : Below w.heap.size w wb := by
    rw [hwb]; exact Below.new w _
  have hh0 : wb.heap[w.heap.size]? = some (.cells #[.int .i64 x0, .int .i64 x1, .int .i64 x2, .int .i64 x3, .int .i64 x4, .int .i64 x5, .int .i64 x6, .int .i64 x7] 128 (0, 0)) := by
    rw [hwb]
    have := heap_alloc_new w (.cells #[.int .i64 x0, .int .i64 x1, .int .i64 x2, .int .i64 x3, .int .i64 x4, .int .i64 x5, .int .i64 x6, .int .i64 x7] 128)
    simpa using this
  rw [← hwb]
  clear hwb
  refine Calls.mono (works_any _) ?_
  rintro e w1 ⟨rfl, hb1⟩
  have q0 : w1.cell? ⟨w.heap.size, 0, none⟩ = some (.int .i64 x0) := keepc hb1 (cell_of_row _ _ 0 _ _ _ hh0)
  have q1 : w1.cell? ⟨w.heap.size, 1, none⟩ = some (.int .i64 x1) := keepc hb1 (cell_of_row _ _ 1 _ _ _ hh0)
  have q2 : w1.cell? ⟨w.heap.size, 2, none⟩ = some (.int .i64 x2) := keepc hb1 (cell_of_row _ _ 2 _ _ _ hh0)
  have q3 : w1.cell? ⟨w.heap.size, 3, none⟩ = some (.int .i64 x3) := keepc hb1 (cell_of_row _ _ 3 _ _ _ hh0)
  have q4 : w1.cell? ⟨w.heap.size, 4, none⟩ = some (.int .i64 x4) := keepc hb1 (cell_of_row _ _ 4 _ _ _ hh0)
  have q5 : w1.cell? ⟨w.heap.size, 5, none⟩ = some (.int .i64 x5) := keepc hb1 (cell_of_row _ _ 5 _ _ _ hh0)
  have q6 : w1.cell? ⟨w.heap.size, 6, none⟩ = some (.int .i64 x6) := keepc hb1 (cell_of_row _ _ 6 _ _ _ hh0)
  have q7 : w1.cell? ⟨w.heap.size, 7, none⟩ = some (.int .i64 x7) := keepc hb1 (cell_of_row _ _ 7 _ _ _ hh0)
  go_wp2_with fail
  refine Calls.mono (mk_good x0 x1 x2 x3 x4 x5 x6 x7 _) ?_
  rintro e w2 ⟨F, L, a, cap, HG, rfl, hO, hb2⟩
  have hlen := goodC_len HG.out
  have hf0 := hlen.1
  have hf2 := hlen.2.1
  have hl7 : L.length ≤ 7 := by have := hlen.2.2; omega
  have hl1 : 1 ≤ L.length := by have := hlen.2.2; omega
  obtain ⟨c0, c1⟩ := crew_box (w := w2) (F := F) (v := .slice a L.length cap)
  have HI := Lib.hid ((Own.ints hO (by omega)).alloc (.cells #[.int .i64 F, .slice a L.length cap] 24))
  have HN := Lib.hid (Own.nocap hO)
  have HB := Lib.hid (Below.step (Below.step (Below.step hbb hb1) hb2) (Below.new w2 (.cells #[.int .i64 F, .slice a L.length cap] 24)))
  clear hlen hO hb1 hb2 hbb hh0 q0 q1 q2 q3 q4 q5 q6 q7
  go_wp2_with fail
  generalize (w2.alloc (.cells #[.int .i64 F, .slice a L.length cap] 24)) = w3 at *
  have hv0 := bringI_nonneg pv 1099511627776
  have hv1 := bringI_lt pv (n := 1099511627776) (by omega)
  refine Calls.mono (bring_any pv 1099511627776 _ (by omega) (by omega)) ?_
  rintro e w' ⟨rfl, rfl⟩
  generalize bringI pv 1099511627776 = v at *
  go_wp2_with fail
  go_loopw [6, 7] (fun sv i wr => ∃ (k : Nat) (m : List Int) (a' : Option Addr) (cap' : Nat), k ≤ L.length ∧ i = .int .i64 k ∧ sv = .slice a' m.length cap' ∧ Hid (m = seenTo F L v k) ∧ Hid (Own wr w3.heap.size a' m cap') ∧ Below w3.heap.size w3 wr) (fun _ i _ => L.length - (intOf i).toNat)
  case atStart => exact ⟨0, [], none, 0, by omega, rfl, rfl, Lib.hid rfl, Lib.hid (World.ownsRow_nil _ _ _ _), Below.refl _ _⟩
  case round =>
    obtain ⟨k, m, a', cap', hk, rfl, rfl, HM, HO, hbr⟩ := hrel
    have c0 := keepc hbr c0
    have c1 := keepc hbr c1
    have HI := Lib.hid (HI.out.below hbr)
    have hml : m.length = k := by rw [HM.out, seenTo_len]
    have HML := Lib.hid hml
    clear hml
    by_cases hlt : k < L.length
    · obtain ⟨x, hx⟩ : ∃ x, x = leadC F L (v + k) := ⟨_, rfl⟩
      have HX := Lib.hid hx.symm
      have HH : Hid (hasC F L x = true) := Lib.hid (by rw [hx]; exact lead_has HG.out (by omega))
      have HN1 : Hid (m ++ [x] = seenTo F L v (k + 1)) := Lib.hid (by rw [seenTo_succ, HM.out, hx])
      clear hx
      go_wp2_with fail
      refine Calls.mono (lead_is HX.out a cap _ HI.out) ?_
      rintro e w4 ⟨rfl, hb4⟩
      have c0 := keepc hb4 c0
      have c1 := keepc hb4 c1
      have HI := Lib.hid (HI.out.below hb4)
      have HO := Lib.hid (ownsRow_below HO.out hb4)
      have hbr := Below.step hbr hb4
      clear hb4
      go_wp2_with fail
      have HVK : Hid (votesC F L m = (k : Int)) := Lib.hid (by rw [HM.out]; exact seen_votes HG.out (by omega) hk)
      refine Calls.mono (votes_is HVK.out a cap a' cap' _ HI.out (Own.ints HO.out (by have := HML.out; omega))) ?_
      rintro e w5 ⟨rfl, hb5⟩
      have c0 := keepc hb5 c0
      have c1 := keepc hb5 c1
      have HI := Lib.hid (HI.out.below hb5)
      have HO := Lib.hid (ownsRow_below HO.out hb5)
      have hbr := Below.step hbr hb5
      clear hb5
      go_wp2_with fail
      refine Calls.mono (has_is HH.out a cap _ HI.out (by omega)) ?_
      rintro e w6 ⟨rfl, hb6⟩
      have c0 := keepc hb6 c0
      have c1 := keepc hb6 c1
      have HO := Lib.hid (ownsRow_below HO.out hb6)
      have hbr := Below.step hbr hb6
      have hs6 := hbr.size
      clear hb6
      go_wp2_with (first | (at_builtin; go_loud (refine wp_append_ints rfl (.tmp 38) (.tmp 40) rfl w3.heap.size (.slice a' m.length cap') m rfl (ownsRow_below HO.out (Below.new _ _)) _ 1 [x] 1 rfl rfl (ints_one_new w6 x) (by intro h; cases h) (by have := HML.out; simp; omega) (by simp; omega) ?_)))
      intro a2 cap2 w7 hown hgr _
      have HO2 := Lib.hid hown
      have HG2 := Lib.hid hgr
      clear hown hgr
      go_wp2
      go_roundw
      case rel =>
        refine ⟨k + 1, m ++ [x], a2, cap2, by omega, by go_num, by simp, HN1, HO2, ?_⟩
        exact (hbr.alloc hs6 _).grown HG2.out (by simp; omega) (by
          intro g hg
          rcases Option.eq_none_or_eq_some a' with h | ⟨ad, h⟩
          · subst h; cases hg
          · subst h; cases hg; exact Own.base_le HO.out rfl)
      case measure => simp [intOf]; omega
    · obtain rfl : k = L.length := by omega
      have h0 : 0 < m.length := by have := HML.out; omega
      obtain ⟨bb, off, rfl, hbb, hc⟩ := (Own.ints HO.out (by have := HML.out; omega)).at_lt h0
      obtain ⟨g, cur, hg, _⟩ := HO.out.len_pos_some h0
      cases hg
      have q0 := hc 0 h0
      have hD : m[0] = leadC F L v := by
        have : m[0]? = some (leadC F L v) := by rw [HM.out, seenTo, List.getElem?_map, List.getElem?_range (by omega)]; simp
        rw [List.getElem?_eq_getElem h0] at this
        simpa using this
      rw [hD] at q0
      obtain ⟨D, hDD⟩ : ∃ D, D = leadC F L v := ⟨_, rfl⟩
      rw [← hDD] at q0
      have q0 : wr.cell? ⟨bb, 0, none⟩ = some (.int .i64 D) := by simpa using q0
      have HD : Hid (leadC F L (v + (L.length : Int)) = D) := Lib.hid (by rw [lead_round HG.out (by omega), hDD])
      have HVK : Hid (votesC F L m = (L.length : Int)) := Lib.hid (by rw [HM.out]; exact seen_votes HG.out (by omega) (Nat.le_refl _))
      have HIm := Lib.hid (Own.ints HO.out (by have := HML.out; omega))
      have u1 : IntKind.i64.wrap (v + (L.length : Int)) = v + (L.length : Int) := IntWalk.i64_in _ (by omega)
      have hml1 : (0 : Int) < (m.length : Int) := by omega
      have HB := Lib.hid (Below.step HB.out hbr)
      clear hc hD hDD hbr
      go_wp2_with fail
      have hS : Below wr.heap.size wr wr := Below.refl _ _
      go_region_held3 (fun w' => w'.cell? ⟨w2.heap.size, 0, none⟩ = some (.int .i64 F) ∧ w'.cell? ⟨w2.heap.size, 1, none⟩ = some (.slice a L.length cap) ∧ w'.cell? ⟨bb, 0, none⟩ = some (.int .i64 D))
        (first
          | go_keep | assumption | exact ⟨keepc hS c0, keepc hS c1, keepc hS q0⟩ | exact ⟨keepc (Below.step hS (Below.new _ _)) c0, keepc (Below.step hS (Below.new _ _)) c1, keepc (Below.step hS (Below.new _ _)) q0⟩)
        ((first
          | (go_at_call 86; (with_reducible refine Calls.mono (votes_is HVK.out a cap _ _ _ ?hI ?hJ) ?_); (case hI => exact (Ints.below HI.out (by first | exact hS | exact hS.drew | exact Below.step hS (Below.new _ _)))); (case hJ => exact (Ints.below HIm.out (by first | exact hS | exact hS.drew | exact Below.step hS (Below.new _ _)))); rintro e wc ⟨rfl, hb⟩; have hS : Below wr.heap.size wr wc := (by first | exact Below.step hS hb | exact Below.stepD hS hb | exact Below.step (Below.step hS (Below.new _ _)) hb))
          | (go_at_call 77; (with_reducible refine Calls.mono (lead_is HD.out a cap _ ?hI) ?_); (case hI => exact (Ints.below HI.out (by first | exact hS | exact hS.drew | exact Below.step hS (Below.new _ _)))); rintro e wc ⟨rfl, hb⟩; have hS : Below wr.heap.size wr wc := (by first | exact Below.step hS hb | exact Below.stepD hS hb | exact Below.step (Below.step hS (Below.new _ _)) hb))))
      all_goals
        go_wp2
        go_ret
        exact ⟨rfl, Below.step HB.out hS⟩
end Go.Proofs.Ytldcpnabgpjgiaa.Walks
