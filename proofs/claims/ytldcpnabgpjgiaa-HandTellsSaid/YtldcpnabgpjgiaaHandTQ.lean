/-
  The document's Crew.
-/
import Derived.Test.YtldcpnabgpjgiaaHandTI
import Derived.IntWalk
import Derived.Deep.RegionHeld3
import Derived.Deep.LoopGhost
namespace Go.Proofs.Ytldcpnabgpjgiaa.WalksT
open Go.Proofs.Ytldcpnabgpjgiaa.Walks
open Go.RowKit Plain
set_option linter.unusedVariables false

theorem RefX.len2 {w : World} {p base : Nat} {B : Nat → Prop} {f : Int} {l : List Int} {O : List (Int × Int × List Int)} {E : List (Int × Int × Int × Int)} (h : RefX w p base B f l O E) :
    ∃ a cap, w.cell? ⟨p, 2, none⟩ = some (.slice a O.length cap) := by
  by_cases h0 : 0 < O.length
  · obtain ⟨g, cap, h1, _⟩ := h.orders h0
    exact ⟨_, _, h1⟩
  · obtain rfl : O = [] := List.eq_nil_of_length_eq_zero (by omega)
    obtain ⟨v, h1, a, cap, rfl⟩ := h.noOrders
    exact ⟨_, _, h1⟩
theorem alike_zero (e : Int) (m : List Int) : alike [] e m = 0 := rfl
theorem alike_le (O : List (Int × Int × List Int)) (e : Int) (m : List Int) : alike O e m ≤ O.length := by unfold alike; exact List.length_filter_le _ _

set_option maxRecDepth 100000 in
set_option maxHeartbeats 4000000 in
theorem refCrew_any (p base : Nat) (B : Nat → Prop) (f : Int) (l : List Int) (O : List (Int × Int × List Int)) (E : List (Int × Int × Int × Int)) (e : Int) (w : World)
    (hR : RefX w p base B f l O E) (hO : O.length ≤ 1000) (hS : ∀ x ∈ O, x.2.2.length ≤ 7) (hf : 0 ≤ f) (hf2 : f ≤ 2) :
    Calls Try.prog 40 #[.pointer (some ⟨p, 0, none⟩), .int .i64 e] w (CrewIs f (crewOf f O e) w) := by
  have HR := Lib.hid hR
  have HS := Lib.hid hS
  clear hR hS
  go_enter Try.func40, Try.ntmps40
  go_wp2_with fail
  have hb0 := Below.new w (.cells #[.int .i64 0, .slice none 0 0] 24)
  have q0 : (w.alloc (.cells #[.int .i64 0, .slice none 0 0] 24)).cell? ⟨w.heap.size, 0, none⟩ = some (.int .i64 0) := crew_box2.1
  have q1 : (w.alloc (.cells #[.int .i64 0, .slice none 0 0] 24)).cell? ⟨w.heap.size, 1, none⟩ = some (.slice none 0 0) := crew_box2.2
  have q2 : (w.alloc (.cells #[.int .i64 0, .slice none 0 0] 24)).frozen? ⟨w.heap.size, 0, none⟩ = false := crew_boxF.1
  have q3 : (w.alloc (.cells #[.int .i64 0, .slice none 0 0] 24)).frozen? ⟨w.heap.size, 1, none⟩ = false := crew_boxF.2
  have hs0 : w.heap.size < (w.alloc (.cells #[.int .i64 0, .slice none 0 0] 24)).heap.size := by simp
  generalize (w.alloc (.cells #[.int .i64 0, .slice none 0 0] 24)) = w0 at *
  have HB0 := Lib.hid hb0
  clear hb0
  go_loopw [6] (fun iv wr => ∃ k : Nat, k ≤ O.length ∧ iv = .int .i64 k ∧ Hid (crewOf f (O.take k) e = none) ∧ Below w0.heap.size w0 wr) (fun iv _ => O.length - (intOf iv).toNat)
  case atStart => exact ⟨0, by omega, rfl, Lib.hid rfl, Below.refl _ _⟩
  case round =>
    obtain ⟨k, hk, rfl, HN, hbr⟩ := hrel
    have q0 := keepc hbr q0
    have q1 := keepc hbr q1
    have q2 := keepf hbr hs0 q2
    have q3 := keepf hbr hs0 q3
    have HBr := Lib.hid (Below.step HB0.out hbr)
    have HRr := Lib.hid (HR.out.below HBr.out)
    have hsr : w.heap.size < wr.heap.size := by have := hbr.size; omega
    by_cases hlt : k < O.length
    · obtain ⟨g, gcap, hv, hle, hmx, hat⟩ := HR.out.orders (by omega)
      obtain ⟨y0, y1, ak, capk, y2, yI, yc⟩ := hat k hlt
      have hgw : g < w.heap.size := block_lt_of_cell y2
      have hpw : p < w.heap.size := block_lt_of_cell hv
      have HAT := Lib.hid hat
      have hM := HS.out _ (List.getElem_mem hlt)
      obtain ⟨ek, hek⟩ : ∃ x, x = O[k].2.1 := ⟨_, rfl⟩
      obtain ⟨mk, hmk⟩ : ∃ x, x = O[k].2.2 := ⟨_, rfl⟩
      have hT := crewOf_take_succ hlt HN.out
      rw [← hek] at y1
      rw [← hmk] at y2 yI hM
      rw [← hek, ← hmk] at hT
      have HT := Lib.hid hT
      have HYI := Lib.hid yI
      have HYC := Lib.hid yc
      have y1 := keepc HBr.out y1
      have y2 := keepc HBr.out y2
      have hv := keepc HBr.out hv
      clear hat hek hmk yI yc y0 hT
      by_cases hee : ek = e
      case neg =>
        go_wp2
        go_roundw
        case rel => exact ⟨k + 1, by omega, by go_num, Lib.hid (by rw [HT.out, if_neg (fun hh => hee hh.1)]), hbr⟩
        case measure => simp [intOf]; omega
      subst hee
      go_wp2_with fail
      go_loopw [8, 7] (fun jv mv wi => ∃ j t : Nat, j ≤ k + 1 ∧ t ≤ j ∧ jv = .int .i64 j ∧ mv = .int .i64 t ∧ Hid (t = alike (O.take j) ek mk) ∧ Below wr.heap.size wr wi) (fun jv _ _ => k + 1 - (intOf jv).toNat)
      case atStart => exact ⟨0, 0, by omega, by omega, rfl, rfl, Lib.hid rfl, Below.refl _ _⟩
      case round =>
        obtain ⟨j, t, hj, htj, rfl, rfl, HTJ, hbi⟩ := hrel
        have HBi := Lib.hid (Below.step HBr.out hbi)
        have y1 := keepc hbi y1
        have y2 := keepc hbi y2
        have hv := keepc hbi hv
        have q0 := keepc hbi q0
        have q1 := keepc hbi q1
        have q2 := keepf hbi hsr q2
        have q3 := keepf hbi hsr q3
        have hsi : w.heap.size < wr.heap.size := by have := hbi.size; omega
        by_cases hlj : j < k + 1
        · obtain ⟨z0, z1, aj, capj, z2, zI, zc⟩ := HAT.out j (by omega)
          obtain ⟨ej, hej⟩ : ∃ x, x = O[j].2.1 := ⟨_, rfl⟩
          obtain ⟨mj, hmj⟩ : ∃ x, x = O[j].2.2 := ⟨_, rfl⟩
          have hA := alike_take_succ (O := O) (k := j) (by omega) ek mk
          rw [← hej] at z1
          rw [← hmj] at z2 zI
          rw [← hej, ← hmj, ← HTJ.out] at hA
          have HA := Lib.hid hA
          have hI1 := zI.below HBi.out
          have hI2 := HYI.out.below HBi.out
          have z1 := keepc HBi.out z1
          have z2 := keepc HBi.out z2
          have hk0 : (0 : Int) ≤ (k : Int) := by omega
          have hk1 : (k : Int) < (O.length : Int) := by omega
          have hj0 : (0 : Int) ≤ (j : Int) := by omega
          have hj1 : (j : Int) < (O.length : Int) := by omega
          clear z0 zI zc hej hmj hA
          by_cases hje : ej = ek
          · subst hje
            go_wp2_with fail
            go_region_held3 (fun w' => w'.cell? ⟨p, 2, none⟩ = some (.slice (some ⟨g, 0, none⟩) O.length gcap) ∧ w'.cell? ⟨g, j * 3 + 1, none⟩ = some (.int .i64 ej) ∧ w'.cell? ⟨g, j * 3 + 2, none⟩ = some (.slice aj mj.length capj) ∧ w'.cell? ⟨g, k * 3 + 2, none⟩ = some (.slice ak mk.length capk))
              (first | go_keep | exact ⟨keepc hb5 hv, keepc hb5 z1, keepc hb5 z2, keepc hb5 y2⟩)
              ((first
                | (go_at_call 36; (with_reducible refine Calls.mono (eqInts_any aj ak capj capk mj mk _ ?_ ?_) ?_); (first | exact hI1 | exact hI1.drew); (first | exact hI2 | exact hI2.drew); rintro e1 wd ⟨rfl, hb5⟩; have hb5 : Below wr.heap.size wr wd := (by first | exact hb5 | exact Below.step (Below.refl _ _).drew hb5))))
            by_cases hm : mj = mk
            · have hd : decide (mj = mk) = true := decide_eq_true hm
              go_wp2
              go_roundw
              case rel => exact ⟨j + 1, t + 1, by omega, by omega, by go_num, by go_num, Lib.hid (by rw [HA.out, if_pos ⟨by trivial, hm⟩]), Below.step hbi hb5⟩
              case measure => simp [intOf]; omega
            · have hd : decide (mj = mk) = false := decide_eq_false hm
              go_wp2
              go_roundw
              case rel => exact ⟨j + 1, t, by omega, by omega, by go_num, rfl, Lib.hid (by rw [HA.out, if_neg (fun hh => hm hh.2)]; rfl), Below.step hbi hb5⟩
              case measure => simp [intOf]; omega
          · have hd : (ej == ek) = false := beq_eq_false_iff_ne.2 hje
            go_wp2_with fail
            go_quiet (fail)
            go_wp2
            go_roundw
            case rel => exact ⟨j + 1, t, by omega, by omega, by go_num, rfl, Lib.hid (by rw [HA.out, if_neg (fun hh => hje hh.1)]; rfl), below_drewN hbi _⟩
            case measure => simp [intOf]; omega
        · have hjk : j = k + 1 := by omega
          subst hjk
          have c0 := keepc HBi.out HR.out.c0
          by_cases htf : (t : Int) = f + 1
          · have hk0 : (0 : Int) ≤ (k : Int) := by omega
            have hk1 : (k : Int) < (O.length : Int) := by omega
            have hI2 := HYI.out.below HBi.out
            have hTk : crewOf f (O.take (k + 1)) ek = some mk := by
              rw [HT.out, ← HTJ.out, if_pos]
              exact ⟨by trivial, htf⟩
            have HTK := Lib.hid (crewOf_take hTk)
            clear hTk
            go_wp2_with fail
            go_region_with
              ((first
                | (go_at_call 33; (with_reducible refine Calls.mono (copyInts_any ak capk mk _ ?_ HYC.out ?_) ?_); (first | exact hI2 | exact hI2.drew); omega; rintro e1 wd ⟨a5, cap5, rfl, hO5, hb5⟩; have hb5 : Below wr.heap.size wr wd := (by first | exact hb5 | exact Below.step (Below.refl _ _).drew hb5); have q0 := keepc hb5 q0; have q1 := keepc hb5 q1; have q2 := keepf hb5 hsi q2; have q3 := keepf hb5 hsi q3; have c0 := keepc hb5 c0; have hv := keepc hb5 hv; have y2 := keepc hb5 y2)))
            all_goals
              go_wp2
              have r1 := put2_load (x := .int .i64 f) (y := .slice a5 mk.length cap5) q0 q1
              refine bodyPost_ret (v := .tuple #[.agg #[.int .i64 f, .slice a5 mk.length cap5], .bool true]) (by simp [results, Try.results40, asAddr, r1, Result.andThen, Act.put]) rfl ?_
              rw [HTK.out]
              exact ⟨a5, cap5, rfl, ownsRow_base (Nat.le_of_lt hsi) (ownsRow_setCell_below (ownsRow_setCell_below hO5 (a := ⟨w.heap.size, 0, none⟩) hsi (.int .i64 f)) (a := ⟨w.heap.size, 1, none⟩) hsi (.slice a5 mk.length cap5)), put2_below (Below.step HBi.out hb5) (Nat.le_refl _)⟩
          · go_wp2
            go_roundw
            case rel => exact ⟨k + 1, by omega, by go_num, Lib.hid (by rw [HT.out, if_neg (fun hh => htf (by rw [HTJ.out]; exact hh.2))]), Below.step hbr hbi⟩
            case measure => simp [intOf]; omega
    · have hkk : k = O.length := by omega
      subst hkk
      obtain ⟨a2, cap2, hv⟩ := HRr.out.len2
      have HE : Hid (crewOf f O e = none) := Lib.hid (by have := HN.out; rwa [List.take_length] at this)
      go_wp2
      have r1 := put2_load (x := .int .i64 0) (y := .slice none 0 0) q0 q1
      refine bodyPost_ret (v := .tuple #[.agg #[.int .i64 0, .slice none 0 0], .bool false]) (by simp [results, Try.results40, asAddr, r1, Result.andThen]) rfl ?_
      rw [HE.out]
      exact ⟨none, 0, rfl, World.ownsRow_nil _ _ _ _, put2_below HBr.out (Nat.le_refl _)⟩
end Go.Proofs.Ytldcpnabgpjgiaa.WalksT
