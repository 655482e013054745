/-
  The walk of the law CrewCounts.
-/
import Derived.Test.YtldcpnabgpjgiaaCrewX
namespace Go.Proofs.Ytldcpnabgpjgiaa.Walks
open Go.RowKit Plain
set_option linter.unusedVariables false

theorem refRank_is {f : Int} {l r : List Int} {many V E : Int} (h : rankV f l r many = V ∧ rankE f l r many = E) (a : Option Addr) (cap : Nat) (a2 : Option Addr) (cap2 : Nat) (w : World) (hI : Ints w a l) (hR : Ints w a2 r) :
    Calls Try.prog 85 #[.agg #[.int .i64 f, .slice a l.length cap], .slice a2 r.length cap2, .int .i64 many] w fun e w' => e = .returned (.tuple #[.int .i64 V, .int .i64 E]) ∧ Below w.heap.size w w' := by
  obtain ⟨rfl, rfl⟩ := h; exact refRank_any f a cap l a2 cap2 r many w hI hR

set_option maxRecDepth 100000 in
set_option maxHeartbeats 4000000 in
theorem crewCounts_walk (f : Int) (a : Option Addr) (cap : Nat) (l : List Int) (b : Option Addr) (capb : Nat) (m : List Int) (many : Int) (w : World) (hI : Ints w a l) (hn : a = none → cap = 0) (hr : l.length ≤ 17592186044415) (hIm : Ints w b m) (hnm : b = none → capb = 0) (hrm : m.length ≤ 17592186044415) :
    Calls Try.prog 18 #[.agg #[.int .i64 f, .slice a l.length cap], .slice b m.length capb, .int .i64 many] w fun e w' => e = .returned (.bool true) ∧ Below w.heap.size w w' := by
  have HI := Lib.hid hI
  have HN := Lib.hid hn
  have HIm := Lib.hid hIm
  have HNm := Lib.hid hnm
  clear hI hn hIm hnm
  go_enter Try.func18, Try.ntmps18
  go_wp2_with fail
  obtain ⟨c0, c1⟩ := crew_box (w := w) (F := f) (v := .slice a l.length cap)
  have HA := Lib.hid (HI.out.alloc (.cells #[.int .i64 f, .slice a l.length cap] 24))
  have HM := Lib.hid (HIm.out.alloc (.cells #[.int .i64 f, .slice a l.length cap] 24))
  have HB := Lib.hid (Below.new w (.cells #[.int .i64 f, .slice a l.length cap] 24))
  generalize (w.alloc (.cells #[.int .i64 f, .slice a l.length cap] 24)) = w1 at *
  refine Calls.mono (copy_any f a cap l _ HA.out HN.out (by omega)) ?_
  rintro e w2 ⟨ai, capi, rfl, hOi, hb2⟩
  have c0 := keepc hb2 c0
  have c1 := keepc hb2 c1
  have HA := Lib.hid (HA.out.below hb2)
  have HM := Lib.hid (HM.out.below hb2)
  have HB := Lib.hid (Below.step HB.out hb2)
  have HNi := Lib.hid (Own.nocap hOi)
  have HIi := Lib.hid (Own.ints hOi (by omega))
  clear hOi hb2
  go_wp2_with fail
  refine Calls.mono (copyInts_any b capb m _ HM.out HNm.out (by omega)) ?_
  rintro e w3 ⟨an, capn, rfl, hOn, hb3⟩
  obtain ⟨d0, d1⟩ := crew_box (w := w3) (F := f) (v := .slice ai l.length capi)
  have hb33 := Below.step hb3 (Below.new w3 (.cells #[.int .i64 f, .slice ai l.length capi] 24))
  have c0 := keepc hb33 c0
  have c1 := keepc hb33 c1
  have HA := Lib.hid (HA.out.below hb33)
  have HM := Lib.hid (HM.out.below hb33)
  have HIi := Lib.hid (HIi.out.below hb33)
  have HB := Lib.hid (Below.step HB.out hb33)
  have HNn := Lib.hid (Own.nocap hOn)
  have HIn := Lib.hid ((Own.ints hOn (by omega)).alloc (.cells #[.int .i64 f, .slice ai l.length capi] 24))
  clear hOn hb3 hb33
  go_wp2_with fail
  generalize (w3.alloc (.cells #[.int .i64 f, .slice ai l.length capi] 24)) = w4 at *
  obtain ⟨V, hV⟩ : ∃ V, V = rankV f l m many := ⟨_, rfl⟩
  obtain ⟨E, hE⟩ : ∃ E, E = rankE f l m many := ⟨_, rfl⟩
  have HP : Hid (rankV f l m many = V ∧ rankE f l m many = E) := Lib.hid ⟨hV.symm, hE.symm⟩
  clear hV hE
  refine Calls.mono (rank_is HP.out ai capi an capn _ HIi.out HIn.out HNn.out) ?_
  rintro e w5 ⟨rfl, hb5⟩
  have c0 := keepc hb5 c0
  have c1 := keepc hb5 c1
  have d0 := keepc hb5 d0
  have d1 := keepc hb5 d1
  have HA := Lib.hid (HA.out.below hb5)
  have HM := Lib.hid (HM.out.below hb5)
  have HIi := Lib.hid (HIi.out.below hb5)
  have HIn := Lib.hid (HIn.out.below hb5)
  have HB := Lib.hid (Below.step HB.out hb5)
  clear hb5
  go_wp2_with fail
  refine Calls.mono (refRank_is HP.out a cap b capb _ HA.out HM.out) ?_
  rintro e w6 ⟨rfl, hb6⟩
  have c0 := keepc hb6 c0
  have c1 := keepc hb6 c1
  have d0 := keepc hb6 d0
  have d1 := keepc hb6 d1
  have HA := Lib.hid (HA.out.below hb6)
  have HM := Lib.hid (HM.out.below hb6)
  have HIi := Lib.hid (HIi.out.below hb6)
  have HIn := Lib.hid (HIn.out.below hb6)
  have HB := Lib.hid (Below.step HB.out hb6)
  clear hb6
  go_wp2_with fail
  obtain ⟨U, hU⟩ : ∃ U, U = votesC f l m := ⟨_, rfl⟩
  have HU := Lib.hid hU.symm
  clear hU
  have hS : Below w6.heap.size w6 w6 := Below.refl _ _
  go_region_held3 (fun w' => w'.cell? ⟨w.heap.size, 0, none⟩ = some (.int .i64 f) ∧ w'.cell? ⟨w.heap.size, 1, none⟩ = some (.slice a l.length cap) ∧ w'.cell? ⟨w3.heap.size, 0, none⟩ = some (.int .i64 f) ∧ w'.cell? ⟨w3.heap.size, 1, none⟩ = some (.slice ai l.length capi))
    (first
      | go_keep | assumption | exact ⟨keepc hS c0, keepc hS c1, keepc hS d0, keepc hS d1⟩ | exact ⟨keepc (Below.step hS (Below.new _ _)) c0, keepc (Below.step hS (Below.new _ _)) c1, keepc (Below.step hS (Below.new _ _)) d0, keepc (Below.step hS (Below.new _ _)) d1⟩)
    ((first
      | (go_at_call 86; (with_reducible refine Calls.mono (votes_is HU.out ai capi an capn _ ?hI ?hJ) ?_); (case hI => exact (Ints.below HIi.out (by first | exact hS | exact hS.drew | exact Below.step hS (Below.new _ _)))); (case hJ => exact (Ints.below HIn.out (by first | exact hS | exact hS.drew | exact Below.step hS (Below.new _ _)))); rintro e wc ⟨rfl, hb⟩; have hS : Below w6.heap.size w6 wc := (by first | exact Below.step hS hb | exact Below.stepD hS hb | exact Below.step (Below.step hS (Below.new _ _)) hb))
      | (go_at_call 87; (with_reducible refine Calls.mono (refVotes_is HU.out a cap b capb _ ?hI ?hJ) ?_); (case hI => exact (Ints.below HA.out (by first | exact hS | exact hS.drew | exact Below.step hS (Below.new _ _)))); (case hJ => exact (Ints.below HM.out (by first | exact hS | exact hS.drew | exact Below.step hS (Below.new _ _)))); rintro e wc ⟨rfl, hb⟩; have hS : Below w6.heap.size w6 wc := (by first | exact Below.step hS hb | exact Below.stepD hS hb | exact Below.step (Below.step hS (Below.new _ _)) hb))
      | (go_at_call 31; (with_reducible refine Calls.mono (same_true (l := l) (l' := l) rfl rfl ai a capi cap _ ?hI ?hJ) ?_); (case hI => exact (Ints.below HIi.out (by first | exact hS | exact hS.drew | exact Below.step hS (Below.new _ _)))); (case hJ => exact (Ints.below HA.out (by first | exact hS | exact hS.drew | exact Below.step hS (Below.new _ _)))); rintro e wc ⟨rfl, hb⟩; have hS : Below w6.heap.size w6 wc := (by first | exact Below.step hS hb | exact Below.stepD hS hb | exact Below.step (Below.step hS (Below.new _ _)) hb))
      | (go_at_call 36; (with_reducible refine Calls.mono (eq_true (l := m) (l' := m) rfl an b capn capb _ ?hI ?hJ) ?_); (case hI => exact (Ints.below HIn.out (by first | exact hS | exact hS.drew | exact Below.step hS (Below.new _ _)))); (case hJ => exact (Ints.below HM.out (by first | exact hS | exact hS.drew | exact Below.step hS (Below.new _ _)))); rintro e wc ⟨rfl, hb⟩; have hS : Below w6.heap.size w6 wc := (by first | exact Below.step hS hb | exact Below.stepD hS hb | exact Below.step (Below.step hS (Below.new _ _)) hb))
      | (go_at_call 71; (with_reducible refine Calls.mono (works_any _) ?_); rintro e wc ⟨rfl, hb⟩; have hS : Below w6.heap.size w6 wc := (by first | exact Below.step hS hb | exact Below.stepD hS hb | exact Below.step (Below.step hS (Below.new _ _)) hb))))
  all_goals
    go_wp2
    go_ret
    exact ⟨rfl, Below.step HB.out hS⟩
end Go.Proofs.Ytldcpnabgpjgiaa.Walks
