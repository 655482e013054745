/-
  The walks of Most, Some, Leader (the program and the answer), of BinarySearch and Has.
-/
import Derived.Test.YtldcpnabgpjgiaaCrewB
namespace Go.Proofs.Ytldcpnabgpjgiaa.Walks
open Go.RowKit Plain
set_option linter.unusedVariables false

/-- The facts on a boxed crew behind a call that made memory alone. -/
theorem boxed_crew {w w1 : World} {f : Int} {a : Option Addr} {n cap : Nat} (hb : Below (w.alloc (.cells #[.int .i64 f, .slice a n cap] 24)).heap.size (w.alloc (.cells #[.int .i64 f, .slice a n cap] 24)) w1) :
    w1.cell? ⟨w.heap.size, 0, none⟩ = some (.int .i64 f) ∧ w1.cell? ⟨w.heap.size, 1, none⟩ = some (.slice a n cap) ∧ Below w.heap.size w w1 := by
  have e0 : (w.alloc (.cells #[.int .i64 f, .slice a n cap] 24)).cell? ⟨w.heap.size, 0, none⟩ = some (.int .i64 f) := cell_of_row _ _ _ _ _ _ (heap_alloc_new _ _)
  have e1 : (w.alloc (.cells #[.int .i64 f, .slice a n cap] 24)).cell? ⟨w.heap.size, 1, none⟩ = some (.slice a n cap) := cell_of_row _ _ _ _ _ _ (heap_alloc_new _ _)
  exact ⟨(hb.cell (by exact block_lt_of_cell e0)).trans e0, (hb.cell (by exact block_lt_of_cell e1)).trans e1, Below.step (Below.new _ _) hb⟩

theorem most_any (f : Int) (a : Option Addr) (cap : Nat) (l : List Int) (w : World) (hI : Ints w a l) :
    Calls Try.prog 73 #[.agg #[.int .i64 f, .slice a l.length cap]] w fun e w' => e = .returned (.int .i64 (mostC f l)) ∧ Below w.heap.size w w' := by
  have HI := Lib.hid hI
  clear hI
  cases hg : goodC f l with
  | true =>
    have HG := Lib.hid hg
    obtain ⟨g1, g2, g3⟩ := goodC_len hg
    have he := errC_good hg
    clear hg g3
    go_enter Try.func73, Try.ntmps73
    go_wp2_with fail
    refine Calls.mono (check_any f a cap l _ (HI.out.alloc _)) ?_
    rintro e w1 ⟨rfl, hb⟩
    obtain ⟨c0, c1, hb1⟩ := boxed_crew hb
    rw [he]
    clear he hb
    go_wp2
    go_ret
    exact ⟨ret_int (by simp [mostC, HG.out]), hb1⟩
  | false =>
    have HG := Lib.hid hg
    have he := errC_bad hg
    clear hg
    go_enter Try.func73, Try.ntmps73
    go_wp2_with fail
    refine Calls.mono (check_any f a cap l _ (HI.out.alloc _)) ?_
    rintro e w1 ⟨rfl, hb⟩
    obtain ⟨c0, c1, hb1⟩ := boxed_crew hb
    rw [he]
    clear he hb
    go_wp2
    go_ret
    exact ⟨ret_int (by simp [mostC, HG.out]), hb1⟩

theorem refMost_any (f : Int) (a : Option Addr) (cap : Nat) (l : List Int) (w : World) (hI : Ints w a l) :
    Calls Try.prog 74 #[.agg #[.int .i64 f, .slice a l.length cap]] w fun e w' => e = .returned (.int .i64 (mostC f l)) ∧ Below w.heap.size w w' := by
  have HI := Lib.hid hI
  clear hI
  cases hg : goodC f l with
  | true =>
    have HG := Lib.hid hg
    obtain ⟨g1, g2, g3⟩ := goodC_len hg
    have he := errC_good hg
    clear hg g3
    go_enter Try.func74, Try.ntmps74
    go_wp2_with fail
    refine Calls.mono (refCheck_any f a cap l _ (HI.out.alloc _)) ?_
    rintro e w1 ⟨rfl, hb⟩
    obtain ⟨c0, c1, hb1⟩ := boxed_crew hb
    rw [he]
    clear he hb
    go_wp2
    go_ret
    exact ⟨ret_int (by simp [mostC, HG.out]), hb1⟩
  | false =>
    have HG := Lib.hid hg
    have he := errC_bad hg
    clear hg
    go_enter Try.func74, Try.ntmps74
    go_wp2_with fail
    refine Calls.mono (refCheck_any f a cap l _ (HI.out.alloc _)) ?_
    rintro e w1 ⟨rfl, hb⟩
    obtain ⟨c0, c1, hb1⟩ := boxed_crew hb
    rw [he]
    clear he hb
    go_wp2
    go_ret
    exact ⟨ret_int (by simp [mostC, HG.out]), hb1⟩

theorem some_any (f : Int) (a : Option Addr) (cap : Nat) (l : List Int) (w : World) (hI : Ints w a l) :
    Calls Try.prog 75 #[.agg #[.int .i64 f, .slice a l.length cap]] w fun e w' => e = .returned (.int .i64 (someC f l)) ∧ Below w.heap.size w w' := by
  have HI := Lib.hid hI
  clear hI
  cases hg : goodC f l with
  | true =>
    have HG := Lib.hid hg
    obtain ⟨g1, g2, g3⟩ := goodC_len hg
    have he := errC_good hg
    clear hg g3
    go_enter Try.func75, Try.ntmps75
    go_wp2_with fail
    refine Calls.mono (check_any f a cap l _ (HI.out.alloc _)) ?_
    rintro e w1 ⟨rfl, hb⟩
    obtain ⟨c0, c1, hb1⟩ := boxed_crew hb
    rw [he]
    clear he hb
    go_wp2
    go_ret
    exact ⟨ret_int (by simp [someC, HG.out]), hb1⟩
  | false =>
    have HG := Lib.hid hg
    have he := errC_bad hg
    clear hg
    go_enter Try.func75, Try.ntmps75
    go_wp2_with fail
    refine Calls.mono (check_any f a cap l _ (HI.out.alloc _)) ?_
    rintro e w1 ⟨rfl, hb⟩
    obtain ⟨c0, c1, hb1⟩ := boxed_crew hb
    rw [he]
    clear he hb
    go_wp2
    go_ret
    exact ⟨ret_int (by simp [someC, HG.out]), hb1⟩

theorem refSome_any (f : Int) (a : Option Addr) (cap : Nat) (l : List Int) (w : World) (hI : Ints w a l) :
    Calls Try.prog 76 #[.agg #[.int .i64 f, .slice a l.length cap]] w fun e w' => e = .returned (.int .i64 (someC f l)) ∧ Below w.heap.size w w' := by
  have HI := Lib.hid hI
  clear hI
  cases hg : goodC f l with
  | true =>
    have HG := Lib.hid hg
    obtain ⟨g1, g2, g3⟩ := goodC_len hg
    have he := errC_good hg
    clear hg g3
    go_enter Try.func76, Try.ntmps76
    go_wp2_with fail
    refine Calls.mono (refCheck_any f a cap l _ (HI.out.alloc _)) ?_
    rintro e w1 ⟨rfl, hb⟩
    obtain ⟨c0, c1, hb1⟩ := boxed_crew hb
    rw [he]
    clear he hb
    go_wp2
    go_ret
    exact ⟨ret_int (by simp [someC, HG.out]), hb1⟩
  | false =>
    have HG := Lib.hid hg
    have he := errC_bad hg
    clear hg
    go_enter Try.func76, Try.ntmps76
    go_wp2_with fail
    refine Calls.mono (refCheck_any f a cap l _ (HI.out.alloc _)) ?_
    rintro e w1 ⟨rfl, hb⟩
    obtain ⟨c0, c1, hb1⟩ := boxed_crew hb
    rw [he]
    clear he hb
    go_wp2
    go_ret
    exact ⟨ret_int (by simp [someC, HG.out]), hb1⟩

set_option maxHeartbeats 400000 in
theorem leader_any (f : Int) (a : Option Addr) (cap : Nat) (l : List Int) (v : Int) (w : World) (hI : Ints w a l) :
    Calls Try.prog 77 #[.agg #[.int .i64 f, .slice a l.length cap], .int .i64 v] w fun e w' => e = .returned (.int .i64 (leadC f l v)) ∧ Below w.heap.size w w' := by
  have HI := Lib.hid hI
  clear hI
  cases hg : goodC f l with
  | true =>
    have HG := Lib.hid hg
    obtain ⟨g1, g2, g3⟩ := goodC_len hg
    have he := errC_good hg
    have hl0 : 0 < l.length := by omega
    have hl7 : l.length ≤ 7 := by omega
    clear hg g3 g1 g2
    by_cases hv : v < 0
    · go_enter Try.func77, Try.ntmps77
      go_wp2_with fail
      refine Calls.mono (check_any f a cap l _ (HI.out.alloc _)) ?_
      rintro e w1 ⟨rfl, hb⟩
      obtain ⟨c0, c1, hb1⟩ := boxed_crew hb
      rw [he]
      clear he hb
      go_wp2
      go_ret
      exact ⟨ret_int (by simp [leadC, HG.out, show ¬ 0 ≤ v by omega]), hb1⟩
    · have hm0 : 0 ≤ v % (l.length : Int) := Int.emod_nonneg _ (by omega)
      have hm1 : v % (l.length : Int) < (l.length : Int) := Int.emod_lt_of_pos _ (by omega)
      obtain ⟨k, hk⟩ := Int.eq_ofNat_of_zero_le hm0
      have hkl : k < l.length := by omega
      have HK := Lib.hid hk
      go_enter Try.func77, Try.ntmps77
      go_wp2_with fail
      refine Calls.mono (check_any f a cap l _ (HI.out.alloc _)) ?_
      rintro e w1 ⟨rfl, hb⟩
      obtain ⟨c0, c1, hb1⟩ := boxed_crew hb
      obtain ⟨b, off, rfl, hbb, hc⟩ := (HI.out.below hb1).at_lt hkl
      have hcell := hc k hkl
      rw [he]
      clear he hb hc
      go_wp2_with fail
      go_quiet (fail)
      go_wp2
      go_ret
      exact ⟨ret_int (by simp [leadC, HG.out, show 0 ≤ v by omega, HK.out, hkl]), below_drewN hb1 _⟩
  | false =>
    have HG := Lib.hid hg
    have he := errC_bad hg
    clear hg
    go_enter Try.func77, Try.ntmps77
    go_wp2_with fail
    refine Calls.mono (check_any f a cap l _ (HI.out.alloc _)) ?_
    rintro e w1 ⟨rfl, hb⟩
    obtain ⟨c0, c1, hb1⟩ := boxed_crew hb
    rw [he]
    clear he hb
    go_wp2
    go_ret
    exact ⟨ret_int (by simp [leadC, HG.out]), hb1⟩

set_option maxHeartbeats 400000 in
theorem refLeader_any (f : Int) (a : Option Addr) (cap : Nat) (l : List Int) (v : Int) (w : World) (hI : Ints w a l) :
    Calls Try.prog 78 #[.agg #[.int .i64 f, .slice a l.length cap], .int .i64 v] w fun e w' => e = .returned (.int .i64 (leadC f l v)) ∧ Below w.heap.size w w' := by
  have HI := Lib.hid hI
  clear hI
  cases hg : goodC f l with
  | true =>
    have HG := Lib.hid hg
    obtain ⟨g1, g2, g3⟩ := goodC_len hg
    have he := errC_good hg
    have hl0 : 0 < l.length := by omega
    have hl7 : l.length ≤ 7 := by omega
    clear hg g3 g1 g2
    by_cases hv : v < 0
    · go_enter Try.func78, Try.ntmps78
      go_wp2_with fail
      refine Calls.mono (refCheck_any f a cap l _ (HI.out.alloc _)) ?_
      rintro e w1 ⟨rfl, hb⟩
      obtain ⟨c0, c1, hb1⟩ := boxed_crew hb
      rw [he]
      clear he hb
      go_wp2
      go_ret
      exact ⟨ret_int (by simp [leadC, HG.out, show ¬ 0 ≤ v by omega]), hb1⟩
    · have hm0 : 0 ≤ v % (l.length : Int) := Int.emod_nonneg _ (by omega)
      have hm1 : v % (l.length : Int) < (l.length : Int) := Int.emod_lt_of_pos _ (by omega)
      obtain ⟨k, hk⟩ := Int.eq_ofNat_of_zero_le hm0
      have hkl : k < l.length := by omega
      have HK := Lib.hid hk
      go_enter Try.func78, Try.ntmps78
      go_wp2_with fail
      refine Calls.mono (refCheck_any f a cap l _ (HI.out.alloc _)) ?_
      rintro e w1 ⟨rfl, hb⟩
      obtain ⟨c0, c1, hb1⟩ := boxed_crew hb
      obtain ⟨b, off, rfl, hbb, hc⟩ := (HI.out.below hb1).at_lt hkl
      have hcell := hc k hkl
      rw [he]
      clear he hb hc
      go_wp2_with fail
      go_quiet (fail)
      go_wp2
      go_ret
      exact ⟨ret_int (by simp [leadC, HG.out, show 0 ≤ v by omega, HK.out, hkl]), below_drewN hb1 _⟩
  | false =>
    have HG := Lib.hid hg
    have he := errC_bad hg
    clear hg
    go_enter Try.func78, Try.ntmps78
    go_wp2_with fail
    refine Calls.mono (refCheck_any f a cap l _ (HI.out.alloc _)) ?_
    rintro e w1 ⟨rfl, hb⟩
    obtain ⟨c0, c1, hb1⟩ := boxed_crew hb
    rw [he]
    clear he hb
    go_wp2
    go_ret
    exact ⟨ret_int (by simp [leadC, HG.out]), hb1⟩

end Go.Proofs.Ytldcpnabgpjgiaa.Walks
