/-
  The walks of slices.BinarySearch, crew.Has, bastideref08.Has.
-/
import Derived.Test.YtldcpnabgpjgiaaCrewC
namespace Go.Proofs.Ytldcpnabgpjgiaa.Walks
open Go.RowKit Plain
set_option linter.unusedVariables false

/-- The search's head: what lies below i is less, what lies from j on isn't. -/
def Between (l : List Int) (n : Int) (i j : Nat) : Prop := l.Pairwise (· < ·) → (∀ t (h : t < l.length), t < i → l[t] < n) ∧ (∀ t (h : t < l.length), j ≤ t → n ≤ l[t])

theorem not_in_between {l : List Int} {n : Int} {i : Nat} (h : (∀ t (h : t < l.length), t < i → l[t] < n) ∧ (∀ t (h : t < l.length), i ≤ t → n ≤ l[t])) (hx : ∀ h : i < l.length, l[i] ≠ n) (hs : l.Pairwise (· < ·)) : decide (n ∈ l) = false := by
  rw [decide_eq_false_iff_not]
  intro hm
  obtain ⟨t, ht, e⟩ := List.getElem_of_mem hm
  rcases Nat.lt_trichotomy t i with h1 | h1 | h1
  · have := h.1 t ht h1; omega
  · subst h1; exact hx ht e
  · have h2 := h.2 i (by omega) (Nat.le_refl _)
    have h3 := sorted_get hs (show i < l.length by omega) ht h1
    omega

def BinPost (l : List Int) (n : Int) (w : World) (e : Ending) (w' : World) : Prop := (∃ (i : Int) (q : Bool), e = .returned (.tuple #[.int .i64 i, .bool q]) ∧ Hid (l.Pairwise (· < ·) → q = decide (n ∈ l))) ∧ w = w'

set_option maxHeartbeats 1000000 in
theorem binary_any (a : Option Addr) (cap : Nat) (l : List Int) (n : Int) (w : World) (hI : Ints w a l) (hr : l.length ≤ 140737488351232) :
    Calls Try.prog 110 #[.slice a l.length cap, .int .i64 n] w (BinPost l n w) := by
  have HI := Lib.hid hI
  clear hI
  go_enter Try.func110, Try.ntmps110
  go_wp2
  go_loop [7, 8] (fun iv jv => ∃ i j : Nat, i ≤ j ∧ j ≤ l.length ∧ iv = .int .i64 i ∧ jv = .int .i64 j ∧ Hid (Between l n i j)) (fun iv jv => (intOf jv).toNat - (intOf iv).toNat)
  case atStart => exact ⟨0, l.length, by omega, by omega, rfl, rfl, Lib.hid (fun _ => ⟨fun t h h' => by omega, fun t h h' => by omega⟩)⟩
  case round =>
    obtain ⟨i, j, hij, hjl, rfl, rfl, HB⟩ := hrel
    by_cases hlt : i < j
    · have h1 : i ≤ (i + j) / 2 := by omega
      have h2 : (i + j) / 2 < j := by omega
      obtain ⟨b, off, rfl, hbb, hc⟩ := HI.out.at_lt (show (i + j) / 2 < l.length by omega)
      have hcell := hc ((i + j) / 2) (by omega)
      obtain ⟨x, hx⟩ : ∃ x, x = l[(i + j) / 2]'(by omega) := ⟨_, rfl⟩
      rw [← hx] at hcell
      have HX := Lib.hid hx
      clear hx hc
      go_wp2_with fail
      refine Calls.mono (less_any x n _) ?_
      rintro e w' ⟨rfl, rfl⟩
      by_cases hxn : x < n
      · go_wp2
        go_round
        case rel =>
          refine ⟨(i + j) / 2 + 1, j, by omega, by omega, by go_num, rfl, Lib.hid fun hs => ⟨fun t ht h' => ?_, (HB.out hs).2⟩⟩
          rcases Nat.lt_or_ge t ((i + j) / 2) with h3 | h3
          · have := sorted_get hs ht (show (i + j) / 2 < l.length by omega) h3
            rw [← HX.out] at this
            omega
          · obtain rfl : t = (i + j) / 2 := by omega
            rw [← HX.out]; exact hxn
        case measure => simp [intOf]; omega
      · go_wp2
        go_round
        case rel =>
          refine ⟨i, (i + j) / 2, by omega, by omega, rfl, by go_num, Lib.hid fun hs => ⟨(HB.out hs).1, fun t ht h' => ?_⟩⟩
          rcases Nat.lt_or_ge ((i + j) / 2) t with h3 | h3
          · have := sorted_get hs (show (i + j) / 2 < l.length by omega) ht h3
            rw [← HX.out] at this
            omega
          · obtain rfl : t = (i + j) / 2 := by omega
            rw [← HX.out]; omega
        case measure => simp [intOf]; omega
    · obtain rfl : i = j := by omega
      by_cases hi : i < l.length
      · obtain ⟨b, off, rfl, hbb, hc⟩ := HI.out.at_lt hi
        have hcell := hc i hi
        obtain ⟨x, hx⟩ : ∃ x, x = l[i] := ⟨_, rfl⟩
        rw [← hx] at hcell
        have HX := Lib.hid hx
        clear hx hc
        by_cases hxn : x = n
        · have hq : (x == n) = true := by simp [hxn]
          have HXN := Lib.hid hxn
          clear hxn
          go_wp2
          go_ret2
          exact ⟨⟨_, _, rfl, Lib.hid fun hs => by rw [eq_comm, decide_eq_true_eq, ← HXN.out, HX.out]; exact List.getElem_mem _⟩, rfl⟩
        · have hq : (x == n) = false := by simp [hxn]
          have HXN := Lib.hid hxn
          clear hxn
          go_wp2_with fail
          refine Calls.mono (isNaN_any x _) ?_
          rintro e w' ⟨rfl, rfl⟩
          go_wp2
          go_ret2
          exact ⟨⟨_, _, rfl, Lib.hid fun hs => by rw [not_in_between (HB.out hs) (fun h => by rw [← HX.out]; exact HXN.out) hs]⟩, rfl⟩
      · go_wp2
        go_ret2
        exact ⟨⟨_, _, rfl, Lib.hid fun hs => by rw [not_in_between (HB.out hs) (fun h => absurd h hi) hs]⟩, rfl⟩

theorem has_any (f : Int) (a : Option Addr) (cap : Nat) (l : List Int) (n : Int) (w : World) (hI : Ints w a l) (hr : l.length ≤ 140737488351232) :
    Calls Try.prog 79 #[.agg #[.int .i64 f, .slice a l.length cap], .int .i64 n] w fun e w' => e = .returned (.bool (hasC f l n)) ∧ Below w.heap.size w w' := by
  have HI := Lib.hid hI
  clear hI
  go_enter Try.func79, Try.ntmps79
  go_wp2_with fail
  refine Calls.mono (binary_any a cap l n _ (HI.out.alloc _) hr) ?_
  rintro e w' ⟨⟨i, q, rfl, HQ⟩, rfl⟩
  go_wp2_with fail
  refine Calls.mono (check_any f a cap l _ (HI.out.alloc _)) ?_
  rintro e w1 ⟨rfl, hb⟩
  obtain ⟨c0, c1, hb1⟩ := boxed_crew hb
  cases hg : goodC f l with
  | true =>
    have HG := Lib.hid hg
    rw [errC_good hg]
    clear hg hb
    go_wp2
    go_ret
    exact ⟨ret_bool (by rw [HQ.out (good_sorted HG.out)]; simp [hasC, HG.out]), hb1⟩
  | false =>
    have HG := Lib.hid hg
    rw [errC_bad hg]
    clear hg hb
    go_wp2
    go_ret
    exact ⟨ret_bool (by simp [hasC, HG.out]), hb1⟩

theorem refHas_any (f : Int) (a : Option Addr) (cap : Nat) (l : List Int) (n : Int) (w : World) (hI : Ints w a l) :
    Calls Try.prog 80 #[.agg #[.int .i64 f, .slice a l.length cap], .int .i64 n] w fun e w' => e = .returned (.bool (hasC f l n)) ∧ Below w.heap.size w w' := by
  have HI := Lib.hid hI
  clear hI
  go_enter Try.func80, Try.ntmps80
  go_wp2_with fail
  refine Calls.mono (refCheck_any f a cap l _ (HI.out.alloc _)) ?_
  rintro e w1 ⟨rfl, hb⟩
  obtain ⟨c0, c1, hb1⟩ := boxed_crew hb
  cases hg : goodC f l with
  | true =>
    have HG := Lib.hid hg
    rw [errC_good hg]
    clear hg hb
    go_wp2_with fail
    refine Calls.mono (in_any a cap l n _ (HI.out.below hb1)) ?_
    rintro e w' ⟨rfl, rfl⟩
    go_wp2
    go_ret
    exact ⟨ret_bool (by simp [hasC, HG.out]), hb1⟩
  | false =>
    have HG := Lib.hid hg
    rw [errC_bad hg]
    clear hg hb
    go_wp2
    go_ret
    exact ⟨ret_bool (by simp [hasC, HG.out]), hb1⟩
end Go.Proofs.Ytldcpnabgpjgiaa.Walks
