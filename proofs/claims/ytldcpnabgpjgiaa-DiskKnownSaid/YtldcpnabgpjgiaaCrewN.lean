/-
  The walk of crew.Rank.
-/
import Derived.Test.YtldcpnabgpjgiaaCrewM
import Derived.Test.YtldcpnabgpjgiaaCrewN0
namespace Go.Proofs.Ytldcpnabgpjgiaa.Walks
open Go.RowKit Plain
set_option linter.unusedVariables false

theorem rankE_bad {f : Int} {l r : List Int} {many : Int} (h : goodC f l = false) : rankE f l r many = 110 ∧ rankV f l r many = 0 := by simp [rankE, rankV, h]
theorem rankE_arg {f : Int} {l r : List Int} {many : Int} (h : goodC f l = true) (h2 : rankOk f l r many = false) : rankE f l r many = 2 ∧ rankV f l r many = 0 := by simp [rankE, rankV, h, h2]
theorem rankE_ok {f : Int} {l r : List Int} {many : Int} (h : goodC f l = true) (h2 : rankOk f l r many = true) : rankE f l r many = 0 ∧ rankV f l r many = rankC r many.toNat := by simp [rankE, rankV, h, h2]

/-- What Rank answers. -/
def RankPost (f : Int) (l r : List Int) (many : Int) (w : World) (e : Ending) (w' : World) : Prop :=
  e = .returned (.tuple #[.int .i64 (rankV f l r many), .int .i64 (rankE f l r many)]) ∧ Below w.heap.size w w'
theorem RankPost.mk {f : Int} {l r : List Int} {many V E : Int} {w w' : World} (h : rankE f l r many = E ∧ rankV f l r many = V) (hb : Below w.heap.size w w') : RankPost f l r many w (.returned (.tuple #[.int .i64 V, .int .i64 E])) w' := by
  rw [← h.1, ← h.2]; exact ⟨rfl, hb⟩

set_option maxHeartbeats 1000000 in
theorem rank_any (f : Int) (a : Option Addr) (cap : Nat) (l : List Int) (a2 : Option Addr) (cap2 : Nat) (r : List Int) (many : Int) (w : World) (hI : Ints w a l) (hR : Ints w a2 r) (hn : a2 = none → cap2 = 0) :
    Calls Try.prog 84 #[.agg #[.int .i64 f, .slice a l.length cap], .slice a2 r.length cap2, .int .i64 many] w (RankPost f l r many w) := by
  have HI := Lib.hid hI
  have HR := Lib.hid hR
  have HN := Lib.hid hn
  clear hI hR hn
  cases hg : goodC f l with
  | false =>
    have HG := Lib.hid hg
    have he := errC_bad hg
    clear hg
    go_enter Try.func84, Try.ntmps84
    go_wp2_with fail
    refine Calls.mono (check_any f a cap l _ (HI.out.alloc _)) ?_
    rintro e w1 ⟨rfl, hb⟩
    obtain ⟨c0, c1, hb1⟩ := boxed_crew hb
    rw [he]
    clear he hb
    go_wp2
    go_ret2
    exact RankPost.mk (rankE_bad HG.out) hb1
  | true =>
    have HG := Lib.hid hg
    have he := errC_good hg
    obtain ⟨g1, g2, g3⟩ := goodC_len hg
    have hl7 : l.length ≤ 7 := by omega
    clear hg g1 g2 g3
    by_cases hlen : r.length = l.length
    · have hlen' : ((r.length : Int) != (l.length : Int)) = false := by simp [hlen]
      have HL := Lib.hid hlen
      have hr7 : r.length ≤ 7 := by omega
      clear hlen
      by_cases hm1 : many < 1
      · go_enter Try.func84, Try.ntmps84
        go_wp2_with fail
        refine Calls.mono (check_any f a cap l _ (HI.out.alloc _)) ?_
        rintro e w1 ⟨rfl, hb⟩
        obtain ⟨c0, c1, hb1⟩ := boxed_crew hb
        rw [he]
        clear he hb
        go_wp2
        go_ret2
        exact RankPost.mk (rankE_arg HG.out (by simp [rankOk]; omega)) hb1
      · by_cases hm2 : (r.length : Int) < many
        · go_enter Try.func84, Try.ntmps84
          go_wp2_with fail
          refine Calls.mono (check_any f a cap l _ (HI.out.alloc _)) ?_
          rintro e w1 ⟨rfl, hb⟩
          obtain ⟨c0, c1, hb1⟩ := boxed_crew hb
          rw [he]
          clear he hb
          go_wp2
          go_ret2
          exact RankPost.mk (rankE_arg HG.out (by simp [rankOk]; omega)) hb1
        · obtain ⟨k, rfl⟩ := Int.eq_ofNat_of_zero_le (show 0 ≤ many by omega)
          have hk1 : 1 ≤ k := by omega
          have hk2 : k ≤ r.length := by omega
          go_enter Try.func84, Try.ntmps84
          go_wp2_with fail
          refine Calls.mono (check_any f a cap l _ (HI.out.alloc _)) ?_
          rintro e w1 ⟨rfl, hb⟩
          obtain ⟨c0, c1, hb1⟩ := boxed_crew hb
          have HB1 := Lib.hid hb1
          rw [he]
          clear he hb hb1
          go_wp2_with fail
          refine Calls.mono (clone_any a2 cap2 r _ (HR.out.below HB1.out) HN.out (by omega)) ?_
          rintro e w2 ⟨a3, cap3, rfl, hO, hb2, _⟩
          have HO := Lib.hid hO
          have hs2 := hb2.size
          have HB2 := Lib.hid hb2
          clear hO hb2
          go_wp2_with fail
          refine Calls.mono (sort_any w1.heap.size a3 cap3 r _ HO.out (by omega) hs2) ?_
          rintro e w3 ⟨rfl, hO3, _, hb3⟩
          have hlt : r.length - k < (sortI r).length := by rw [sortI_len]; omega
          obtain ⟨b, off, rfl, hbb, hc⟩ := (hO3.ints (by rw [sortI_len]; omega)).at_lt hlt
          have hcell := hc _ hlt
          obtain ⟨x, hx⟩ : ∃ x, x = (sortI r)[r.length - k] := ⟨_, rfl⟩
          rw [← hx] at hcell
          have HX : Hid (rankC r k = x) := Lib.hid (by rw [hx]; simp [rankC, List.getElem?_eq_getElem hlt])
          have HB3 := Lib.hid ((HB1.out.trans (HB2.out.mono HB1.out.size)).trans (hb3.mono HB1.out.size))
          clear hO3 hb3 hc hx hlt
          go_wp2
          go_ret2
          exact RankPost.mk ⟨(rankE_ok HG.out (by simp [rankOk, HL.out]; have := HL.out; omega)).1, (rankE_ok HG.out (by simp [rankOk, HL.out]; have := HL.out; omega)).2.trans HX.out⟩ HB3.out
    · have hlen' : ((r.length : Int) != (l.length : Int)) = true := by simp; omega
      have HL := Lib.hid hlen
      clear hlen
      go_enter Try.func84, Try.ntmps84
      go_wp2_with fail
      refine Calls.mono (check_any f a cap l _ (HI.out.alloc _)) ?_
      rintro e w1 ⟨rfl, hb⟩
      obtain ⟨c0, c1, hb1⟩ := boxed_crew hb
      rw [he]
      clear he hb
      go_wp2
      go_ret2
      exact RankPost.mk (rankE_arg HG.out (by simp [rankOk, HL.out])) hb1
end Go.Proofs.Ytldcpnabgpjgiaa.Walks
