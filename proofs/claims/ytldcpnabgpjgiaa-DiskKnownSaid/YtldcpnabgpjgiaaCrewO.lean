/-
  The walk of bastideref08.Rank.
-/
import Derived.Test.YtldcpnabgpjgiaaCrewN
namespace Go.Proofs.Ytldcpnabgpjgiaa.Walks
open Go.RowKit Plain
set_option linter.unusedVariables false

theorem bestTo_take_succ {r : List Int} {many : Int} {k : Nat} (h : k < r.length) : bestTo r many (r.take (k + 1)) =
    if decide (many ≤ (cge r r[k] : Int)) && (!(bestTo r many (r.take k)).2 || decide ((bestTo r many (r.take k)).1 < r[k])) then (r[k], true) else bestTo r many (r.take k) := by
  unfold bestTo
  rw [List.take_succ_eq_append_getElem h, List.foldl_append]
  rfl

set_option maxHeartbeats 2000000 in
theorem refRank_any (f : Int) (a : Option Addr) (cap : Nat) (l : List Int) (a2 : Option Addr) (cap2 : Nat) (r : List Int) (many : Int) (w : World) (hI : Ints w a l) (hR : Ints w a2 r) :
    Calls Try.prog 85 #[.agg #[.int .i64 f, .slice a l.length cap], .slice a2 r.length cap2, .int .i64 many] w (RankPost f l r many w) := by
  have HI := Lib.hid hI
  have HR := Lib.hid hR
  clear hI hR
  cases hg : goodC f l with
  | false =>
    have HG := Lib.hid hg
    have he := errC_bad hg
    clear hg
    go_enter Try.func85, Try.ntmps85
    go_wp2_with fail
    refine Calls.mono (refCheck_any f a cap l _ (HI.out.alloc _)) ?_
    rintro e w1 ⟨rfl, hb⟩
    obtain ⟨c0, c1, hb1⟩ := boxed_crew hb
    rw [he]
    clear he hb
    go_wp2
    go_ret2
    exact RankPost.mk (rankE_bad HG.out) hb1
  | true =>
    have HG := Lib.hid hg
    have he := errC_good hg
    obtain ⟨g1, g2, g3⟩ := goodC_len hg
    have hl7 : l.length ≤ 7 := by omega
    clear hg g1 g2 g3
    by_cases hlen : r.length = l.length
    · have hlen' : ((r.length : Int) != (l.length : Int)) = false := by simp [hlen]
      have HL := Lib.hid hlen
      have hr7 : r.length ≤ 7 := by omega
      have hlel : l.length ≤ r.length := by omega
      have hlel2 : r.length ≤ l.length := by omega
      clear hlen
      by_cases hm1 : many < 1
      · go_enter Try.func85, Try.ntmps85
        go_wp2_with fail
        refine Calls.mono (refCheck_any f a cap l _ (HI.out.alloc _)) ?_
        rintro e w1 ⟨rfl, hb⟩
        obtain ⟨c0, c1, hb1⟩ := boxed_crew hb
        rw [he]
        clear he hb
        go_wp2
        go_ret2
        exact RankPost.mk (rankE_arg HG.out (by simp [rankOk]; omega)) hb1
      · by_cases hm2 : (l.length : Int) < many
        · go_enter Try.func85, Try.ntmps85
          go_wp2_with fail
          refine Calls.mono (refCheck_any f a cap l _ (HI.out.alloc _)) ?_
          rintro e w1 ⟨rfl, hb⟩
          obtain ⟨c0, c1, hb1⟩ := boxed_crew hb
          rw [he]
          clear he hb
          go_wp2
          go_ret2
          exact RankPost.mk (rankE_arg HG.out (by simp [rankOk]; omega)) hb1
        · go_enter Try.func85, Try.ntmps85
          go_wp2_with fail
          refine Calls.mono (refCheck_any f a cap l _ (HI.out.alloc _)) ?_
          rintro e wa ⟨rfl, hb⟩
          obtain ⟨c0, c1, hb1⟩ := boxed_crew hb
          have HB1 := Lib.hid hb1
          rw [he]
          clear he hb hb1
          go_wp2_with fail
          go_loopw [8, 9, 10] (fun bv fv i wr => ∃ (k : Nat) (s1 : Int) (s2 : Bool), k ≤ r.length ∧ i = .int .i64 k ∧ bv = .int .i64 s1 ∧ fv = .bool s2 ∧ Hid (bestTo r many (r.take k) = (s1, s2)) ∧ Below wa.heap.size wa wr) (fun _ _ i _ => r.length - (intOf i).toNat)
          case atStart => exact ⟨0, 0, false, by omega, rfl, rfl, rfl, Lib.hid (by simp [bestTo]), Below.refl _ _⟩
          case round =>
            obtain ⟨k, s1, s2, hk, rfl, rfl, rfl, HS, hbr⟩ := hrel
            by_cases hlt : k < r.length
            · obtain ⟨b, off, rfl, hbb, hc⟩ := (HR.out.below (Below.step HB1.out hbr)).at_lt hlt
              have hx0 := hc k hlt
              obtain ⟨x, hx⟩ : ∃ x, x = r[k] := ⟨_, rfl⟩
              rw [← hx] at hx0
              have HX := Lib.hid hx
              have HC := Lib.hid hc
              obtain ⟨wo, rfl⟩ : ∃ wo : World, wo = wr := ⟨_, rfl⟩
              clear hx hc
              go_wp2_with fail
              go_loopw [11, 12] (fun av jv wi => ∃ (j c : Nat), j ≤ r.length ∧ c ≤ j ∧ jv = .int .i64 j ∧ av = .int .i64 c ∧ Hid (c = cge (r.take j) x) ∧ Below wo.heap.size wo wi) (fun _ j _ => r.length - (intOf j).toNat)
              case atStart => exact ⟨0, 0, by omega, by omega, rfl, rfl, Lib.hid (by simp [cge]), Below.refl _ _⟩
              case round =>
                obtain ⟨j, c, hj, hcj, rfl, rfl, HCC, hbi⟩ := hrel
                have hxi : wr.cell? ⟨b, off + k, none⟩ = some (.int .i64 x) := keepb hbi (by exact hbb) hx0
                by_cases hjl : j < r.length
                · have hyi := keepb hbi (by exact hbb) (HC.out j hjl)
                  obtain ⟨y, hy⟩ : ∃ y, y = r[j] := ⟨_, rfl⟩
                  rw [← hy] at hyi
                  have HCS : Hid (cge (r.take (j + 1)) x = c + (if x ≤ y then 1 else 0)) := Lib.hid (by rw [HCC.out, hy]; exact cge_take_succ hjl)
                  clear hy
                  by_cases hq : x ≤ y
                  · have HQ := Lib.hid hq
                    go_wp2_with fail
                    go_quiet (fail)
                    go_wp2
                    go_roundw
                    case rel => exact ⟨j + 1, c + 1, by omega, by omega, by go_num, by go_num, Lib.hid (by rw [HCS.out, if_pos HQ.out]), below_drewN hbi _⟩
                    case measure => simp [intOf]; omega
                  · have HQ := Lib.hid hq
                    go_wp2_with fail
                    go_quiet (fail)
                    go_wp2
                    go_roundw
                    case rel => exact ⟨j + 1, c, by omega, by omega, by go_num, by go_num, Lib.hid (by rw [HCS.out, if_neg (by have := HQ.out; omega)]; rfl), below_drewN hbi _⟩
                    case measure => simp [intOf]; omega
                · have HCA : Hid ((c : Int) = (cge r x : Int)) := Lib.hid (by rw [HCC.out, List.take_of_length_le (by omega)])
                  have HBS : Hid (bestTo r many (r.take (k + 1)) = if decide (many ≤ (c : Int)) && (!s2 || decide (s1 < x)) then (x, true) else (s1, s2)) := Lib.hid (by
                    rw [bestTo_take_succ hlt, HS.out, HCA.out, HX.out])
                  have hbo := Below.step hbr hbi
                  by_cases hmc : many ≤ (c : Int)
                  · cases s2 with
                    | false =>
                      go_wp2
                      go_roundw
                      case rel => exact ⟨k + 1, x, true, by omega, by go_num, rfl, rfl, Lib.hid (by rw [HBS.out]; simp [hmc]), hbo⟩
                      case measure => simp [intOf]; omega
                    | true =>
                      by_cases hsx : s1 < x
                      · go_wp2
                        go_roundw
                        case rel => exact ⟨k + 1, x, true, by omega, by go_num, rfl, rfl, Lib.hid (by rw [HBS.out]; simp [hmc, hsx]), hbo⟩
                        case measure => simp [intOf]; omega
                      · go_wp2
                        go_roundw
                        case rel => exact ⟨k + 1, s1, true, by omega, by go_num, rfl, rfl, Lib.hid (by rw [HBS.out]; simp [hsx]), hbo⟩
                        case measure => simp [intOf]; omega
                  · go_wp2
                    go_roundw
                    case rel => exact ⟨k + 1, s1, s2, by omega, by go_num, rfl, rfl, Lib.hid (by rw [HBS.out]; simp [hmc]), hbo⟩
                    case measure => simp [intOf]; omega
            · go_wp2
              go_ret2
              have hr2 : (bestTo r many r).1 = s1 := by
                have := HS.out
                rw [List.take_of_length_le (by omega)] at this
                rw [this]
              have hbest := best_rank r many.toNat (by omega) (by omega)
              rw [show ((many.toNat : Nat) : Int) = many by omega, hr2] at hbest
              have hok : rankOk f l r many = true := by simp [rankOk, HL.out]; have := HL.out; omega
              exact RankPost.mk ⟨(rankE_ok HG.out hok).1, (rankE_ok HG.out hok).2.trans hbest.symm⟩ (Below.step HB1.out hbr)
    · have hlen' : ((r.length : Int) != (l.length : Int)) = true := by simp; omega
      have HL := Lib.hid hlen
      clear hlen
      go_enter Try.func85, Try.ntmps85
      go_wp2_with fail
      refine Calls.mono (refCheck_any f a cap l _ (HI.out.alloc _)) ?_
      rintro e w1 ⟨rfl, hb⟩
      obtain ⟨c0, c1, hb1⟩ := boxed_crew hb
      rw [he]
      clear he hb
      go_wp2
      go_ret2
      exact RankPost.mk (rankE_arg HG.out (by simp [rankOk, HL.out])) hb1
end Go.Proofs.Ytldcpnabgpjgiaa.Walks
