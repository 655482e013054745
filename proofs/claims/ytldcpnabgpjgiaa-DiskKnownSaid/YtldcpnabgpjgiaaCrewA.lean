/-
  The walks of crew.node, crew.Check, Most, Some.
-/
import Derived.Test.YtldcpnabgpjgiaaBase
import Derived.Test.YtldcpnabgpjgiaaPlain
namespace Go.Proofs.Ytldcpnabgpjgiaa.Walks
open Go.RowKit Plain
set_option linter.unusedVariables false

theorem node_any (n : Int) (w : World) : Calls Try.prog 106 #[.int .i64 n] w fun e w' => e = .returned (.bool (decide (1 ≤ n) && decide (n ≤ 28))) ∧ w = w' := by
  by_cases h1 : 1 ≤ n
  · go_enter Try.func106, Try.ntmps106
    go_wp2
    go_ret
    exact ⟨ret_bool (by simp [h1]), rfl⟩
  · go_enter Try.func106, Try.ntmps106
    go_wp2
    go_ret
    exact ⟨ret_bool (by simp; omega), rfl⟩

set_option maxHeartbeats 1000000 in
theorem check_any (f : Int) (a : Option Addr) (cap : Nat) (l : List Int) (w : World) (hI : Ints w a l) :
    Calls Try.prog 69 #[.agg #[.int .i64 f, .slice a l.length cap]] w fun e w' => e = .returned (.int .i64 (errC f l)) ∧ Below w.heap.size w w' := by
  have hm := hI.1
  by_cases h1 : f < 0
  · clear hI
    go_enter Try.func69, Try.ntmps69
    go_wp2
    go_ret
    exact ⟨ret_int (by simp [errC, goodC, show ¬ 0 ≤ f by omega]), Below.new _ _⟩
  by_cases h2 : 2 < f
  · clear hI
    go_enter Try.func69, Try.ntmps69
    go_wp2
    go_ret
    exact ⟨ret_int (by simp [errC, goodC, show ¬ f ≤ 2 by omega]), Below.new _ _⟩
  by_cases h3 : (l.length : Int) = 3 * f + 1
  · have h3' : ((l.length : Int) != 3 * f + 1) = false := by simp [h3]
    have H3 := Lib.hid h3
    have HI := Lib.hid hI
    clear hI h3
    go_enter Try.func69, Try.ntmps69
    go_wp2
    have hb := Below.new w (.cells #[.int .i64 f, .slice a l.length cap] 24)
    have HA := Lib.hid (HI.out.alloc (.cells #[.int .i64 f, .slice a l.length cap] 24))
    generalize (w.alloc (.cells #[.int .i64 f, .slice a l.length cap] 24)) = wa at *
    clear h3'
    go_loop [3, 27] (fun la i => ∃ (k : Nat) (lst : Int), k ≤ l.length ∧ i = .int .i64 k ∧ la = .int .i64 lst ∧ okFrom 0 l = okFrom lst (l.drop k)) (fun _ i => l.length - (intOf i).toNat)
    case atStart => exact ⟨0, 0, by omega, rfl, rfl, rfl⟩
    case round =>
      obtain ⟨k, lst, hk, rfl, rfl, hok⟩ := hrel
      have HOK := Lib.hid hok
      clear hok
      by_cases hlt : k < l.length
      · obtain ⟨b, off, rfl, hbb, hc⟩ := HA.out.at_lt hlt
        have hcell := hc k hlt
        clear hc
        obtain ⟨n, hn⟩ : ∃ n, n = l[k] := ⟨_, rfl⟩
        rw [← hn] at hcell
        have HN : Hid (okFrom lst (l.drop k) = (decide (lst < n) && (decide (1 ≤ n) && decide (n ≤ 28)) && okFrom n (l.drop (k + 1)))) := Lib.hid (by
          rw [List.drop_eq_getElem_cons hlt, hn]; rfl)
        clear hn
        by_cases c1 : n ≤ lst
        · go_wp2
          go_ret
          exact ⟨ret_int (by simp [errC, goodC, HOK.out, HN.out, show ¬ lst < n by omega]), hb⟩
        · go_wp2_with fail
          refine Calls.mono (node_any n _) ?_
          rintro e w' ⟨rfl, rfl⟩
          cases hq : (decide (1 ≤ n) && decide (n ≤ 28)) with
          | true =>
            have HQ := Lib.hid hq
            clear hq
            go_wp2
            go_round
            case rel => exact ⟨k + 1, n, by omega, by go_num, rfl, by rw [HOK.out, HN.out, HQ.out]; simp [show lst < n by omega]⟩
            case measure => simp [intOf]; omega
          | false =>
            have HQ := Lib.hid hq
            clear hq
            go_wp2
            go_ret
            exact ⟨ret_int (by simp only [errC, goodC, HOK.out, HN.out, HQ.out]; simp), hb⟩
      · go_wp2
        go_ret
        refine ⟨ret_int ?_, hb⟩
        have : okFrom 0 l = true := by rw [HOK.out, List.drop_eq_nil_of_le (by omega)]; rfl
        simp [errC, goodC, this, H3.out]
        omega
  · have h3' : ((l.length : Int) != 3 * f + 1) = true := by simp [h3]
    clear hI
    go_enter Try.func69, Try.ntmps69
    go_wp2
    go_ret
    exact ⟨ret_int (by simp [errC, goodC, h3]), Below.new _ _⟩
end Go.Proofs.Ytldcpnabgpjgiaa.Walks
