/-
  The walks of Hand.none and slices.Equal.
-/
import Derived.Test.YtldcpnabgpjgiaaCrewO
import Derived.Test.YtldcpnabgpjgiaaHandMem
import Derived.WalkSpells
namespace Go.Proofs.Ytldcpnabgpjgiaa.Walks
open Go.RowKit Plain
set_option linter.unusedVariables false

theorem none_any (p : Nat) (r : Option Nat) (w : World) (h : w.cell? ⟨p, 2, none⟩ = some (.map r)) :
    Calls Try.prog 92 #[.pointer (some ⟨p, 0, none⟩)] w fun e w' => e = .returned (.bool r.isNone) ∧ w = w' := by
  have qT : ∀ (w : World) (r : Option Nat), (binOp .eql 61 (.map r) (.map none)).run Try.prog w = .ok (.bool r.isNone) w := fun w r => run_eql_map_nil w _ _ _ r Try.underlying61
  go_enter Try.func92, Try.ntmps92
  go_wp2
  go_ret
  exact ⟨rfl, rfl⟩
theorem none_nil (w : World) : Calls Try.prog 92 #[.pointer none] w fun e w' => e = .returned (.bool true) ∧ w = w' := by
  go_enter Try.func92, Try.ntmps92
  go_wp2
  go_ret
  exact ⟨rfl, rfl⟩

set_option maxHeartbeats 1000000 in
theorem equal_any (a a' : Option Addr) (cap cap' : Nat) (l l' : List Int) (w : World) (hB : Ints w a l) (hB' : Ints w a' l') :
    Calls Try.prog 93 #[.slice a l.length cap, .slice a' l'.length cap'] w fun e w' => e = .returned (.bool (decide (l = l'))) ∧ Below w.heap.size w w' := by
  by_cases hlen : l.length = l'.length
  · have hm := hB.1
    have H := Lib.hid hB
    have H' := Lib.hid hB'
    obtain ⟨n, hn⟩ : ∃ n, n = l.length := ⟨_, rfl⟩
    have hn' : n = l'.length := by omega
    rw [← hn, ← hn']
    have e1 : l.length = n := by omega
    have e2 : l'.length = n := by omega
    have E1 := Lib.hid e1
    have E2 := Lib.hid e2
    have hm' : n ≤ 9223372036854775807 := by omega
    clear hB hB' hlen hn hn' e1 e2 hm
    go_enter Try.func93, Try.ntmps93
    go_wp2_with fail
    go_loopw [13] (fun i wr => ∃ k : Nat, k ≤ n ∧ i = .int .i64 k ∧ Hid (l.take k = l'.take k) ∧ Below w.heap.size w wr) (fun i _ => n - (intOf i).toNat)
    case atStart => exact ⟨0, by omega, rfl, Lib.hid (by simp), Below.refl _ _⟩
    case round =>
      obtain ⟨k, hk, rfl, HK, hb⟩ := hrel
      by_cases hlt : k < n
      · have hk1 : k < l.length := by rw [E1.out]; exact hlt
        have hk2 : k < l'.length := by rw [E2.out]; exact hlt
        obtain ⟨b, off, rfl, hb0, hc⟩ := H.out.at_lt hk1
        obtain ⟨b', off', rfl, hb0', hc'⟩ := H'.out.at_lt hk2
        obtain ⟨x, hx⟩ : ∃ x, x = l[k] := ⟨_, rfl⟩
        obtain ⟨y, hy⟩ : ∃ y, y = l'[k] := ⟨_, rfl⟩
        have hcell : wr.cell? ⟨b, off + k, none⟩ = some (.int .i64 x) := by rw [hx]; exact (hb.cell (by exact hb0)).trans (hc k hk1)
        have hcell' : wr.cell? ⟨b', off' + k, none⟩ = some (.int .i64 y) := by rw [hy]; exact (hb.cell (by exact hb0')).trans (hc' k hk2)
        have HX := Lib.hid hx
        have HY := Lib.hid hy
        have HK1 := Lib.hid hk1
        have HK2 := Lib.hid hk2
        clear hc hc' hx hy
        by_cases hxy : x = y
        · have hq : (x != y) = false := by simp [hxy]
          have HXY := Lib.hid hxy
          clear hxy
          go_wp2_with fail
          go_quiet (fail)
          go_wp2
          go_roundw
          case rel => exact ⟨k + 1, by omega, by go_num, Lib.hid (by rw [List.take_succ_eq_append_getElem HK1.out, List.take_succ_eq_append_getElem HK2.out, HK.out, ← HX.out, ← HY.out, HXY.out]), below_drewN hb _⟩
          case measure => simp [intOf]; omega
        · have hq : (x != y) = true := by simp [hxy]
          have HXY := Lib.hid hxy
          clear hxy
          go_wp2_with fail
          go_quiet (fail)
          go_wp2
          go_ret
          refine ⟨ret_bool ?_, below_drewN hb _⟩
          rw [eq_comm, decide_eq_false_iff_not]
          rintro rfl
          exact HXY.out (HX.out.trans HY.out.symm)
      · go_wp2
        go_ret
        refine ⟨ret_bool ?_, hb⟩
        have := HK.out
        rw [List.take_of_length_le (by rw [E1.out]; omega), List.take_of_length_le (by rw [E2.out]; omega)] at this
        rw [eq_comm, decide_eq_true_eq]; exact this
  · have hq : ((l.length : Int) != (l'.length : Int)) = true := by simp; omega
    have HL := Lib.hid hlen
    clear hlen hB hB'
    go_enter Try.func93, Try.ntmps93
    go_wp2
    go_ret
    refine ⟨ret_bool ?_, Below.refl _ _⟩
    rw [eq_comm, decide_eq_false_iff_not]
    rintro rfl
    exact HL.out rfl
end Go.Proofs.Ytldcpnabgpjgiaa.Walks
