/-
  The walks of slices.Sort (by the library's contract), crew.Others and its callees.
-/
import Derived.Test.YtldcpnabgpjgiaaCrewF
import Derived.Test.YtldcpnabgpjgiaaPlainB
import Derived.Test.YtldcpnabgpjgiaaShelf
import Derived.Sort.OwnSortedInts
namespace Go.Proofs.Ytldcpnabgpjgiaa.Walks
open Go.RowKit Plain
set_option linter.unusedVariables false

theorem sort_any (base : Nat) (a : Option Addr) (cap : Nat) (l : List Int) (w : World) (hO : Own w base a l cap) (hr : l.length ≤ 17592186044416) (hbs : base ≤ w.heap.size) :
    Calls Try.prog 104 #[.slice a l.length cap] w fun e w' => e = .returned (.tuple #[]) ∧ Own w' base a (sortI l) cap ∧ w.grownBy w' (a.map Addr.block) ∧ Below base w w' := by
  rcases Nat.eq_zero_or_pos l.length with h0 | h0
  · have hl : l = [] := List.eq_nil_of_length_eq_zero h0
    subst hl
    refine (Try.slices_Sort_int_none a cap w).mono ?_
    rintro e w' ⟨rfl, rfl⟩
    exact ⟨rfl, by simpa [sortI] using hO, ⟨rfl, rfl, rfl, Nat.le_refl _, fun _ _ _ => rfl⟩, Below.refl _ _⟩
  · obtain ⟨g, cur, rfl, hb, hg, hc, hm, hs, ht⟩ := hO.len_pos_some h0
    have hH : Go.Sort.Holds (Value.int .i64) w g 0 l.toArray := Go.holds_of_blockI hg ht
    refine (Try.slices_Sort_int g 0 cap l w hH (lt_of_heap hg) (by omega)).mono ?_
    rintro e w' ⟨rfl, n, os, rfl⟩
    have hgr := Go.grownBy_sortedI (w := w) (g := g) (n := n) (os := os) (l.mergeSort fun x y => decide (x ≤ y)).toArray
    refine ⟨rfl, ?_, hgr, (Below.refl _ _).grown hgr hbs (by intro k hk; cases hk; exact hb)⟩
    have := Go.ownsRow_sortedI (w := w) (base := base) (g := g) (cap := cap) (n := n) (e := 3) (os := os) (cur := cur) (ss := l) (ts := l.mergeSort fun x y => decide (x ≤ y)) (List.length_mergeSort _) hb hg hc hm (by omega)
    unfold Own
    rw [sortI_len]
    exact this

theorem isIt_any (n x : Int) (g : Nat) (w : World) (hg : w.cell? ⟨g, 0, none⟩ = some (.int .i64 x)) :
    Calls Try.prog 109 #[.int .i64 n, .pointer (some ⟨g, 0, none⟩)] w fun e w' => e = .returned (.bool (n == x)) ∧ w = w' := by
  go_enter Try.func109, Try.ntmps109
  go_wp2
  go_ret
  exact ⟨rfl, rfl⟩

set_option maxHeartbeats 400000 in
theorem indexFunc_any (a : Option Addr) (cap : Nat) (l : List Int) (x : Int) (g : Nat) (w : World) (hI : Ints w a l) (hg : w.cell? ⟨g, 0, none⟩ = some (.int .i64 x)) :
    Calls Try.prog 124 #[.slice a l.length cap, .func (.func 109) #[] #[.pointer (some ⟨g, 0, none⟩)]] w (IdxPost l x w) := by
  have hm := hI.1
  have HI := Lib.hid hI
  clear hI
  go_enter Try.func124, Try.ntmps124
  go_wp2
  go_loop [8] (fun i => ∃ k : Nat, k ≤ l.length ∧ i = .int .i64 k ∧ Hid (x ∉ l.take k)) (fun i => l.length - (intOf i).toNat)
  case atStart => exact ⟨0, by omega, rfl, Lib.hid (by simp)⟩
  case round =>
    obtain ⟨k, hk, rfl, HNO⟩ := hrel
    by_cases hlt : k < l.length
    · obtain ⟨b, off, rfl, hbb, hc⟩ := HI.out.at_lt hlt
      have hcell := hc k hlt
      clear hc
      obtain ⟨n, hn⟩ : ∃ n, n = l[k] := ⟨_, rfl⟩
      rw [← hn] at hcell
      have HN := Lib.hid hn
      clear hn
      go_wp2_with fail
      refine Calls.mono (isIt_any n x g _ hg) ?_
      rintro e w' ⟨rfl, rfl⟩
      by_cases hq : n = x
      · have hq' : (n == x) = true := by simp [hq]
        have HQ := Lib.hid hq
        clear hq
        go_wp2
        go_ret
        exact ⟨⟨k, rfl, Lib.hid (.inr ⟨k, hlt, rfl, by rw [← HN.out, HQ.out], HNO.out⟩)⟩, rfl⟩
      · have hq' : (n == x) = false := by simp [hq]
        have HQ := Lib.hid hq
        clear hq
        go_wp2
        go_round
        case rel => exact ⟨k + 1, by omega, by go_num, Lib.hid (by rw [List.take_succ_eq_append_getElem hlt, List.mem_append, ← HN.out]; simp; exact ⟨HNO.out, fun h => HQ.out h.symm⟩)⟩
        case measure => simp [intOf]; omega
    · go_wp2
      go_ret
      have := HNO.out
      rw [List.take_of_length_le (by omega)] at this
      exact ⟨⟨-1, rfl, Lib.hid (.inl ⟨rfl, this⟩)⟩, rfl⟩
end Go.Proofs.Ytldcpnabgpjgiaa.Walks
