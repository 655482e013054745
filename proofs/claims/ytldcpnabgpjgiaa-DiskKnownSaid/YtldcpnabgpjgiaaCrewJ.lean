/-
  The walks of bastideref08.Others, of, Make.
-/
import Derived.Test.YtldcpnabgpjgiaaCrewI
namespace Go.Proofs.Ytldcpnabgpjgiaa.Walks
open Go.RowKit Plain
set_option linter.unusedVariables false

theorem ints_one_new (w : World) (n : Int) : Ints (w.alloc (.cells #[.int .i64 n] 3)) (some ⟨w.heap.size, 0, none⟩) [n] :=
  ⟨by simp, .inr ⟨w.heap.size, 0, rfl, fun i hi => by
    have : i = 0 := by simpa using hi
    subst this
    exact cell_of_row _ _ _ _ _ _ (heap_alloc_new _ _)⟩⟩

set_option maxHeartbeats 1000000 in
theorem refOthers_any (f : Int) (a : Option Addr) (cap : Nat) (l : List Int) (x : Int) (w : World) (hI : Ints w a l) (hr : l.length ≤ 17592186044416) :
    Calls Try.prog 81 #[.agg #[.int .i64 f, .slice a l.length cap], .int .i64 x] w fun e w' => ∃ a' cap', e = .returned (.slice a' (othersC f l x).length cap') ∧ Own w' w.heap.size a' (othersC f l x) cap' ∧ Below w.heap.size w w' := by
  have HI := Lib.hid hI
  clear hI
  go_enter Try.func81, Try.ntmps81
  go_wp2_with fail
  obtain ⟨c0, c1, hb1⟩ := boxed_crew (Below.refl _ (w.alloc (.cells #[.int .i64 f, .slice a l.length cap] 24)))
  have hsz : (w.alloc (.cells #[.int .i64 f, .slice a l.length cap] 24)).heap.size = w.heap.size + 1 := by simp
  generalize (w.alloc (.cells #[.int .i64 f, .slice a l.length cap] 24)) = wa at *
  have HB1 := Lib.hid hb1
  have HSZ := Lib.hid hsz
  clear hb1 hsz
  go_loopw [5, 6] (fun mv i wr => ∃ (k : Nat) (m : List Int) (a' : Option Addr) (cap' : Nat), k ≤ l.length ∧ i = .int .i64 k ∧ mv = .slice a' m.length cap' ∧ Hid (m = dels x (l.take k)) ∧ Hid (Own wr wa.heap.size a' m cap') ∧ Below wa.heap.size wa wr ∧ Hid (k = 0 ∨ goodC f l = true)) (fun _ i _ => l.length - (intOf i).toNat)
  case atStart => exact ⟨0, [], none, 0, by omega, rfl, rfl, Lib.hid (by simp [dels]), Lib.hid (World.ownsRow_nil _ _ _ _), Below.refl _ _, Lib.hid (.inl rfl)⟩
  case round =>
    obtain ⟨k, m, a', cap', hk, rfl, rfl, HM, HO, hbr, HK⟩ := hrel
    have d0 : wr.cell? ⟨w.heap.size, 0, none⟩ = some (.int .i64 f) := keepc hbr c0
    have d1 : wr.cell? ⟨w.heap.size, 1, none⟩ = some (.slice a l.length cap) := keepc hbr c1
    by_cases hlt : k < l.length
    · have hbr' := Below.step HB1.out hbr
      go_wp2_with fail
      refine Calls.mono (refCheck_any f a cap l _ (HI.out.below hbr')) ?_
      rintro e w1 ⟨rfl, hb⟩
      have hbr2 := Below.step hbr hb
      have e0 : w1.cell? ⟨w.heap.size, 0, none⟩ = some (.int .i64 f) := keepc hbr2 c0
      have e1 : w1.cell? ⟨w.heap.size, 1, none⟩ = some (.slice a l.length cap) := keepc hbr2 c1
      have J := Lib.hid ((HI.out.below hbr').below hb)
      have HO1 : Hid (Own w1 wa.heap.size a' m cap') := Lib.hid (ownsRow_below HO.out hb)
      have HB2 := Lib.hid hbr2
      have hs1 := hbr2.size
      clear hb hbr' d0 d1 hbr hbr2
      cases hg : goodC f l with
      | true =>
        have HG := Lib.hid hg
        rw [errC_good hg]
        clear hg
        obtain ⟨b, off, rfl, hbb, hc⟩ := J.out.at_lt hlt
        have hcell := hc k hlt
        clear hc
        obtain ⟨n, hn⟩ : ∃ n, n = l[k] := ⟨_, rfl⟩
        rw [← hn] at hcell
        have HN : Hid (dels x (l.take (k + 1)) = m ++ (if n = x then [] else [n])) := Lib.hid (by rw [HM.out, hn]; exact dels_take_succ hlt)
        have hml : m.length ≤ k := by rw [HM.out]; exact Nat.le_trans (dels_len _ _) (List.length_take_le _ _)
        clear hn
        by_cases hq : n = x
        · have hq' : (n != x) = false := by simp [hq]
          have HQ := Lib.hid hq
          clear hq
          go_wp2
          go_roundw
          case rel => exact ⟨k + 1, m, a', cap', by omega, by go_num, rfl, Lib.hid (by rw [HN.out, if_pos HQ.out, List.append_nil]), HO1, HB2.out, Lib.hid (.inr HG.out)⟩
          case measure => simp [intOf]; omega
        · have hq' : (n != x) = true := by simp [hq]
          have HQ := Lib.hid hq
          clear hq
          go_wp2_with (first | (at_builtin; go_loud (refine wp_append_ints rfl (.tmp 26) (.tmp 32) rfl wa.heap.size (.slice a' m.length cap') m rfl (ownsRow_below HO1.out (Below.new _ _)) _ 1 [n] 1 rfl rfl (ints_one_new w1 n) (by intro h; cases h) (by simp; omega) (by simp; omega) ?_)))
          intro a2 cap2 w2 hown hgr _
          have HO2 := Lib.hid hown
          have HG2 := Lib.hid hgr
          clear hown hgr
          go_wp2
          go_roundw
          case rel =>
            refine ⟨k + 1, m ++ [n], a2, cap2, by omega, by go_num, by simp, Lib.hid (by rw [HN.out, if_neg HQ.out]), HO2, ?_, Lib.hid (.inr HG.out)⟩
            exact (HB2.out.alloc hs1 _).grown HG2.out (by simp; omega) (by
              intro g hg
              rcases Option.eq_none_or_eq_some a' with h | ⟨ad, h⟩
              · subst h; cases hg
              · subst h; cases hg; exact Own.base_le HO1.out rfl)
          case measure => simp [intOf]; omega
      | false =>
        have HG := Lib.hid hg
        rw [errC_bad hg]
        clear hg
        go_wp2
        go_ret
        have hk0 : k = 0 := by
          rcases HK.out with h | h
          · exact h
          · rw [HG.out] at h; cases h
        have hm0 : m = [] := by rw [HM.out, hk0]; simp [dels]
        have ho : othersC f l x = [] := by simp [othersC, HG.out]
        refine ⟨a', cap', by rw [ho, hm0]; rfl, ?_, Below.step HB1.out HB2.out⟩
        rw [ho]
        have := HO1.out
        rw [hm0] at this
        exact ownsRow_base (by have := HSZ.out; omega) this
    · go_wp2
      go_ret
      have ho : othersC f l x = m := by
        have h1 := HM.out
        rw [List.take_of_length_le (by omega)] at h1
        rw [h1]
        rcases HK.out with h | h
        · have : l = [] := List.eq_nil_of_length_eq_zero (by omega)
          subst this
          simp [othersC, dels]
        · simp [othersC, h]
      refine ⟨a', cap', by rw [ho]; rfl, ?_, Below.step HB1.out hbr⟩
      rw [ho]
      exact ownsRow_base (by have := HSZ.out; omega) HO.out
end Go.Proofs.Ytldcpnabgpjgiaa.Walks
