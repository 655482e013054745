/-
  The sorted keys of a plate's map.
-/
import Derived.Test.YtdhidcoglioalaaShelf
import Derived.Test.YtdhidcoglioalaaPlateM
namespace Go.Proofs
open Go.RowKit Go.Maps Go.Sort Go.Shelf

/-- slices.Sort's two contracts, at the fence that asks nothing. -/
theorem Try.sortsA (m : Nat) : AnyZI.SortsIn Try.prog Try.sortedA_ren Fence.wide m :=
  ⟨fun blk off cap ss W hH hblk hsz => callsIn_wide.2 (AnyM.slices_Sort_int Try.sortA blk off cap ss W hH hblk hsz),
   fun p cap W => callsIn_wide.2 (AnyM.slices_Sort_int_none Try.sortA p cap W)⟩
end Go.Proofs
namespace Go.Proofs.Ytdhidcoglioalaa.Walks
open Go.RowKit Plain
open Go.Maps Go.Sort Go.Shelf
set_option linter.unusedVariables false
theorem keys45 (w : World) (mb : Option Nat) : Calls Try.prog 45 #[.map mb] w fun e w' => e = .returned (.func (.func 77) #[] #[.pointer (some ⟨w.heap.size, 0, none⟩)]) ∧ w' = w.alloc (.cells #[.map mb] 60) :=
  (callsIn_wide (n := 5)).1 (AnyZI.keys_in Try.keysA Fence.wide 5 trivial rfl mb w)
set_option maxHeartbeats 1000000 in
set_option maxRecDepth 100000 in
theorem sorted_raw (b nn : Nat) (D0 : DM) (R : Value → Option (DM × List MemPlace)) (w : World) (hown : w.ownsMap Try.prog 3 R b nn D0) (hmax : Maps.size D0 ≤ maxLen) (hbytes : Maps.size D0 * 8 ≤ 140737488355328) :
    Calls Try.prog 44 #[.func (.func 77) #[] #[.pointer (some ⟨w.heap.size, 0, none⟩)]] (w.alloc (.cells #[.map (some b)] 60)) fun e w' => ∃ (v : Value) (ss : List Int), e = .returned v ∧ ss.Perm (intKeys D0) ∧
      w'.ownsRow w.heap.size 3 1 v ss.length ((ss.mergeSort (fun x y => decide (x ≤ y))).map encZ) ∧ (v = .slice none 0 0 ↔ ss = []) ∧ Below w.heap.size w w' := by
  refine (callsIn_wide (n := 5)).1 ?_
  have hbl := hown.lt
  have hseq : SeqGives Fence.wide 2 Try.prog 77 #[.pointer (some ⟨w.heap.size, 0, none⟩)] encZ (fun ss => ss.Perm (intKeys D0)) (Maps.size D0) (w.alloc (.cells #[.map (some b)] 60)) :=
    AnyZI.keys_gives (ρ := Try.keysA_ren) { Try.keysA with } Fence.wide _ trivial rfl (by omega) w.heap.size b nn D0 _ (by simp) (by simp) (by
      obtain ⟨es, clock, hb, Ft, hs, hD⟩ := hown
      exact ⟨es, clock, (Below.heap_alloc _ _ b hbl).trans hb, Ft, hs, hD⟩)
  have cS := AnyZI.sorted_in Try.sortedA Fence.wide 5 trivial trivial trivial trivial rfl (by omega) (Try.sortsA _) (enters_of Try.func76 (by kernel_rfl) rfl) 77 #[.pointer (some ⟨w.heap.size, 0, none⟩)] trivial (enters_of Try.func77 (by kernel_rfl) rfl) _ _ hmax hbytes _ hseq
  change CallsIn _ _ Try.prog 44 _ _ _ at cS
  refine cS.mono ?_
  rintro e w' ⟨v, ss, rfl, hS, hrow, hnil, hb⟩
  exact ⟨v, ss, rfl, hS, ownsRow_base_a hrow (by simp), hnil, ((Below.refl _ w).alloc (Nat.le_refl _) _).trans (hb.mono (by simp))⟩
/-- Rising ints are the sorted list of whatever list has them. -/
theorem sorted_eq {l m : List Int} (hl : l.Nodup) (hm : m.Pairwise (· < ·)) (hiff : ∀ x, x ∈ l ↔ x ∈ m) : l.mergeSort (fun x y => decide (x ≤ y)) = m := by
  have tr : ∀ a b c : Int, leI a b = true → leI b c = true → leI a c = true := fun a b c h1 h2 => by simp only [leI, decide_eq_true_eq] at *; exact Int.le_trans h1 h2
  have to : ∀ a b : Int, (leI a b || leI b a) = true := fun a b => by simp only [leI, Bool.or_eq_true, decide_eq_true_eq]; exact Int.le_total a b
  have hmn : m.Nodup := hm.imp fun h => Int.ne_of_lt h
  have hp : l.Perm m := (List.perm_ext_iff_of_nodup hl hmn).2 hiff
  refine List.Perm.eq_of_pairwise (le := fun a b => leI a b = true) (fun a b _ _ h1 h2 => ?_) (List.pairwise_mergeSort tr to l) (hm.imp fun h => by simp only [leI, decide_eq_true_eq]; exact Int.le_of_lt h) ((List.mergeSort_perm l leI).trans hp)
  simp only [leI, decide_eq_true_eq] at h1 h2
  exact Int.le_antisymm h1 h2
theorem ws_rise (P : Pl) : (P.ws.map fun (i : Nat) => (i : Int)).Pairwise (· < ·) := by
  refine List.pairwise_map.2 ?_
  have h1 : P.ws.Pairwise (· < ·) := List.Pairwise.filter _ List.pairwise_lt_range
  exact h1.imp fun h => by omega
theorem row_ints {w : World} {base : Nat} {v : Value} {l : List Int} (h : w.ownsRow base 3 1 v l.length (l.map encZ)) (hm : l.length ≤ 9223372036854775807) :
    ∃ a cap, v = .slice a l.length cap ∧ Ints w a l ∧ ∀ ad, a = some ad → base ≤ ad.block := by
  obtain ⟨_, ⟨h1, h2⟩ | ⟨g, cap', cur, h1, hb, hg, hc, hmx, hs, ht⟩⟩ := h
  · have h0 := List.eq_nil_of_length_eq_zero h2
    subst h0
    exact ⟨none, 0, h1, ⟨hm, .inl rfl⟩, (fun _ e => by cases e)⟩
  · refine ⟨_, _, h1, ⟨hm, .inr ⟨g, 0, rfl, fun i hi => ?_⟩⟩, (fun ad e => by cases e; exact hb)⟩
    rw [cell_of_row _ _ _ _ _ _ hg]
    have ht' : cur.toList.take l.length = l.map encZ := by simpa using ht
    have := congrArg (fun z => z[i]?) ht'
    simp only [List.getElem?_take, hi, if_true, List.getElem?_map, List.getElem?_eq_getElem hi, Option.map_some] at this
    rw [Nat.zero_add, ← Array.getElem?_toList]
    exact this
theorem sorted44 (w : World) (q : PLoc) (P : Pl) (h : PlateAt w q P) : Calls Try.prog 44 #[.func (.func 77) #[] #[.pointer (some ⟨w.heap.size, 0, none⟩)]] (w.alloc (.cells #[.map (some q.mb)] 60)) fun e w' =>
    ∃ a cap, e = .returned (.slice a P.ws.length cap) ∧ Ints w' a (P.ws.map fun (i : Nat) => (i : Int)) ∧ (∀ ad, a = some ad → w.heap.size ≤ ad.block) ∧ Below w.heap.size w w' := by
  have hbd := h.bound
  have hmost := h.ok.most
  have hlen : P.ws.length ≤ 4096 := by
    have h1 : P.ws.length ≤ (List.range P.n).length := List.length_filter_le _ _
    rw [List.length_range] at h1
    omega
  obtain ⟨nn, D, ho, hm⟩ := h.mp
  have hh := held_of ho
  obtain ⟨k1, k2, k3⟩ := hh.keys
  have hsz : Maps.size D ≤ P.n := by
    rw [← k3]
    exact nodup_bound _ _ k1 fun y hy => hbd y (by rw [← hm y]; exact (k2 y).1 hy)
  have hw : ∀ x : Int, x ∈ intKeys D ↔ x ∈ P.ws.map fun (i : Nat) => (i : Int) := by
    intro x
    rw [k2 x, hm x, List.mem_map]
    constructor
    · intro hx
      have := hbd x hx
      refine ⟨x.toNat, List.mem_filter.2 ⟨List.mem_range.2 (by omega), ?_⟩, by omega⟩
      unfold wmap at hx
      rw [if_pos this.1] at hx
      simpa using hx
    · rintro ⟨i, hi, rfl⟩
      have := (List.mem_filter.1 hi).2
      unfold wmap
      simpa using this
  refine Calls.mono (sorted_raw q.mb nn D (RE ES) w ho (by unfold maxLen; omega) (by omega)) ?_
  rintro e w' ⟨v, ss, rfl, hS, hrow, hnil, hb⟩
  have hss : ss.mergeSort (fun x y => decide (x ≤ y)) = P.ws.map fun (i : Nat) => (i : Int) :=
    sorted_eq (hS.nodup_iff.2 k1) (ws_rise P) (fun x => (hS.mem_iff).trans (hw x))
  have hl : ss.length = (P.ws.map fun (i : Nat) => (i : Int)).length := by rw [← hss]; exact (List.length_mergeSort ss).symm
  rw [hss, hl] at hrow
  obtain ⟨a, cap, rfl, h1, h2⟩ := row_ints hrow (by rw [List.length_map]; omega)
  exact ⟨a, cap, by rw [List.length_map], h1, h2, hb⟩
end Go.Proofs.Ytdhidcoglioalaa.Walks
