/-
  DERIVED: THE SHELF's CONTRACTS AT THIS DUMP, IN PLAIN WORDS (tools/lay-plain.mjs out of 'YtdhidcoglioalaaGreatShelf.lean', which tools/lay-shelf.mjs wrote): THE SAME DECLARATIONS UNDER THE SAME NAMES: 'import', 'namespace', 'open', 'def', 'theorem' AND NOTHING ELSE: no command of the shelf's: FOR A HAND-IN. Each laying: the table of numbers ('.._ren') and one theorem, a field a fact of the dump's own or the kernel's comparison; each contract: ONE APPLICATION.
  The sorted keys of a plate's map.
  The power goes.
  A doing is counted; a plate is crashed, told to fail, written.
-/
import Derived.Shelf.SlIterI.Nil
import Derived.Shelf.SortM.Plain
import Derived.Shelf.SortM.SortNone
import Derived.Test.YtdhidcoglioalaaGreatProg
import Derived.Test.YtdhidcoglioalaaGreatM03
namespace Go.Proofs
open Go.Shelf
def Tryz.keysA_ren : Go.Shelf.Ren := ⟨fun | 7 => 94 | 10 => 119 | n => n, fun | 23 => 99 | 26 => 3 | 3 => 91 | 28 => 63 | 0 => 0 | 27 => 62 | 33 => 104 | 4 => 4 | n => n, fun | n => n⟩
theorem Tryz.keysA : Go.Proofs.SlLaysZI.n7 Tryz.prog Tryz.keysA_ren := {
  mixed := by kernel_rfl
  f7 := ⟨Tryz.f94.name, by decide, Tryz.func94.trans (congrArg some (by kernel_rfl))⟩
  f10 := ⟨Tryz.f119.name, by decide, Tryz.func119.trans (congrArg some (by kernel_rfl))⟩
  t0 := Tryz.underlying0
  a0 := Tryz.isAgg0
  z0 := Tryz.sizeOf0
  v0 := Tryz.zeroValue0
  t4 := Tryz.underlying4
  a4 := Tryz.isAgg4
  z4 := Tryz.sizeOf4
  v4 := Tryz.zeroValue4
  t23 := Tryz.underlying99
  a23 := Tryz.isAgg99
  z23 := Tryz.sizeOf99
  v23 := Tryz.zeroValue99
  t26 := Tryz.underlying3
  a26 := Tryz.isAgg3
  z26 := Tryz.sizeOf3
  v26 := Tryz.zeroValue3
  t27 := Tryz.underlying62
  a27 := Tryz.isAgg62
  z27 := Tryz.sizeOf62
  v27 := Tryz.zeroValue62
  t28 := Tryz.underlying63
  a28 := Tryz.isAgg63
  z28 := Tryz.sizeOf63
  v28 := Tryz.zeroValue63
  t33 := Tryz.underlying104
  a33 := Tryz.isAgg104
  z33 := Tryz.sizeOf104
  v33 := Tryz.zeroValue104 }
def Tryz.sortedA_ren : Go.Shelf.Ren := ⟨fun | 6 => 24 | 8 => 55 | 9 => 56 | 11 => 70 | 13 => 72 | 12 => 71 | 23 => 104 | 24 => 105 | 14 => 95 | 15 => 96 | 16 => 97 | 17 => 98 | 18 => 99 | 19 => 100 | 20 => 101 | 21 => 102 | 22 => 103 | 25 => 120 | 26 => 121 | 27 => 122 | 28 => 123 | 29 => 124 | 30 => 125 | 31 => 131 | n => n, fun | 26 => 3 | 28 => 63 | 24 => 60 | 0 => 0 | 3 => 3 | 37 => 114 | 48 => 146 | 50 => 96 | 4 => 4 | 40 => 138 | 39 => 137 | 45 => 143 | 5 => 5 | 9 => 9 | 51 => 160 | 55 => 164 | 57 => 171 | 58 => 172 | 33 => 104 | n => n, fun | n => n⟩
theorem Tryz.sortedA : Go.Proofs.SlLaysZI.n6 Tryz.prog Tryz.sortedA_ren := {
  mixed := by kernel_rfl
  f6 := ⟨Tryz.f24.name, by decide, Tryz.func24.trans (congrArg some (by kernel_rfl))⟩
  f8 := ⟨Tryz.f55.name, by decide, Tryz.func55.trans (congrArg some (by kernel_rfl))⟩
  f11 := ⟨Tryz.f70.name, by decide, Tryz.func70.trans (congrArg some (by kernel_rfl))⟩
  t0 := Tryz.underlying0
  a0 := Tryz.isAgg0
  z0 := Tryz.sizeOf0
  v0 := Tryz.zeroValue0
  t24 := Tryz.underlying60
  a24 := Tryz.isAgg60
  z24 := Tryz.sizeOf60
  v24 := Tryz.zeroValue60
  t26 := Tryz.underlying3
  a26 := Tryz.isAgg3
  z26 := Tryz.sizeOf3
  v26 := Tryz.zeroValue3
  t28 := Tryz.underlying63
  a28 := Tryz.isAgg63
  z28 := Tryz.sizeOf63
  v28 := Tryz.zeroValue63
  i26 := by kernel_rfl }
def Tryz.sortA_ren : Go.Shelf.Ren := ⟨fun | 5 => 56 | 8 => 72 | 7 => 71 | 19 => 104 | 20 => 105 | 10 => 95 | 11 => 96 | 12 => 97 | 13 => 98 | 14 => 99 | 15 => 100 | 16 => 101 | 17 => 102 | 18 => 103 | 30 => 120 | 31 => 121 | 32 => 122 | 33 => 123 | 34 => 124 | 35 => 125 | 40 => 131 | n => n, fun | 23 => 60 | 25 => 3 | 3 => 3 | 32 => 114 | 22 => 60 | 0 => 0 | 44 => 146 | 46 => 96 | 4 => 4 | 36 => 138 | 35 => 137 | 41 => 143 | 5 => 5 | 9 => 9 | 53 => 160 | 57 => 164 | 63 => 171 | 64 => 172 | n => n, fun | n => n⟩
theorem Tryz.sortA : Go.Proofs.SlLaysM.n5 Tryz.prog Tryz.sortA_ren := {
  mixed := by kernel_rfl
  f5 := ⟨Tryz.f56.name, by decide, Tryz.func56.trans (congrArg some (by kernel_rfl))⟩
  f7 := ⟨Tryz.f71.name, by decide, Tryz.func71.trans (congrArg some (by kernel_rfl))⟩
  f8 := Tryz.func72.trans (congrArg some (by kernel_rfl))
  f10 := ⟨Tryz.f95.name, by decide, Tryz.func95.trans (congrArg some (by kernel_rfl))⟩
  f11 := ⟨Tryz.f96.name, by decide, Tryz.func96.trans (congrArg some (by kernel_rfl))⟩
  f12 := ⟨Tryz.f97.name, by decide, Tryz.func97.trans (congrArg some (by kernel_rfl))⟩
  f13 := ⟨Tryz.f98.name, by decide, Tryz.func98.trans (congrArg some (by kernel_rfl))⟩
  f14 := ⟨Tryz.f99.name, by decide, Tryz.func99.trans (congrArg some (by kernel_rfl))⟩
  f15 := ⟨Tryz.f100.name, by decide, Tryz.func100.trans (congrArg some (by kernel_rfl))⟩
  f16 := ⟨Tryz.f101.name, by decide, Tryz.func101.trans (congrArg some (by kernel_rfl))⟩
  f17 := ⟨Tryz.f102.name, by decide, Tryz.func102.trans (congrArg some (by kernel_rfl))⟩
  f18 := ⟨Tryz.f103.name, by decide, Tryz.func103.trans (congrArg some (by kernel_rfl))⟩
  f19 := Tryz.func104.trans (congrArg some (by kernel_rfl))
  f20 := Tryz.func105.trans (congrArg some (by kernel_rfl))
  f30 := ⟨Tryz.f120.name, by decide, Tryz.func120.trans (congrArg some (by kernel_rfl))⟩
  f31 := Tryz.func121.trans (congrArg some (by kernel_rfl))
  f32 := Tryz.func122.trans (congrArg some (by kernel_rfl))
  f33 := ⟨Tryz.f123.name, by decide, Tryz.func123.trans (congrArg some (by kernel_rfl))⟩
  f34 := ⟨Tryz.f124.name, by decide, Tryz.func124.trans (congrArg some (by kernel_rfl))⟩
  f35 := ⟨Tryz.f125.name, by decide, Tryz.func125.trans (congrArg some (by kernel_rfl))⟩
  f40 := ⟨Tryz.f131.name, by decide, Tryz.func131.trans (congrArg some (by kernel_rfl))⟩
  t0 := Tryz.underlying0
  a0 := Tryz.isAgg0
  z0 := Tryz.sizeOf0
  v0 := Tryz.zeroValue0
  t3 := Tryz.underlying3
  a3 := Tryz.isAgg3
  z3 := Tryz.sizeOf3
  v3 := Tryz.zeroValue3
  t4 := Tryz.underlying4
  a4 := Tryz.isAgg4
  z4 := Tryz.sizeOf4
  v4 := Tryz.zeroValue4
  t5 := Tryz.underlying5
  a5 := Tryz.isAgg5
  z5 := Tryz.sizeOf5
  v5 := Tryz.zeroValue5
  t9 := Tryz.underlying9
  a9 := Tryz.isAgg9
  z9 := Tryz.sizeOf9
  v9 := Tryz.zeroValue9
  t22 := Tryz.underlying60
  a22 := Tryz.isAgg60
  z22 := Tryz.sizeOf60
  v22 := Tryz.zeroValue60
  t23 := Tryz.underlying60
  a23 := Tryz.isAgg60
  z23 := Tryz.sizeOf60
  v23 := Tryz.zeroValue60
  t25 := Tryz.underlying3
  a25 := Tryz.isAgg3
  z25 := Tryz.sizeOf3
  v25 := Tryz.zeroValue3
  t32 := Tryz.underlying114
  a32 := Tryz.isAgg114
  z32 := Tryz.sizeOf114
  v32 := Tryz.zeroValue114
  t35 := Tryz.underlying137
  a35 := Tryz.isAgg137
  z35 := Tryz.sizeOf137
  v35 := Tryz.zeroValue137
  t36 := Tryz.underlying138
  a36 := Tryz.isAgg138
  z36 := Tryz.sizeOf138
  v36 := Tryz.zeroValue138
  t41 := Tryz.underlying143
  a41 := Tryz.isAgg143
  z41 := Tryz.sizeOf143
  v41 := Tryz.zeroValue143
  t44 := Tryz.underlying146
  a44 := Tryz.isAgg146
  z44 := Tryz.sizeOf146
  v44 := Tryz.zeroValue146
  t46 := Tryz.underlying96
  a46 := Tryz.isAgg96
  z46 := Tryz.sizeOf96
  v46 := Tryz.zeroValue96
  t53 := Tryz.underlying160
  a53 := Tryz.isAgg160
  z53 := Tryz.sizeOf160
  v53 := Tryz.zeroValue160
  t57 := Tryz.underlying164
  a57 := Tryz.isAgg164
  z57 := Tryz.sizeOf164
  v57 := Tryz.zeroValue164
  t63 := Tryz.underlying171
  a63 := Tryz.isAgg171
  z63 := Tryz.sizeOf171
  v63 := Tryz.zeroValue171
  t64 := Tryz.underlying172
  a64 := Tryz.isAgg172
  z64 := Tryz.sizeOf172
  v64 := Tryz.zeroValue172 }
end Go.Proofs
namespace Go.Proofs
open Go.RowKit Go.Maps Go.Sort Go.Shelf

/-- slices.Sort's two contracts, at the fence that asks nothing. -/
theorem Tryz.sortsA (m : Nat) : AnyZI.SortsIn Tryz.prog Tryz.sortedA_ren Fence.wide m :=
  ⟨fun blk off cap ss W hH hblk hsz => callsIn_wide.2 (AnyM.slices_Sort_int Tryz.sortA blk off cap ss W hH hblk hsz),
   fun p cap W => callsIn_wide.2 (AnyM.slices_Sort_int_none Tryz.sortA p cap W)⟩
end Go.Proofs
namespace Go.Proofs.YtdhidcoglioalaaGreat.Walks
open Go.RowKit Plain
open Go.Maps Go.Sort Go.Shelf
set_option linter.unusedVariables false
theorem keys45 (w : World) (mb : Option Nat) : Calls Tryz.prog 94 #[.map mb] w fun e w' => e = .returned (.func (.func 119) #[] #[.pointer (some ⟨w.heap.size, 0, none⟩)]) ∧ w' = w.alloc (.cells #[.map mb] 99) :=
  (callsIn_wide (n := 5)).1 (AnyZI.keys_in Tryz.keysA Fence.wide 5 trivial rfl mb w)
set_option maxHeartbeats 1000000 in
set_option maxRecDepth 100000 in
theorem sorted_raw (b nn : Nat) (D0 : DM) (R : Value → Option (DM × List MemPlace)) (w : World) (hown : w.ownsMap Tryz.prog 3 R b nn D0) (hmax : Maps.size D0 ≤ maxLen) (hbytes : Maps.size D0 * 8 ≤ 140737488355328) :
    Calls Tryz.prog 24 #[.func (.func 119) #[] #[.pointer (some ⟨w.heap.size, 0, none⟩)]] (w.alloc (.cells #[.map (some b)] 99)) fun e w' => ∃ (v : Value) (ss : List Int), e = .returned v ∧ ss.Perm (intKeys D0) ∧
      w'.ownsRow w.heap.size 3 1 v ss.length ((ss.mergeSort (fun x y => decide (x ≤ y))).map encZ) ∧ (v = .slice none 0 0 ↔ ss = []) ∧ Below w.heap.size w w' := by
  refine (callsIn_wide (n := 5)).1 ?_
  have hbl := hown.lt
  have hseq : SeqGives Fence.wide 2 Tryz.prog 119 #[.pointer (some ⟨w.heap.size, 0, none⟩)] encZ (fun ss => ss.Perm (intKeys D0)) (Maps.size D0) (w.alloc (.cells #[.map (some b)] 99)) :=
    AnyZI.keys_gives (ρ := Tryz.keysA_ren) { Tryz.keysA with } Fence.wide _ trivial rfl (by omega) w.heap.size b nn D0 _ (by simp) (by simp) (by
      obtain ⟨es, clock, hb, Ft, hs, hD⟩ := hown
      exact ⟨es, clock, (Below.heap_alloc _ _ b hbl).trans hb, Ft, hs, hD⟩)
  have cS := AnyZI.sorted_in Tryz.sortedA Fence.wide 5 trivial trivial trivial trivial rfl (by omega) (Tryz.sortsA _) (enters_of Tryz.func56 (by kernel_rfl) rfl) 119 #[.pointer (some ⟨w.heap.size, 0, none⟩)] trivial (enters_of Tryz.func119 (by kernel_rfl) rfl) _ _ hmax hbytes _ hseq
  change CallsIn _ _ Tryz.prog 24 _ _ _ at cS
  refine cS.mono ?_
  rintro e w' ⟨v, ss, rfl, hS, hrow, hnil, hb⟩
  exact ⟨v, ss, rfl, hS, ownsRow_base_a hrow (by simp), hnil, ((Below.refl _ w).alloc (Nat.le_refl _) _).trans (hb.mono (by simp))⟩
/-- Rising ints are the sorted list of whatever list has them. -/
theorem sorted_eq {l m : List Int} (hl : l.Nodup) (hm : m.Pairwise (· < ·)) (hiff : ∀ x, x ∈ l ↔ x ∈ m) : l.mergeSort (fun x y => decide (x ≤ y)) = m := by
  have tr : ∀ a b c : Int, leI a b = true → leI b c = true → leI a c = true := fun a b c h1 h2 => by simp only [leI, decide_eq_true_eq] at *; exact Int.le_trans h1 h2
  have to : ∀ a b : Int, (leI a b || leI b a) = true := fun a b => by simp only [leI, Bool.or_eq_true, decide_eq_true_eq]; exact Int.le_total a b
  have hmn : m.Nodup := hm.imp fun h => Int.ne_of_lt h
  have hp : l.Perm m := (List.perm_ext_iff_of_nodup hl hmn).2 hiff
  refine List.Perm.eq_of_pairwise (le := fun a b => leI a b = true) (fun a b _ _ h1 h2 => ?_) (List.pairwise_mergeSort tr to l) (hm.imp fun h => by simp only [leI, decide_eq_true_eq]; exact Int.le_of_lt h) ((List.mergeSort_perm l leI).trans hp)
  simp only [leI, decide_eq_true_eq] at h1 h2
  exact Int.le_antisymm h1 h2
theorem ws_rise (P : Pl) : (P.ws.map fun (i : Nat) => (i : Int)).Pairwise (· < ·) := by
  refine List.pairwise_map.2 ?_
  have h1 : P.ws.Pairwise (· < ·) := List.Pairwise.filter _ List.pairwise_lt_range
  exact h1.imp fun h => by omega
theorem row_ints {w : World} {base : Nat} {v : Value} {l : List Int} (h : w.ownsRow base 3 1 v l.length (l.map encZ)) (hm : l.length ≤ 9223372036854775807) :
    ∃ a cap, v = .slice a l.length cap ∧ Ints w a l ∧ ∀ ad, a = some ad → base ≤ ad.block := by
  obtain ⟨_, ⟨h1, h2⟩ | ⟨g, cap', cur, h1, hb, hg, hc, hmx, hs, ht⟩⟩ := h
  · have h0 := List.eq_nil_of_length_eq_zero h2
    subst h0
    exact ⟨none, 0, h1, ⟨hm, .inl rfl⟩, (fun _ e => by cases e)⟩
  · refine ⟨_, _, h1, ⟨hm, .inr ⟨g, 0, rfl, fun i hi => ?_⟩⟩, (fun ad e => by cases e; exact hb)⟩
    rw [cell_of_row _ _ _ _ _ _ hg]
    have ht' : cur.toList.take l.length = l.map encZ := by simpa using ht
    have := congrArg (fun z => z[i]?) ht'
    simp only [List.getElem?_take, hi, if_true, List.getElem?_map, List.getElem?_eq_getElem hi, Option.map_some] at this
    rw [Nat.zero_add, ← Array.getElem?_toList]
    exact this
theorem sorted44 (w : World) (q : PLoc) (P : Pl) (h : PlateAt w q P) : Calls Tryz.prog 24 #[.func (.func 119) #[] #[.pointer (some ⟨w.heap.size, 0, none⟩)]] (w.alloc (.cells #[.map (some q.mb)] 99)) fun e w' =>
    ∃ a cap, e = .returned (.slice a P.ws.length cap) ∧ Ints w' a (P.ws.map fun (i : Nat) => (i : Int)) ∧ (∀ ad, a = some ad → w.heap.size ≤ ad.block) ∧ Below w.heap.size w w' := by
  have hbd := h.bound
  have hmost := h.ok.most
  have hlen : P.ws.length ≤ 4096 := by
    have h1 : P.ws.length ≤ (List.range P.n).length := List.length_filter_le _ _
    rw [List.length_range] at h1
    omega
  obtain ⟨nn, D, ho, hm⟩ := h.mp
  have hh := held_of ho
  obtain ⟨k1, k2, k3⟩ := hh.keys
  have hsz : Maps.size D ≤ P.n := by
    rw [← k3]
    exact nodup_bound _ _ k1 fun y hy => hbd y (by rw [← hm y]; exact (k2 y).1 hy)
  have hw : ∀ x : Int, x ∈ intKeys D ↔ x ∈ P.ws.map fun (i : Nat) => (i : Int) := by
    intro x
    rw [k2 x, hm x, List.mem_map]
    constructor
    · intro hx
      have := hbd x hx
      refine ⟨x.toNat, List.mem_filter.2 ⟨List.mem_range.2 (by omega), ?_⟩, by omega⟩
      unfold wmap at hx
      rw [if_pos this.1] at hx
      simpa using hx
    · rintro ⟨i, hi, rfl⟩
      have := (List.mem_filter.1 hi).2
      unfold wmap
      simpa using this
  refine Calls.mono (sorted_raw q.mb nn D (RE ES) w ho (by unfold maxLen; omega) (by omega)) ?_
  rintro e w' ⟨v, ss, rfl, hS, hrow, hnil, hb⟩
  have hss : ss.mergeSort (fun x y => decide (x ≤ y)) = P.ws.map fun (i : Nat) => (i : Int) :=
    sorted_eq (hS.nodup_iff.2 k1) (ws_rise P) (fun x => (hS.mem_iff).trans (hw x))
  have hl : ss.length = (P.ws.map fun (i : Nat) => (i : Int)).length := by rw [← hss]; exact (List.length_mergeSort ss).symm
  rw [hss, hl] at hrow
  obtain ⟨a, cap, rfl, h1, h2⟩ := row_ints hrow (by rw [List.length_map]; omega)
  exact ⟨a, cap, by rw [List.length_map], h1, h2, hb⟩
end Go.Proofs.YtdhidcoglioalaaGreat.Walks
namespace Go.Proofs.YtdhidcoglioalaaGreat.Walks
open Go.RowKit Plain
set_option linter.unusedVariables false
attribute [local go_sem ↓] exec_load88 exec_store88 exec_alloc88
attribute [local go_sem] isPt_mk adOf_mk isSec_mk sOf_mk alloc_setCells is_new at_new room_new is_past at_past room_past is_drew at_drew room_drew setCells_past setCells_size setCells_drew

def midP (P : Pl) (l : List Bool) (k : Nat) : Pl := { P with stays := P.midS l k }
theorem midP_zero (P : Pl) (l : List Bool) : midP P l 0 = P := by unfold midP; rw [Pl.midS_zero]
set_option maxHeartbeats 1000000 in
set_option maxRecDepth 10000 in
theorem gone_any (w : World) (q : PLoc) (P : Pl) (h : PlateAt w q P) (a : Option Addr) (l : List Bool) (cap : Nat) (hB : Bools w a l) (hdis : l ≠ [] → ∀ ad, a = some ad → ad.block ∉ q.R) :
    Calls Tryz.prog 69 #[pv q, .slice a l.length cap] w fun e w' => (∃ v, e = .returned v) ∧ PlateAt w' q (P.gone l) ∧ Only q.R w w' := by
  have c1 := h.c1
  have hp := h.lt _ q.inP
  obtain ⟨m, hm⟩ : ∃ m, m = P.ws.length := ⟨_, rfl⟩
  obtain ⟨n, hn⟩ : ∃ n, n = l.length := ⟨_, rfl⟩
  have hmm : m ≤ 4096 := by
    have h1 : P.ws.length ≤ (List.range P.n).length := List.length_filter_le _ _
    have h2 := h.ok.most
    rw [List.length_range] at h1
    omega
  have hk := sorted44 w q P h
  rw [← hm] at hk
  rw [← hn]
  have HM := Lib.hid hm
  have HN := Lib.hid hn
  have HK := Lib.hid hk
  have HP := Lib.hid h
  have HB := Lib.hid hB
  have HD := Lib.hid hdis
  have hn' : n ≤ 140737488355328 := by have := hB.1; omega
  clear hm hn hk h hB hdis
  go_enter Tryz.func69, Tryz.ntmps69
  go_wp2_with fail
  refine Calls.mono (keys45 _ _) ?_
  rintro e w1 ⟨rfl, rfl⟩
  go_wp2_with fail
  refine Calls.mono HK.out ?_
  rintro e w2 ⟨a2, cap2, rfl, hI, hfr, hb⟩
  have HI := Lib.hid hI
  have HF := Lib.hid hfr
  have HBe := Lib.hid hb
  have H2 := Lib.hid (HP.out.below hb)
  have HB2 := Lib.hid (HB.out.below hb)
  have HLt := Lib.hid (HP.out.lt)
  clear hI hfr hb HK c1 hp
  go_wp2_with fail
  go_loopw [13] (fun i wr => ∃ k : Nat, k ≤ m ∧ i = .int .i64 k ∧ Hid (PlateAt wr q (midP P l k)) ∧ Hid (Only q.R w2 wr)) (fun i _ => m - (RowKit.intOf i).toNat)
  case atStart => exact ⟨0, by omega, rfl, Lib.hid (by rw [midP_zero]; exact H2.out), Lib.hid (Only.refl _ _)⟩
  case round =>
    obtain ⟨k, hk, rfl, HW, HO⟩ := hrel
    by_cases hlt : k < m
    · have hk1 : k < P.ws.length := by have := HM.out; omega
      obtain ⟨b, off, rfl, hb0, hc⟩ := HI.out.at_lt (k := k) (by simpa using hk1)
      obtain ⟨i, hi⟩ : ∃ i, i = P.ws[k] := ⟨_, rfl⟩
      have hcell : wr.cell? ⟨b, off + k, none⟩ = some (.int .i64 (i : Int)) := by
        have h1 := hc k (by simpa using hk1)
        rw [List.getElem_map, ← hi] at h1
        exact HO.out.cell (fun hm => Nat.lt_irrefl _ (Nat.lt_of_lt_of_le (HLt.out _ hm) (HF.out ⟨b, off, none⟩ rfl))) h1
      obtain ⟨hr1, hr2, hr3⟩ := P.ws_at hk1
      rw [← hi] at hr1 hr2 hr3
      have c0 := HW.out.c0
      have c1 := HW.out.c1
      obtain ⟨s, hs⟩ := Option.isSome_iff_exists.1 hr2
      have hwf : Wf (i : Int) := Wf.of (by omega) (by have := HP.out.ok.most; omega)
      have hlk : (Instr.lookup 99 (.map (some q.mb)) (.int .i64 (i : Int)) false).run Tryz.prog wr.drew = .ok (secV s) wr.drew := by
        have := HW.out.drew.mp.look (t := 99) (e := 91) false Tryz.underlying99 (zero88 _) hwf
        have hm : wmap (midP P l k).waits (i : Int) = some (secV s) := by unfold wmap midP; simp [hs]
        rw [hm] at this
        exact this
      have hroom := HW.out.drew.room (i := i) (by exact hr3)
      have hlt0 := HW.out.lt _ q.inP
      have hn0 : (midP P l k).n = P.n := rfl
      rw [hn0] at c0
      obtain ⟨pn, hpn⟩ : ∃ pn, pn = P.n := ⟨_, rfl⟩
      rw [← hpn] at c0 hr3
      have HI1 := Lib.hid hi
      have HK1 := Lib.hid hk1
      have HPN := Lib.hid hpn
      have HS := Lib.hid hs
      clear hc hi hr1 hr2 hs hwf hn0 hpn hk
      by_cases hkn : k < n
      · have hkl : k < l.length := by have := HN.out; omega
        obtain ⟨b', off', rfl, hb0', hc'⟩ := HB2.out.at_lt hkl
        obtain ⟨t, ht⟩ : ∃ t, t = l[k] := ⟨_, rfl⟩
        have hcell' : wr.cell? ⟨b', off' + k, none⟩ = some (.bool t) := by
          rw [ht]; exact HO.out.cell (HD.out (List.ne_nil_of_length_pos (by omega)) ⟨b', off', none⟩ rfl) (hc' k hkl)
        have hgt : l.getD k false = t := by rw [ht, List.getD_eq_getElem?_getD, List.getElem?_eq_getElem hkl]; rfl
        have HGT := Lib.hid hgt
        clear hc' ht hkl hgt
        cases t
        · go_wp2
          go_roundw
          case rel =>
            refine ⟨k + 1, by omega, by go_num, Lib.hid ?_, HO⟩
            unfold midP
            rw [Pl.midS_drop P l HK1.out HGT.out]
            exact HW.out
          case measure => simp [RowKit.intOf]; omega
        · go_wp2_with fail
          go_region
          go_wp2
          go_roundw
          case rel =>
            refine ⟨k + 1, by omega, by go_num, Lib.hid ?_, Lib.hid ?_⟩
            · have h1 := HW.out.setSec (i := i) (by exact HPN.out ▸ hr3) s
              unfold midP
              rw [Pl.midS_keep P l HK1.out HGT.out, ← HI1.out, HS.out]
              exact h1.drew
            · exact (Only.setCells q.inS _ _ HO.out).drew
          case measure => simp [RowKit.intOf]; omega
      · have hgt : l.getD k false = false := by
          rw [List.getD_eq_getElem?_getD, List.getElem?_eq_none (by have := HN.out; omega)]; rfl
        have HGT := Lib.hid hgt
        clear hgt
        go_wp2
        go_roundw
        case rel =>
          refine ⟨k + 1, by omega, by go_num, Lib.hid ?_, HO⟩
          unfold midP
          rw [Pl.midS_drop P l HK1.out HGT.out]
          exact HW.out
        case measure => simp [RowKit.intOf]; omega
    · obtain rfl : k = m := by omega
      have c1 := HW.out.c1
      obtain ⟨w3, hcl, hm3, hg3, hz3⟩ := HW.out.mp.clear (t := 99) (e := 91) Tryz.underlying99 0
      have h3 : PlateAt w3 q { midP P l k with waits := fun _ => none } := HW.out.setMap hg3 (by rw [wmap_none]; exact hm3) (fun _ _ => rfl)
      have c2 := h3.c2
      have c3 := h3.c3
      have f2 := h3.fz 2
      have f3 := h3.fz 3
      have hp := h3.lt _ q.inP
      have H3 := Lib.hid h3
      have HM3 := Lib.hid hm3
      have HO3 := Lib.hid ((HO.out).trans (Only.of_grown hg3 q.inM))
      clear h3 hm3 hg3
      go_wp2
      go_end0
      refine ⟨⟨_, rfl⟩, ?_, ?_⟩
      · have h1 := H3.out.setCell (i := 2) (v := .bool true) (by omega) { midP P l k with waits := fun _ => none, dead := true } rfl rfl rfl rfl ⟨HP.out.ok.pos, HP.out.ok.most, fun _ _ => rfl, HP.out.ok.left⟩ (by simp) (by simp) (by simp) (by simp)
        have h2 := h1.setCell (i := 3) (v := .bool false) (by omega) { midP P l k with waits := fun _ => none, dead := true, fails := false } rfl rfl rfl rfl ⟨HP.out.ok.pos, HP.out.ok.most, fun _ _ => rfl, HP.out.ok.left⟩ (by simp) (by simp) (by simp) (by simp)
        refine h2.congr rfl (fun i hi => ?_) rfl rfl rfl rfl rfl
        have := HM.out
        subst this
        exact congrArg secL (Pl.midS_end P l hi).symm
      · exact (Only.of_below HBe.out).trans ((HO3.out.setCell q.inP _).setCell q.inP _)
end Go.Proofs.YtdhidcoglioalaaGreat.Walks
namespace Go.Proofs.YtdhidcoglioalaaGreat.Walks
open Go.RowKit Plain
set_option linter.unusedVariables false
attribute [local go_sem ↓] exec_load88 exec_store88 exec_alloc88
attribute [local go_sem] isPt_mk adOf_mk isSec_mk sOf_mk alloc_setCells is_new at_new room_new is_past at_past room_past is_drew at_drew room_drew setCells_past setCells_size setCells_drew

def doE (P : Pl) : Int := if P.goes then 50 else 0
set_option maxRecDepth 10000 in
theorem doing_any (w : World) (q : PLoc) (P : Pl) (h : PlateAt w q P) : Calls Tryz.prog 53 #[pv q] w fun e w' => e = .returned (.int .i64 (doE P)) ∧ PlateAt w' q P.did ∧ Only q.R w w' := by
  have c3 := h.c3
  have c4 := h.c4
  obtain ⟨ka, kc, c5, hB, hdis⟩ := h.c5
  have f4 := h.fz 4
  have hp := h.lt _ q.inP
  have hok := h.ok
  have HG := Lib.hid (gone_any w q P h ka P.keep kc hB (fun h0 ad e => (hdis h0 ad e).1))
  have H := Lib.hid h
  clear h hB hdis
  cases hf : P.fails
  · have e1 : doE P = 0 := by simp [doE, Pl.goes, hf]
    have e2 : P.did = P := by simp [Pl.did, hf]
    rw [e1, e2]
    rw [hf] at c3
    clear hf e1 e2 c4 c5 hok
    go_enter Tryz.func53, Tryz.ntmps53
    go_wp2
    go_ret
    exact ⟨rfl, H.out, Only.refl _ _⟩
  · by_cases hl : 0 < P.left
    · have e1 : doE P = 0 := by simp [doE, Pl.goes, hf, hl]
      have e2 : P.did = { P with left := P.left - 1 } := by simp [Pl.did, hf, hl]
      rw [e1, e2]
      rw [hf] at c3
      have hL := hok.left
      have HOk := Lib.hid (show ({ P with left := P.left - 1 } : Pl).Ok from ⟨hok.pos, hok.most, hok.waits, by show _ ≤ P.left - 1 ∧ P.left - 1 ≤ _; omega⟩)
      obtain ⟨z, hz⟩ : ∃ z, z = P.left := ⟨_, rfl⟩
      rw [← hz] at c4 hl hL
      have hw := IntWalk.i64_in (n := z - 1) (by omega)
      have HZ := Lib.hid hz
      clear hf e1 e2 c5 hok hz
      go_enter Tryz.func53, Tryz.ntmps53
      go_wp2
      go_ret
      refine ⟨rfl, ?_, (Only.refl _ _).setCell q.inP _⟩
      exact H.out.setCell (i := 4) (by omega) { P with left := P.left - 1 } rfl rfl rfl rfl HOk.out (by simp) (by simp) (by simp [HZ.out]) (by simp)
    · have e1 : doE P = 50 := by simp [doE, Pl.goes, hf, hl]
      have e2 : P.did = P.gone P.keep := by simp [Pl.did, hf, hl]
      rw [e1, e2]
      rw [hf] at c3
      obtain ⟨z, hz⟩ : ∃ z, z = P.left := ⟨_, rfl⟩
      rw [← hz] at c4 hl
      clear hf e1 e2 hok hz
      go_enter Tryz.func53, Tryz.ntmps53
      go_wp2_with fail
      refine Calls.mono HG.out ?_
      rintro e w' ⟨⟨v, rfl⟩, hP, hO⟩
      have HP := Lib.hid hP
      have HO := Lib.hid hO
      clear hP hO
      go_wp2
      go_ret
      exact ⟨rfl, HP.out, HO.out⟩
theorem may_dead {P : Pl} (h : P.dead = true) : P.may = 50 := by simp [Pl.may, h]
theorem may_live {P : Pl} (h : P.dead = false) : P.may = 0 := by simp [Pl.may, h]
set_option maxRecDepth 10000 in
theorem crash_any (w : World) (q : PLoc) (P : Pl) (h : PlateAt w q P) (a : Option Addr) (l : List Bool) (cap : Nat) (hB : Bools w a l) (hdis : l ≠ [] → ∀ ad, a = some ad → ad.block ∉ q.R) :
    Calls Tryz.prog 73 #[pv q, .slice a l.length cap] w fun e w' => e = .returned (.int .i64 P.may) ∧ PlateAt w' q (P.crash l) ∧ Only q.R w w' := by
  have HC := Lib.hid (may_any w q P h)
  have HG := Lib.hid (gone_any w q P h a l cap hB hdis)
  have H := Lib.hid h
  clear h hB hdis
  obtain ⟨n, hn⟩ : ∃ n, n = l.length := ⟨_, rfl⟩
  rw [← hn] at HG ⊢
  clear hn
  cases hd : P.dead
  · rw [may_live hd] at HC ⊢
    have e2 : P.crash l = P.gone l := by simp [Pl.crash, hd]
    rw [e2]
    clear hd e2
    go_enter Tryz.func73, Tryz.ntmps73
    go_wp2_with fail
    refine Calls.mono HC.out ?_
    rintro e w' ⟨rfl, rfl⟩
    go_wp2_with fail
    refine Calls.mono HG.out ?_
    rintro e w' ⟨⟨v, rfl⟩, hP, hO⟩
    have HP := Lib.hid hP
    have HO := Lib.hid hO
    clear hP hO
    go_wp2
    go_ret
    exact ⟨rfl, HP.out, HO.out⟩
  · rw [may_dead hd] at HC ⊢
    have e2 : P.crash l = P := by simp [Pl.crash, hd]
    rw [e2]
    clear hd e2
    go_enter Tryz.func73, Tryz.ntmps73
    go_wp2_with fail
    refine Calls.mono HC.out ?_
    rintro e w' ⟨rfl, rfl⟩
    go_wp2
    go_ret
    exact ⟨rfl, H.out, Only.refl _ _⟩
set_option maxRecDepth 10000 in
theorem fail_any (w : World) (q : PLoc) (P : Pl) (h : PlateAt w q P) (n : Int) (hn : -9223372036854775808 ≤ n ∧ n ≤ 9223372036854775807) (a : Option Addr) (l : List Bool) (cap : Nat) (hB : Bools w a l) (hcap : a = none → cap = 0) :
    Calls Tryz.prog 43 #[pv q, .int .i64 n, .slice a l.length cap] w fun e w' => e = .returned (.int .i64 P.may) ∧ PlateAt w' q (P.fail n l) ∧ Only q.R w w' := by
  have HC := Lib.hid (may_any w q P h)
  have HCl := Lib.hid (cloneBo_any a cap l w hB hcap)
  have H := Lib.hid h
  clear h hB
  obtain ⟨m, hm⟩ : ∃ m, m = l.length := ⟨_, rfl⟩
  rw [← hm] at HCl ⊢
  have HM := Lib.hid hm
  clear hm
  cases hd : P.dead
  · rw [may_live hd] at HC ⊢
    have e2 : P.fail n l = P.failed n l := by simp [Pl.fail, hd]
    rw [e2]
    clear hd e2
    have HN := Lib.hid hn
    clear hn
    go_enter Tryz.func43, Tryz.ntmps43
    go_wp2_with fail
    refine Calls.mono HC.out ?_
    rintro e w' ⟨rfl, rfl⟩
    go_wp2_with fail
    refine Calls.mono HCl.out ?_
    rintro e w1 ⟨a', cap', rfl, hB', ha', hb⟩
    rw [← HM.out]
    have h1 := H.out.below hb
    have c3 := h1.c3
    have c4 := h1.c4
    obtain ⟨a0, cap0, c5, _, _⟩ := h1.c5
    obtain ⟨n0, hn0⟩ : ∃ n0, n0 = P.keep.length := ⟨_, rfl⟩
    rw [← hn0] at c5
    have g3 := h1.fz 3
    have g4 := h1.fz 4
    have g5 := h1.fz 5
    have hp := h1.lt _ q.inP
    have H1 := Lib.hid h1
    have HB' := Lib.hid hB'
    have HA := Lib.hid ha'
    have HBe := Lib.hid hb
    clear h1 hB' ha' hb hn0
    go_wp2
    go_ret
    have k1 := H1.out.setCell (i := 3) (v := .bool (decide (0 ≤ n))) (by omega) { P with fails := decide (0 ≤ n) } rfl rfl rfl rfl ⟨H1.out.ok.pos, H1.out.ok.most, H1.out.ok.waits, H1.out.ok.left⟩ (by simp) (by simp) (by simp) (by simp)
    have k2 := k1.setCell (i := 4) (v := .int .i64 n) (by omega) { P with fails := decide (0 ≤ n), left := n } rfl rfl rfl rfl ⟨H1.out.ok.pos, H1.out.ok.most, H1.out.ok.waits, HN.out⟩ (by simp) (by simp) (by simp) (by simp)
    have hbw : ∀ {wx : World}, Only [q.p] w1 wx → Bools wx a' l := fun ho => Only.bools ho (fun _ ad e => by have h1 := HA.out ad e; have h2 := H.out.lt _ q.inP; simp; omega) HB'.out
    have k3 := k2.setKeep (a := a') (l := l) (cap := cap') (hbw (((Only.refl _ _).setCell (by simp) _).setCell (by simp) _)) (fun _ ad e => ⟨fun hm => by have h1 := HA.out ad e; have h2 := H.out.lt _ hm; omega, fun hm => by have h1 := HA.out ad e; have h2 := H.out.bl _ hm; omega⟩)
    rw [← HM.out] at k3
    refine ⟨rfl, k3, (Only.of_below HBe.out).trans ((((Only.refl _ _).setCell q.inP _).setCell q.inP _).setCell q.inP _)⟩
  · rw [may_dead hd] at HC ⊢
    have e2 : P.fail n l = P := by simp [Pl.fail, hd]
    rw [e2]
    clear hd e2
    go_enter Tryz.func43, Tryz.ntmps43
    go_wp2_with fail
    refine Calls.mono HC.out ?_
    rintro e w' ⟨rfl, rfl⟩
    go_wp2
    go_ret
    exact ⟨rfl, H.out, Only.refl _ _⟩
end Go.Proofs.YtdhidcoglioalaaGreat.Walks
