/-
  A law's small calls: blocks of one byte, all blocks, a plate and a journal on it.
-/
import Derived.Test.YtdhidcoglioalaaGreatM28
import Derived.Test.YtdhidcoglioalaaGreatM25
import Derived.Test.YtdhidcoglioalaaGreatM32
import Derived.Test.YtdhidcoglioalaaGreatM34
namespace Go.Proofs.YtdhidcoglioalaaGreat.Walks
open Go.RowKit Plain Jn
set_option linter.unusedVariables false
attribute [local go_sem ↓] exec_load112 exec_store112 exec_alloc112
section
variable {w w' : World} {j : JLoc} {q : PLoc} {J J' : Jn} {P P' : Pl}
theorem jread_bel (h : JP w j q J P) (hdl : P.dead = false) (i : Int) : Calls Tryz.prog 4 #[jv j, .int .i64 i] w fun e w' => (∃ v, e = .returned (.tuple #[v, .int .i64 (readE P J i)]) ∧ ReadV w w' v (readE P J i) (readB P J i)) ∧ JP w' j q (readJ P J i) P ∧ Below w.heap.size w w' := by
  cases hb : J.broken with
  | true =>
    have e1 : readE P J i = 50 := by unfold readE; rw [hb]; simp
    have e2 : readJ P J i = J := by unfold readJ; rw [hb]; simp
    rw [e1, e2]
    refine Calls.mono (read_broken h i hb) ?_
    rintro e w' ⟨rfl, rfl⟩
    exact ⟨⟨_, rfl, by unfold ReadV; rw [if_neg (by omega)]⟩, h, Below.refl _ _⟩
  | false =>
    by_cases h0 : i < 0
    · have e1 : readE P J i = 9 := by unfold readE; rw [hb]; simp [h0]
      have e2 : readJ P J i = J := by unfold readJ; rw [hb]; simp [h0]
      rw [e1, e2]
      refine Calls.mono (read_neg h i hb h0) ?_
      rintro e w' ⟨rfl, rfl⟩
      exact ⟨⟨_, rfl, by unfold ReadV; rw [if_neg (by omega)]⟩, h, Below.refl _ _⟩
    · by_cases h1 : (J.blocks P.n : Int) ≤ i
      · have e1 : readE P J i = 9 := by unfold readE; rw [hb]; simp [h1]
        have e2 : readJ P J i = J := by unfold readJ; rw [hb]; simp [h1]
        rw [e1, e2]
        refine Calls.mono (read_high h i hb (by omega) h1) ?_
        rintro e w' ⟨rfl, n, rfl⟩
        exact ⟨⟨_, rfl, by unfold ReadV; rw [if_neg (by omega)]⟩, h.drewN n, below_drewN (Below.refl _ _) n⟩
      · obtain ⟨k, rfl⟩ : ∃ k : Nat, i = k := ⟨i.toNat, by omega⟩
        have hk : k < J.blocks P.n := by omega
        have hno : ¬ ((k : Int) < 0 ∨ (J.blocks P.n : Int) ≤ (k : Int)) := by omega
        have hbl : J.blocks P.n = P.n - 2 - J.log := by unfold Jn.blocks; rw [hb]; simp
        have hhome : J.home k < P.n := by unfold Jn.home; have := h.ok.logn; omega
        cases hp : J.pend k with
        | some b =>
          have e1 : readE P J k = 0 := by unfold readE; rw [hb, if_neg hno, Int.toNat_natCast, hp]; simp
          have e2 : readJ P J k = J := by unfold readJ; rw [hb, if_neg hno, Int.toNat_natCast, hp]; simp
          have e3 : readB P J k = b := by unfold readB; rw [Int.toNat_natCast, hp]
          rw [e1, e2, e3]
          refine Calls.mono (read_pend h k hb hk hp) ?_
          rintro e w' ⟨⟨g, rfl, h2, h3, h4⟩, hj, hbe⟩
          exact ⟨⟨_, rfl, by unfold ReadV; rw [if_pos rfl]; exact ⟨g, 0, rfl, h2, h3, h4⟩⟩, hj, hbe⟩
        | none =>
          have e3 : readB P J k = homeB (P.seen (J.home k)) := by unfold readB; rw [Int.toNat_natCast, hp]
          cases hd : P.dead with
          | true => rw [hdl] at hd; cases hd
          | false =>
            have hh : P.has (J.home k : Nat) = 0 := by unfold Pl.has; rw [hd, if_neg (by simp), if_neg (by omega)]
            have e1 : readE P J k = homeE (P.seen (J.home k)) k := by unfold readE; rw [hb, if_neg hno, Int.toNat_natCast, hp]; simp [hh]
            have e2 : readJ P J k = J := by unfold readJ; rw [hb, if_neg hno, Int.toNat_natCast, hp]; simp [hh]
            rw [e1, e2, e3]
            cases hk1 : isBlank (P.seen (J.home k)) with
            | true =>
              have e4 : homeE (P.seen (J.home k)) k = 0 := by unfold homeE; rw [hk1]; simp
              have e5 : homeB (P.seen (J.home k)) = zeroB := by unfold homeB; rw [hk1]; simp
              rw [e4, e5]
              refine Calls.mono (read_blank h k hb hk hp hd hk1) ?_
              rintro e w' ⟨⟨g, rfl, h2, h3, h4⟩, hj, hbe⟩
              exact ⟨⟨_, rfl, by unfold ReadV; rw [if_pos rfl]; exact ⟨g, 0, rfl, h2, h3, h4⟩⟩, hj, hbe⟩
            | false =>
              have e5 : homeB (P.seen (J.home k)) = (parseS (P.seen (J.home k))).data := by unfold homeB; rw [hk1]; simp
              have bad : homeE (P.seen (J.home k)) k = 70 → (Calls Tryz.prog 4 #[jv j, .int .i64 k] w fun e w' => e = .returned (.tuple #[.slice none 0 0, .int .i64 70]) ∧ JP w' j q J P ∧ Below w.heap.size w w') →
                  Calls Tryz.prog 4 #[jv j, .int .i64 k] w fun e w' => (∃ v, e = .returned (.tuple #[v, .int .i64 (homeE (P.seen (J.home k)) k)]) ∧ ReadV w w' v (homeE (P.seen (J.home k)) k) (homeB (P.seen (J.home k)))) ∧ JP w' j q J P ∧ Below w.heap.size w w' := fun e hc => by
                rw [e]
                refine Calls.mono hc ?_
                rintro e w' ⟨rfl, hj, hbe⟩
                exact ⟨⟨_, rfl, by unfold ReadV; rw [if_neg (by omega)]⟩, hj, hbe⟩
              cases hok : parseOk (P.seen (J.home k)) with
              | false => exact bad (by unfold homeE; rw [hk1, hok]; simp) (read_bad1 h k hb hk hp hd hk1 hok)
              | true =>
                cases h2 : ((parseS (P.seen (J.home k))).kind != 4) with
                | true => exact bad (by unfold homeE; rw [hk1, hok, h2]; simp) (read_bad2 h k hb hk hp hd hk1 hok h2)
                | false =>
                  cases h3 : ((parseS (P.seen (J.home k))).turn != 0) with
                  | true => exact bad (by unfold homeE; rw [hk1, hok, h2, h3]; simp) (read_bad3 h k hb hk hp hd hk1 hok h2 h3)
                  | false =>
                    cases h4 : ((parseS (P.seen (J.home k))).number != (k : Int)) with
                    | true => exact bad (by unfold homeE; rw [hk1, hok, h2, h3, h4]; simp) (read_bad4 h k hb hk hp hd hk1 hok h2 h3 h4)
                    | false =>
                      have e4 : homeE (P.seen (J.home k)) k = 0 := by unfold homeE; rw [hk1, hok, h2, h3, h4]; simp
                      rw [e4, e5]
                      refine Calls.mono (read_good h k hb hk hp hd hk1 hok h2 h3 h4) ?_
                      rintro e w' ⟨⟨g, rfl, h2, h3, h4⟩, hj, hbe⟩
                      exact ⟨⟨_, rfl, by unfold ReadV; rw [if_pos rfl]; exact ⟨g, 3, rfl, h2, h3, h4⟩⟩, hj, hbe⟩

/-! ### Blocks of one byte -/
theorem blkL_set (x : Blk) {k : Nat} (hk : k < 48) (b : Byte) : (blkL x).toArray.setIfInBounds k (.int .u8 (b.toNat : Int)) = (blkL (upd x k b)).toArray := by
  apply Array.ext_getElem?
  intro i
  have hg : ∀ y : Blk, (blkL y).toArray[i]? = if i < 48 then some (byteV (y i)) else none := fun y => by
    unfold blkL
    by_cases hi : i < 48
    · rw [if_pos hi, List.getElem?_toArray, List.getElem?_map, bytesB_get y hi]; rfl
    · rw [if_neg hi]
      exact Array.getElem?_eq_none (by rw [List.size_toArray, List.length_map, bytesB_length]; omega)
  rw [Array.getElem?_setIfInBounds, hg, hg, List.size_toArray, blkL_length]
  by_cases e : k = i
  · subst e
    rw [if_pos rfl, if_pos hk, if_pos hk, upd_same]; rfl
  · rw [if_neg e, upd_other _ _ (fun h => e h.symm)]
def fillB (b : Byte) (k : Nat) : Blk := fun j => if j < k then b else 0
theorem fillB_step (b : Byte) {k : Nat} (hk : k < 48) : (blkL (fillB b k)).toArray.setIfInBounds k (.int .u8 (b.toNat : Int)) = (blkL (fillB b (k + 1))).toArray := by
  rw [blkL_set _ hk]
  congr 2
  funext j
  unfold upd fillB
  by_cases e : j = k
  · subst e; simp
  · rw [if_neg e]
    by_cases h : j < k
    · rw [if_pos h, if_pos (by omega)]
    · rw [if_neg h, if_neg (by omega)]
theorem fillB_zero (b : Byte) : fillB b 0 = zeroB := by funext j; simp [fillB, zeroB]
theorem fillB_end (b : Byte) : fillB b 48 = oneB b := by funext j; simp [fillB, oneB]
set_option maxRecDepth 10000 in
theorem data_any (b : Byte) (w : World) : Calls Tryz.prog 11 #[.int .u8 (b.toNat : Int)] w fun e w' => e = .returned (.slice (some ⟨w.heap.size, 0, none⟩) 48 48) ∧ w' = w.alloc (.cells (blkL (oneB b)).toArray 5) := by
  have hmk := make48 w
  go_enter Tryz.func11, Tryz.ntmps11
  go_wp2_with fail
  go_loopw [4] (fun i wr => ∃ k : Nat, k ≤ 48 ∧ i = .int .i64 k ∧ wr = w.alloc (.cells (blkL (fillB b k)).toArray 5)) (fun i _ => 48 - (RowKit.intOf i).toNat)
  case atStart => exact ⟨0, by omega, rfl, by rw [fillB_zero]⟩
  case round =>
    obtain ⟨k, hk, rfl, rfl⟩ := hrel
    by_cases hlt : k < 48
    · have hst := fillB_step b hlt
      have hc : (w.alloc (.cells (blkL (fillB b k)).toArray 5)).cell? ⟨w.heap.size, k, none⟩ = some (byteV (fillB b k k)) := by
        rw [cell_new, List.getElem?_toArray]
        unfold blkL
        rw [List.getElem?_map, bytesB_get _ hlt]
        rfl
      have hf := frozen_new w (blkL (fillB b k)).toArray 5 k
      go_wp2
      go_roundw
      case rel => exact ⟨k + 1, by omega, by go_num, rfl⟩
      case measure => simp [RowKit.intOf]; omega
    · obtain rfl : k = 48 := by omega
      go_wp2
      go_ret
      exact ⟨rfl, by rw [fillB_end]⟩
theorem data_new (w : World) (b : Byte) : (w.alloc (.cells (blkL (oneB b)).toArray 5)).heap[w.heap.size]? = some (.cells ((bytesB (oneB b)).map byteV).toArray 5 (0, 0)) := heap_alloc_new _ _
theorem bys_row {w : World} {g o : Nat} {b : Blk} (h : RowAt w ⟨g, o, none⟩ (blkL b)) : Bys w (some ⟨g, o, none⟩) (bytesB b) := by
  refine ⟨by rw [bytesB_length]; omega, .inr ⟨g, o, rfl, fun i hi => h.cell ?_⟩⟩
  unfold blkL
  rw [List.getElem?_map, List.getElem?_eq_getElem hi]
  rfl
theorem bytes_inj {a b : Byte} : decide (bytesB (oneB a) = bytesB (oneB b)) = (a == b) := by
  rw [Bool.eq_iff_iff]
  simp only [decide_eq_true_eq, beq_iff_eq]
  exact ⟨fun h => oneB_inj (flat_ext (flat_one _) (flat_one _) h), fun h => by rw [h]⟩
theorem eq48 (w : World) (a a' : Option Addr) (l l' : List Byte) (cap cap' : Nat) (h1 : l.length = 48) (h2 : l'.length = 48) (hB : Bys w a l) (hB' : Bys w a' l') : Calls Tryz.prog 65 #[.slice a 48 cap, .slice a' 48 cap'] w fun e w' => e = .returned (.bool (decide (l = l'))) ∧ Below w.heap.size w w' := by
  have := eqBytes_any a a' cap cap' l l' w hB hB'
  rw [h1, h2] at this
  exact this
set_option maxRecDepth 10000 in
/-- Is a block full of a byte. -/
theorem has_is (h : JP w j q J P) (hdl : P.dead = false) (i : Nat) (x b : Byte) (hr : readE P J i = 0 ∧ readB P J i = oneB x ∧ readJ P J i = J) : Calls Tryz.prog 42 #[jv j, .int .i64 i, .int .u8 (b.toNat : Int)] w fun e w' => e = .returned (.bool (x == b)) ∧ JP w' j q J P ∧ Below w.heap.size w w' := by
  have hrd := jread_bel h hdl i
  rw [hr.1, hr.2.1, hr.2.2] at hrd
  have HRd := Lib.hid hrd
  have H := Lib.hid h
  clear h hr hrd hdl
  go_enter Tryz.func42, Tryz.ntmps42
  go_wp2_with fail
  refine Calls.mono HRd.out ?_
  rintro e w1 ⟨⟨v, rfl, hv⟩, hj, hb1⟩
  unfold ReadV at hv
  rw [if_pos rfl] at hv
  obtain ⟨g, o, rfl, hg, hrow, _⟩ := hv
  have HD : Hid (Calls Tryz.prog 11 #[.int .u8 (b.toNat : Int)] w1 fun e w' => e = .returned (.slice (some ⟨w1.heap.size, 0, none⟩) 48 48) ∧ w' = w1.alloc (.cells (blkL (oneB b)).toArray 5)) := Lib.hid (data_any b w1)
  have he := eq48 (w1.alloc (.cells (blkL (oneB b)).toArray 5)) (some ⟨g, o, none⟩) (some ⟨w1.heap.size, 0, none⟩) (bytesB (oneB x)) (bytesB (oneB b)) 48 48 (bytesB_length _) (bytesB_length _) ((bys_row hrow).below (Below.new _ _)) (bys_row (row_new _ _ _ rfl))
  rw [bytes_inj] at he
  have HE := Lib.hid he
  have HJ := Lib.hid hj
  have HB := Lib.hid hb1
  clear hg hrow hj hb1 he
  go_wp2_with fail
  refine Calls.mono HD.out ?_
  rintro e w2 ⟨rfl, rfl⟩
  go_wp2_with fail
  refine Calls.mono HE.out ?_
  rintro e w3 ⟨rfl, hb3⟩
  have HB3 := Lib.hid (Below.step (Below.new _ _) hb3)
  clear hb3
  go_wp2
  go_ret
  exact ⟨by simp, HJ.out.below HB3.out, Below.step HB.out HB3.out⟩
/-! ### Twelve bytes -/
set_option maxRecDepth 10000 in
theorem made_is (n L : Nat) (h2 : 2 ≤ L) (h3 : L + 3 ≤ n) (hn : n ≤ 4096) (w : World) : Calls Tryz.prog 41 #[.int .i64 n, .int .i64 L] w fun e w' => ∃ q j, e = .returned (.tuple #[pv q, jv j, .bool true]) ∧ JP w' j q (formatJ L) (formatP (Pl.made n) L) ∧ Below w.heap.size w w' ∧ (∀ b ∈ j.R q, w.heap.size ≤ b) := by
  have HN := Lib.hid (new_ok w n (by omega) hn)
  obtain ⟨hE, _⟩ := made_ks hn h2 h3
  have HE := Lib.hid hE
  clear hE
  go_enter Tryz.func41, Tryz.ntmps41
  go_wp2_with fail
  refine Calls.mono HN.out ?_
  rintro e w1 ⟨q, rfl, hp, hb, hR, _⟩
  have HF := Lib.hid (format_ok hp L HE.out)
  have HB := Lib.hid hb
  have HR := Lib.hid hR
  have hpv : pv q = pv q := rfl
  clear hp hb hR hpv
  go_wp2_with fail
  refine Calls.mono HF.out ?_
  rintro e w2 ⟨j, rfl, hj, h4, h5, ho⟩
  have HJ := Lib.hid hj
  have HO := Lib.hid (ho.below HB.out HR.out (Nat.le_refl _))
  have HJp := Lib.hid (show ∀ b ∈ j.R (q.banX [j.p, j.m]), w.heap.size ≤ b from fun b hm => by
    have hz := HB.out.size
    simp only [JLoc.R, List.mem_cons] at hm
    rcases hm with rfl | rfl | hm
    · omega
    · omega
    · exact HR.out b hm)
  clear hj h4 h5 ho
  go_wp2
  refine bodyPost_ret (results_tmp3 rfl _ _ _) rfl ?_
  exact ⟨q.banX [j.p, j.m], j, rfl, HJ.out, HO.out, HJp.out⟩
end
end Go.Proofs.YtdhidcoglioalaaGreat.Walks
