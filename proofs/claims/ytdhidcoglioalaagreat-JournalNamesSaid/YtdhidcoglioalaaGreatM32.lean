/-
  A plate is made a journal.
  Deeds: commits of some blocks of one byte each, or a clearing.
-/
import Derived.Test.YtdhidcoglioalaaGreatM31
import Derived.Test.YtdhidcoglioalaaGreatM09
namespace Go.Proofs.YtdhidcoglioalaaGreat.Walks
open Go.RowKit Plain
set_option linter.unusedVariables false
attribute [local go_sem ↓] exec_load116 exec_store116 exec_alloc116 exec_load112 exec_store112 exec_alloc112 exec_build3 exec_build4 Go.wp_at_zero Go.wp_at_succ exec_load112T exec_store116T exec_load116T
attribute [local go_sem] isPt_mk adOf_mk isI_mk iOf_mk cellsV_mk sctL_length blkL_length setCells_drew oneN_sct oneN_blk oneN_fields roomN_new isRow_new cellL_new alloc_setN roomN_past isRow_past cellL_past roomN_drew isRow_drew cellL_drew setCells_size setCells_past
section
variable {w w' : World} {q : PLoc} {P P' : Pl}
theorem ints_head' {h l a t : Nat} (hh : h ≤ 9223372036854775807) (hl : l ≤ 8192) : Sct.Ints (headSct h l a t) := ⟨by show (-9223372036854775808 : Int) ≤ 1 ∧ (1 : Int) ≤ _; omega, by show (-9223372036854775808 : Int) ≤ h ∧ (h : Int) ≤ _; omega, by show (-9223372036854775808 : Int) ≤ l ∧ (l : Int) ≤ _; omega⟩
theorem write_s (w : World) (q : PLoc) (P : Pl) (h : PlateAt w q P) (i : Nat) (s : Sct) {g : Nat} {t : TypeId} (hg : w.heap[g]? = some (.cells ((packL s).map byteV).toArray t (0, 0))) (hn : g ∉ q.R) :
    Calls Tryz.prog 29 #[pv q, .int .i64 i, .slice (some ⟨g, 0, none⟩) 64 64] w fun e w' => e = .returned (.int .i64 ((Wk.wr i (packS s)).err P)) ∧ PlateAt w' q ((Wk.wr i (packS s)).act P) ∧ Only q.R w w' := by
  have hbl : bytesOf (packS s) = packL s := bytesOf_secOf (packL_length s)
  show Calls _ _ _ _ fun e w' => e = .returned (.int .i64 (P.writeE i (bytesOf (packS s)))) ∧ PlateAt w' q (P.write i (bytesOf (packS s))) ∧ Only q.R w w'
  rw [hbl]
  exact write_n w q P h i (some ⟨g, 0, none⟩) (packL s) 64 64 (packL_length s) (bys_of hg (by rw [packL_length]; omega)) (fun _ ad e => by cases e; exact hn)
set_option maxRecDepth 10000 in
theorem head85 (h : PlateAt w q P) {B1 B2 L : Nat} (hL : L ≤ 8192) (b1 : w.heap[B1]? = some (.cells #[pv q] 30 (0, 0))) (b2 : w.heap[B2]? = some (.cells #[.int .i64 L] 3 (0, 0))) (n1 : B1 ∉ q.R) (n2 : B2 ∉ q.R) :
    Calls Tryz.prog 31 #[.pointer (some ⟨B1, 0, none⟩), .pointer (some ⟨B2, 0, none⟩)] w fun e w' => e = .returned (.int .i64 ((Wk.wr 0 (packS (headSct 1 L 0 1))).err P)) ∧ PlateAt w' q ((Wk.wr 0 (packS (headSct 1 L 0 1))).act P) ∧ Only q.R w w' := by
  have MK : Hid (∀ w', Below w.heap.size w w' → w'.cell? ⟨B1, 0, none⟩ = some (pv q) ∧ w'.cell? ⟨B2, 0, none⟩ = some (.int .i64 (L : Int))) := Lib.hid fun w' hb => ⟨keepc hb (one_of b1), keepc hb (one_of b2)⟩
  have MKo : Hid (∀ w' w'', Below w.heap.size w w' → Only q.R w' w'' → w''.cell? ⟨B1, 0, none⟩ = some (pv q) ∧ w''.cell? ⟨B2, 0, none⟩ = some (.int .i64 (L : Int))) := Lib.hid fun w' w'' hb ho => ⟨ho.cell n1 (keepc hb (one_of b1)), ho.cell n2 (keepc hb (one_of b2))⟩
  have hS : Below w.heap.size w w := Below.refl _ _
  obtain ⟨S0, S1⟩ := MK.out w hS
  obtain ⟨s, hs⟩ : ∃ s, s = headSct 1 L 0 1 := ⟨_, rfl⟩
  have HHd : Hid (∀ w', Calls Tryz.prog 26 #[.int .i64 1, .int .i64 (L : Int), .int .i64 0, .int .i64 1] w' fun e w'' => e = .returned (.agg (sctL s).toArray) ∧ Below w'.heap.size w' w'') := Lib.hid fun w' => by
    have := headOf_any w' 1 L 0 1 (by omega) (by omega)
    rw [← hs] at this
    exact this
  have HIn : Hid (Sct.Ints s) := Lib.hid (by rw [hs]; exact ints_head' (by omega) hL)
  rw [← hs]
  have H := Lib.hid h
  have HN : Hid (∀ g, w.heap.size ≤ g → g ∉ q.R) := Lib.hid fun g hg hm => Nat.not_lt_of_le hg (h.lt g hm)
  have HBy : Hid (∀ w', Calls Tryz.prog 32 #[.agg (sctL s).toArray] w' fun e w'' => ∃ g, e = .returned (.slice (some ⟨g, 0, none⟩) 64 64) ∧ w'.heap.size ≤ g ∧ w''.heap[g]? = some (.cells ((packL s).map byteV).toArray 5 (0, 0)) ∧ Below w'.heap.size w' w'') := Lib.hid fun w' => bytes_any w' s HIn.out
  clear h b1 b2 hs hL n1 n2
  go_enter Tryz.func31, Tryz.ntmps31
  go_wp2_with fail
  go_region_held3 (fun w' => w'.cell? ⟨B1, 0, none⟩ = some (pv q) ∧ w'.cell? ⟨B2, 0, none⟩ = some (.int .i64 (L : Int)))
    (first | with_reducible exact MK.out _ hS | with_reducible exact MK.out _ hS.drew | with_reducible exact MKo.out _ _ hS hO)
    ((first
    | (go_at_call 26; ((with_reducible refine Calls.mono (HHd.out _) ?_); rintro e w2 ⟨rfl, hbe⟩; have hS : Below w.heap.size w w2 := (by first | exact Below.step hS hbe | exact Below.step hS.drew hbe); clear hbe))
    | (go_at_call 32; ((with_reducible refine Calls.mono (HBy.out _) ?_); rintro e w3 ⟨g, rfl, hg, hb, hbe⟩; have hS0 := hS; have hS : Below w.heap.size w w3 := (by first | exact Below.step hS hbe | exact Below.step hS.drew hbe); have HG := Lib.hid hb; have HGe := Lib.hid (show w.heap.size ≤ g from Nat.le_trans hS0.size hg); clear hb hg hbe hS0))
    | (go_at_call 29; ((with_reducible refine Calls.mono (write_s _ q P (H.out.below hS) 0 s HG.out (HN.out _ HGe.out)) ?_); rintro e w4 ⟨rfl, hp, ho⟩; have hO := ho; have HP4 := Lib.hid hp; have HO4 := Lib.hid ho; clear hp ho))))
  all_goals
    go_wp2
    go_ret
    exact ⟨rfl, HP4.out, (Only.of_below hS).trans HO4.out⟩
set_option maxRecDepth 10000 in
theorem head87 (h : PlateAt w q P) {B1 B2 L : Nat} (hL : L ≤ 8192) (b1 : w.heap[B1]? = some (.cells #[pv q] 30 (0, 0))) (b2 : w.heap[B2]? = some (.cells #[.int .i64 L] 3 (0, 0))) (n1 : B1 ∉ q.R) (n2 : B2 ∉ q.R) :
    Calls Tryz.prog 33 #[.pointer (some ⟨B1, 0, none⟩), .pointer (some ⟨B2, 0, none⟩)] w fun e w' => e = .returned (.int .i64 ((Wk.wr 1 (packS (headSct 2 L 0 1))).err P)) ∧ PlateAt w' q ((Wk.wr 1 (packS (headSct 2 L 0 1))).act P) ∧ Only q.R w w' := by
  have MK : Hid (∀ w', Below w.heap.size w w' → w'.cell? ⟨B1, 0, none⟩ = some (pv q) ∧ w'.cell? ⟨B2, 0, none⟩ = some (.int .i64 (L : Int))) := Lib.hid fun w' hb => ⟨keepc hb (one_of b1), keepc hb (one_of b2)⟩
  have MKo : Hid (∀ w' w'', Below w.heap.size w w' → Only q.R w' w'' → w''.cell? ⟨B1, 0, none⟩ = some (pv q) ∧ w''.cell? ⟨B2, 0, none⟩ = some (.int .i64 (L : Int))) := Lib.hid fun w' w'' hb ho => ⟨ho.cell n1 (keepc hb (one_of b1)), ho.cell n2 (keepc hb (one_of b2))⟩
  have hS : Below w.heap.size w w := Below.refl _ _
  obtain ⟨S0, S1⟩ := MK.out w hS
  obtain ⟨s, hs⟩ : ∃ s, s = headSct 2 L 0 1 := ⟨_, rfl⟩
  have HHd : Hid (∀ w', Calls Tryz.prog 26 #[.int .i64 2, .int .i64 (L : Int), .int .i64 0, .int .i64 1] w' fun e w'' => e = .returned (.agg (sctL s).toArray) ∧ Below w'.heap.size w' w'') := Lib.hid fun w' => by
    have := headOf_any w' 2 L 0 1 (by omega) (by omega)
    rw [← hs] at this
    exact this
  have HIn : Hid (Sct.Ints s) := Lib.hid (by rw [hs]; exact ints_head' (by omega) hL)
  rw [← hs]
  have H := Lib.hid h
  have HN : Hid (∀ g, w.heap.size ≤ g → g ∉ q.R) := Lib.hid fun g hg hm => Nat.not_lt_of_le hg (h.lt g hm)
  have HBy : Hid (∀ w', Calls Tryz.prog 32 #[.agg (sctL s).toArray] w' fun e w'' => ∃ g, e = .returned (.slice (some ⟨g, 0, none⟩) 64 64) ∧ w'.heap.size ≤ g ∧ w''.heap[g]? = some (.cells ((packL s).map byteV).toArray 5 (0, 0)) ∧ Below w'.heap.size w' w'') := Lib.hid fun w' => bytes_any w' s HIn.out
  clear h b1 b2 hs hL n1 n2
  go_enter Tryz.func33, Tryz.ntmps33
  go_wp2_with fail
  go_region_held3 (fun w' => w'.cell? ⟨B1, 0, none⟩ = some (pv q) ∧ w'.cell? ⟨B2, 0, none⟩ = some (.int .i64 (L : Int)))
    (first | with_reducible exact MK.out _ hS | with_reducible exact MK.out _ hS.drew | with_reducible exact MKo.out _ _ hS hO)
    ((first
    | (go_at_call 26; ((with_reducible refine Calls.mono (HHd.out _) ?_); rintro e w2 ⟨rfl, hbe⟩; have hS : Below w.heap.size w w2 := (by first | exact Below.step hS hbe | exact Below.step hS.drew hbe); clear hbe))
    | (go_at_call 32; ((with_reducible refine Calls.mono (HBy.out _) ?_); rintro e w3 ⟨g, rfl, hg, hb, hbe⟩; have hS0 := hS; have hS : Below w.heap.size w w3 := (by first | exact Below.step hS hbe | exact Below.step hS.drew hbe); have HG := Lib.hid hb; have HGe := Lib.hid (show w.heap.size ≤ g from Nat.le_trans hS0.size hg); clear hb hg hbe hS0))
    | (go_at_call 29; ((with_reducible refine Calls.mono (write_s _ q P (H.out.below hS) 1 s HG.out (HN.out _ HGe.out)) ?_); rintro e w4 ⟨rfl, hp, ho⟩; have hO := ho; have HP4 := Lib.hid hp; have HO4 := Lib.hid ho; clear hp ho))))
  all_goals
    go_wp2
    go_ret
    exact ⟨rfl, HP4.out, (Only.of_below hS).trans HO4.out⟩
/-- The works of Format, as function values. -/
inductive WkF (w : World) (q : PLoc) (L : Nat) : Wk → Value → Prop
  | fl : WkF w q L .fl (.func (.func 21) #[pv q] #[])
  | h0 {B1 B2 : Nat} : w.heap[B1]? = some (.cells #[pv q] 30 (0, 0)) → w.heap[B2]? = some (.cells #[.int .i64 L] 3 (0, 0)) → B1 ∉ q.R → B2 ∉ q.R → WkF w q L (.wr 0 (packS (headSct 1 L 0 1))) (.func (.func 31) #[] #[.pointer (some ⟨B1, 0, none⟩), .pointer (some ⟨B2, 0, none⟩)])
  | h1 {B1 B2 : Nat} : w.heap[B1]? = some (.cells #[pv q] 30 (0, 0)) → w.heap[B2]? = some (.cells #[.int .i64 L] 3 (0, 0)) → B1 ∉ q.R → B2 ∉ q.R → WkF w q L (.wr 1 (packS (headSct 2 L 0 1))) (.func (.func 33) #[] #[.pointer (some ⟨B1, 0, none⟩), .pointer (some ⟨B2, 0, none⟩)])
theorem WkF.only {L : Nat} {x : Wk} {v : Value} (h : WkF w q L x v) (ho : Only q.R w w') : WkF w' q L x v := by
  cases h with
  | fl => exact .fl
  | h0 h1 h2 n1 n2 => exact .h0 (hkeepO ho n1 h1) (hkeepO ho n2 h2) n1 n2
  | h1 h1 h2 n1 n2 => exact .h1 (hkeepO ho n1 h1) (hkeepO ho n2 h2) n1 n2
def WksF (w : World) (q : PLoc) (L : Nat) (b : Nat) (ws : List Wk) : Prop := b ∉ q.R ∧ ∀ k (h : k < ws.length), ∃ v, w.cell? ⟨b, k, none⟩ = some v ∧ WkF w q L ws[k] v
theorem WksF.only {L b : Nat} {ws : List Wk} (h : WksF w q L b ws) (ho : Only q.R w w') : WksF w' q L b ws := ⟨h.1, fun k hk => by obtain ⟨v, h1, h2⟩ := h.2 k hk; exact ⟨v, ho.cell h.1 h1, h2.only ho⟩⟩
theorem runE_zero {ws : List Wk} {P : Pl} (h : runE ws P = 0) (k : Nat) : runE (ws.take k) P = 0 := Classical.byContradiction fun hn => by
  have := (runE_stop ws P k hn).1
  rw [h] at this
  exact hn this.symm
set_option maxRecDepth 10000 in
theorem doF (h : PlateAt w q P) {L : Nat} (hL : L ≤ 8192) (b n : Nat) (ws : List Wk) (hn : ws.length = n) (hn4 : n ≤ 100) (hz : runE ws P = 0) (hw : WksF w q L b ws) : Calls Tryz.prog 30 #[.slice (some ⟨b, 0, none⟩) n n] w fun e w' => e = .returned (.int .i64 0) ∧ PlateAt w' q (runP ws P) ∧ Only q.R w w' := by
  have HW := Lib.hid hw
  have H := Lib.hid h
  have HZ := Lib.hid hz
  have HN := Lib.hid hn
  have HL := Lib.hid hL
  clear hw h hz hn hL
  go_enter Tryz.func30, Tryz.ntmps30
  go_wp2
  go_loopw [8] (fun i wr => ∃ k : Nat, k ≤ n ∧ i = .int .i64 k ∧ Hid (PlateAt wr q (runP (ws.take k) P)) ∧ Hid (WksF wr q L b ws) ∧ Hid (Only q.R w wr)) (fun i _ => n - (RowKit.intOf i).toNat)
  case atStart => exact ⟨0, Nat.zero_le _, rfl, H, HW, Lib.hid (Only.refl _ _)⟩
  case round =>
    obtain ⟨k, hk, rfl, HJ, HWk, HO⟩ := hrel
    by_cases hlt : k < n
    · have hkl : k < ws.length := by have := HN.out; omega
      obtain ⟨v, hv, hwk⟩ := HWk.out.2 k hkl
      obtain ⟨t1, t2⟩ := runE_take ws P hkl (runE_zero HZ.out k)
      have t0 := runE_zero HZ.out (k + 1)
      obtain ⟨x, hx⟩ : ∃ x, x = ws[k] := ⟨_, rfl⟩
      rw [← hx] at hwk t1 t2
      obtain ⟨Q, hQ⟩ : ∃ Q, Q = runP (ws.take k) P := ⟨_, rfl⟩
      rw [← hQ] at t1 t2 HJ
      have T2 := Lib.hid t2
      have he : x.err Q = 0 := t1.symm.trans t0
      clear hx hQ t1 t2 t0 hkl
      cases hwk with
      | fl =>
        have hc := flush_any wr q Q HJ.out
        rw [show Q.flushE = 0 from he] at hc
        have HC2 := Lib.hid hc
        clear hc he
        go_wp2_with fail
        refine Calls.mono HC2.out ?_
        rintro e w2 ⟨rfl, hj, ho⟩
        have HJ2 := Lib.hid hj
        have HO2 := Lib.hid ho
        clear hj ho
        go_wp2
        go_roundw
        case rel => exact ⟨k + 1, by omega, by go_num, Lib.hid (by rw [T2.out]; exact HJ2.out), Lib.hid (HWk.out.only HO2.out), Lib.hid (HO.out.trans HO2.out)⟩
        case measure => simp [RowKit.intOf]; omega
      | h0 h1 h2 n1 n2 =>
        have hc := head85 HJ.out HL.out h1 h2 n1 n2
        rw [he] at hc
        clear he h1 h2 n1 n2
        have HC2 := Lib.hid hc
        clear hc
        go_wp2_with fail
        refine Calls.mono HC2.out ?_
        rintro e w2 ⟨rfl, hj, ho⟩
        have HJ2 := Lib.hid hj
        have HO2 := Lib.hid ho
        clear hj ho
        go_wp2
        go_roundw
        case rel => exact ⟨k + 1, by omega, by go_num, Lib.hid (by rw [T2.out]; exact HJ2.out), Lib.hid (HWk.out.only HO2.out), Lib.hid (HO.out.trans HO2.out)⟩
        case measure => simp [RowKit.intOf]; omega
      | h1 h1 h2 n1 n2 =>
        have hc := head87 HJ.out HL.out h1 h2 n1 n2
        rw [he] at hc
        clear he h1 h2 n1 n2
        have HC2 := Lib.hid hc
        clear hc
        go_wp2_with fail
        refine Calls.mono HC2.out ?_
        rintro e w2 ⟨rfl, hj, ho⟩
        have HJ2 := Lib.hid hj
        have HO2 := Lib.hid ho
        clear hj ho
        go_wp2
        go_roundw
        case rel => exact ⟨k + 1, by omega, by go_num, Lib.hid (by rw [T2.out]; exact HJ2.out), Lib.hid (HWk.out.only HO2.out), Lib.hid (HO.out.trans HO2.out)⟩
        case measure => simp [RowKit.intOf]; omega
    · obtain rfl : k = n := by omega
      have e : ws.take k = ws := List.take_of_length_le (by have := HN.out; omega)
      rw [e] at HJ
      go_wp2
      go_ret
      exact ⟨rfl, HJ.out, HO.out⟩
theorem zerosW_take {n k : Nat} (h : k < n - 2) : (zerosW n).take (k + 1) = (zerosW n).take k ++ [Wk.wr (2 + k) zeroS] := by
  have hl : (zerosW n).length = n - 2 := by unfold zerosW; simp
  rw [List.take_succ_eq_append_getElem (by omega)]
  unfold zerosW
  rw [List.getElem_map, List.getElem_range]
theorem format_parts {P : Pl} {L : Nat} (h : formatE P L = 0) : P.dead = false ∧ 2 ≤ L ∧ L + 3 ≤ P.n ∧ runE (zerosW P.n) P = 0 ∧ runE (formatW P.n L) (runP (zerosW P.n) P) = 0 ∧ formatP P L = runP (formatW P.n L) (runP (zerosW P.n) P) := by
  unfold formatE at h
  unfold formatP
  cases hd : P.dead
  · rw [hd] at h
    simp only [Bool.false_eq_true, if_false] at h ⊢
    by_cases h1 : (L : Int) < 2 ∨ (P.n : Int) < (L : Int) + 3
    · rw [if_pos h1] at h; cases h
    · rw [if_neg h1] at h ⊢
      by_cases h2 : runE (zerosW P.n) P = 0
      · rw [h2] at h ⊢
        simp only [ne_eq, not_true_eq_false, if_false, Int.toNat_natCast] at h ⊢
        exact ⟨trivial, by omega, by omega, trivial, h, trivial⟩
      · rw [if_pos h2] at h; exact absurd h h2
  · rw [hd] at h; cases h
set_option maxRecDepth 10000 in
set_option maxHeartbeats 2000000 in
theorem format_ok (h : PlateAt w q P) (L : Nat) (hE : formatE P L = 0) : Calls Tryz.prog 9 #[pv q, .int .i64 L] w fun e w' => ∃ j, e = .returned (.tuple #[jv j, .int .i64 0]) ∧ JP w' j (q.banX [j.p, j.m]) (formatJ L) (formatP P L) ∧ w.heap.size ≤ j.p ∧ w.heap.size ≤ j.m ∧ Only q.R w w' := by
  obtain ⟨hd, hL2, hLn, hz1, hz2, hP⟩ := format_parts hE
  rw [hP]
  have hn4 := h.ok.most
  obtain ⟨n, hn⟩ : ∃ n, n = P.n := ⟨_, rfl⟩
  rw [← hn] at hLn hn4 hz1 hz2 ⊢
  obtain ⟨w2, hw2⟩ : ∃ x, x = (w.alloc (.cells #[pv q] 30)).alloc (.cells #[.int .i64 L] 3) := ⟨_, rfl⟩
  have hb2 : Below w.heap.size w w2 := by rw [hw2]; exact Below.step (Below.new _ _) (Below.new _ _)
  have hB1 : w2.heap[w.heap.size]? = some (.cells #[pv q] 30 (0, 0)) := by rw [hw2]; exact (heap_alloc_lt (by simp)).trans (heap_alloc_new _ _)
  have hB2 : w2.heap[w.heap.size + 1]? = some (.cells #[.int .i64 L] 3 (0, 0)) := by
    rw [hw2]
    have := heap_alloc_new (w.alloc (.cells #[pv q] 30)) (.cells #[.int .i64 L] 3)
    rw [World.size_alloc] at this
    exact this
  have hp2 := h.below hb2
  have HBB : Hid (w.heap.size ∉ q.R ∧ w.heap.size + 1 ∉ q.R) := Lib.hid ⟨fun hm => Nat.lt_irrefl _ (h.lt _ hm), fun hm => by have := h.lt _ hm; omega⟩
  have HB1 := Lib.hid hB1
  have HB2 := Lib.hid hB2
  have HP2 := Lib.hid hp2
  have HBe := Lib.hid hb2
  have c1 : w2.cell? ⟨w.heap.size, 0, none⟩ = some (pv q) := one_of hB1
  have c2 : w2.cell? ⟨w.heap.size + 1, 0, none⟩ = some (.int .i64 (L : Int)) := one_of hB2
  have HDd := Lib.hid (dead_any w2 q P hp2)
  rw [hd] at HDd
  have HSz := Lib.hid (size_any w2 q P hp2)
  rw [← hn] at HSz
  have HLm := Lib.hid (logMay_any hp2 (L : Int) (by omega))
  rw [← hn, decide_eq_true (show (2 : Int) ≤ (L : Int) ∧ (L : Int) + 3 ≤ (n : Int) by omega)] at HLm
  have HNp := Lib.hid hn
  have HZ1 := Lib.hid hz1
  have HZ2 := Lib.hid hz2
  have HD := Lib.hid hd
  have hmk := make64
  clear h hE hd hz1 hz2 hP hb2 hB1 hB2 hp2 hn
  go_enter Tryz.func9, Tryz.ntmps9
  go_upto_region 1 with (fail)
  rw [← hw2]
  clear hw2
  go_wp2_with fail
  refine Calls.mono HDd.out ?_
  rintro e w' ⟨rfl, rfl⟩
  go_wp2_with fail
  refine Calls.mono HSz.out ?_
  rintro e w' ⟨rfl, rfl⟩
  go_wp2_with fail
  refine Calls.mono HLm.out ?_
  rintro e w' ⟨rfl, rfl⟩
  go_wp2_with fail
  clear HDd HSz HLm
  go_loopw [6] (fun i wr => ∃ k : Nat, k ≤ n - 2 ∧ i = .int .i64 ((2 + k : Nat) : Int) ∧ Hid (PlateAt wr q (runP ((zerosW n).take k) P)) ∧ Hid (Only q.R w2 wr)) (fun i _ => n - (RowKit.intOf i).toNat)
  case atStart => exact ⟨0, Nat.zero_le _, rfl, HP2, Lib.hid (Only.refl _ _)⟩
  case round =>
    obtain ⟨k, hk, rfl, HPr, HOr⟩ := hrel
    have d1 : wr.cell? ⟨w.heap.size, 0, none⟩ = some (pv q) := HOr.out.cell HBB.out.1 c1
    have d2 : wr.cell? ⟨w.heap.size + 1, 0, none⟩ = some (.int .i64 (L : Int)) := HOr.out.cell HBB.out.2 c2
    have hsz := size_any wr q _ HPr.out
    rw [runP_n, ← HNp.out] at hsz
    have HSz := Lib.hid hsz
    clear hsz
    obtain ⟨i, hi⟩ : ∃ i : Nat, i = 2 + k := ⟨_, rfl⟩
    rw [← hi]
    have hin : i ≤ n := by omega
    have HI := Lib.hid hi
    by_cases hlt : i < n
    · have htk := zerosW_take (n := n) (k := k) (by omega)
      have hrt := runE_zero HZ1.out (k + 1)
      rw [htk, runE_append, runE_zero HZ1.out k] at hrt
      have hrp : runP ((zerosW n).take (k + 1)) P = (Wk.wr i zeroS).act (runP ((zerosW n).take k) P) := by
        rw [htk, runP_append, runE_zero HZ1.out k, hi]
        simp only [ne_eq, not_true_eq_false, if_false, runP]
        by_cases e : (Wk.wr (2 + k) zeroS).err (runP ((zerosW n).take k) P) = 0 <;> simp [e]
      have hre : (Wk.wr i zeroS).err (runP ((zerosW n).take k) P) = 0 := by
        simp only [ne_eq, not_true_eq_false, if_false, runE] at hrt
        rw [hi]
        by_cases e : (Wk.wr (2 + k) zeroS).err (runP ((zerosW n).take k) P) = 0
        · exact e
        · rw [if_pos e] at hrt; exact absurd hrt e
      obtain ⟨Q, hQ⟩ : ∃ Q, Q = runP ((zerosW n).take k) P := ⟨_, rfl⟩
      rw [← hQ] at hre hrp HPr
      have HRp := Lib.hid hrp
      have HWr : Hid (∀ w' g, Below wr.heap.size wr w' → wr.heap.size ≤ g → w'.heap[g]? = some (.cells (secC zeroS) 5 (0, 0)) → Calls Tryz.prog 29 #[pv q, .int .i64 (i : Int), .slice (some ⟨g, 0, none⟩) 64 64] w' fun e w'' => e = .returned (.int .i64 0) ∧ PlateAt w'' q ((Wk.wr i zeroS).act Q) ∧ Only q.R w' w'') := Lib.hid fun w' g hb hg hc => by
        have := write_n w' q Q (HPr.out.below hb) i (some ⟨g, 0, none⟩) (bytesOf zeroS) 64 64 (bytesOf_length _) (bys_sec hc) (fun _ ad e => by cases e; exact fun hm => Nat.lt_irrefl _ (Nat.lt_of_lt_of_le (HPr.out.lt _ hm) hg))
        rw [show Q.writeE (i : Int) (bytesOf zeroS) = 0 from hre] at this
        exact this
      have MK : Hid (∀ w', Below wr.heap.size wr w' → w'.cell? ⟨w.heap.size, 0, none⟩ = some (pv q)) := Lib.hid fun w' hb => keepc hb d1
      have MKo : Hid (∀ w'', Only q.R wr w'' → w''.cell? ⟨w.heap.size, 0, none⟩ = some (pv q)) := Lib.hid fun w'' ho => ho.cell HBB.out.1 d1
      have hS : Below wr.heap.size wr wr := Below.refl _ _
      clear htk hrt hrp hre hQ hi
      go_wp2_with fail
      refine Calls.mono HSz.out ?_
      rintro e w' ⟨rfl, rfl⟩
      go_wp2_with fail
      go_region_held3 (fun w' => w'.cell? ⟨w.heap.size, 0, none⟩ = some (pv q))
        (first | with_reducible exact MK.out _ hS | with_reducible exact MK.out _ hS.drew | with_reducible exact MK.out _ (Below.step hS.drew (Below.new _ _)) | with_reducible exact MK.out _ (Below.step hS (Below.new _ _)) | with_reducible exact MK.out _ (Below.step hS (Below.new _ _)).drew | with_reducible exact MKo.out _ hO4)
        ((first
        | (go_at_call 29; go_loud ((with_reducible refine Calls.mono (HWr.out _ wr.heap.size (by first | exact Below.new _ _ | exact (Below.new _ _).drew | exact (Below.refl _ _).drew.alloc (Nat.le_refl _) _) (Nat.le_refl _) (heap_alloc_new _ _)) ?_); rintro e w4 ⟨rfl, hp, ho⟩; have hO := ho; have HP4 := Lib.hid hp; have hO4 : Only q.R wr w4 := (by first | exact (Only.of_below (Below.new _ _)).trans ho | exact (Only.of_below (Below.new _ _).drew).trans ho); clear hp ho))))
      all_goals
        go_wp2
        go_roundw
        case rel => exact ⟨k + 1, by have := HI.out; omega, by have := HI.out; go_num, Lib.hid (by rw [HRp.out]; exact HP4.out), Lib.hid (HOr.out.trans hO4)⟩
        case measure => simp [RowKit.intOf]; omega
    · have hkn : k = n - 2 := by omega
      have e0 : (zerosW n).take k = zerosW n := List.take_of_length_le (by unfold zerosW; rw [List.length_map, List.length_range]; omega)
      rw [e0] at HPr
      obtain ⟨Q, hQ⟩ : ∃ Q, Q = runP (zerosW n) P := ⟨_, rfl⟩
      rw [← hQ] at HPr HZ2
      have HQe := Lib.hid hQ
      have hb1 := hkeepO HOr.out HBB.out.1 HB1.out
      have hb2 := hkeepO HOr.out HBB.out.2 HB2.out
      have HF1 := Lib.hid hb1
      have HF2 := Lib.hid hb2
      have hmf : ∀ (fn : Fn) (first cap : Array Value) (w : World), (Instr.makeFunc fn first cap).run Tryz.prog w = .ok (.func fn first cap) w := fun _ _ _ _ => rfl
      have hmap := @run_makeMap Tryz.prog
      clear hkn e0 hQ hb1 hb2 HI hi hk
      go_wp2_with fail
      refine Calls.mono HSz.out ?_
      rintro e w' ⟨rfl, rfl⟩
      go_wp2_with fail
      obtain ⟨w4, hw4⟩ : ∃ x, x = wr.alloc (.cells #[.func (.func 21) #[pv q] #[], .func (.func 31) #[] #[.pointer (some ⟨w.heap.size, 0, none⟩), .pointer (some ⟨w.heap.size + 1, 0, none⟩)], .func (.func 33) #[] #[.pointer (some ⟨w.heap.size, 0, none⟩), .pointer (some ⟨w.heap.size + 1, 0, none⟩)], .func (.func 21) #[pv q] #[]] 29) := ⟨_, rfl⟩
      have hb4 : Below wr.heap.size wr w4 := by rw [hw4]; exact Below.new _ _
      have hwk : WksF w4 q L wr.heap.size (formatW n L) := by
        refine ⟨fun hm => Nat.lt_irrefl _ (HPr.out.lt _ hm), fun k hk => ?_⟩
        have hc : ∀ (k : Nat) (v : Value), (#[.func (.func 21) #[pv q] #[], .func (.func 31) #[] #[.pointer (some ⟨w.heap.size, 0, none⟩), .pointer (some ⟨w.heap.size + 1, 0, none⟩)], .func (.func 33) #[] #[.pointer (some ⟨w.heap.size, 0, none⟩), .pointer (some ⟨w.heap.size + 1, 0, none⟩)], .func (.func 21) #[pv q] #[]] : Array Value)[k]? = some v → w4.cell? ⟨wr.heap.size, k, none⟩ = some v := fun k v hv => by rw [hw4, cell_new]; exact hv
        have h1 := hkeep hb4 HF1.out
        have h2 := hkeep hb4 HF2.out
        match k, hk with
        | 0, _ => exact ⟨_, hc 0 _ rfl, .fl⟩
        | 1, _ => exact ⟨_, hc 1 _ rfl, .h0 h1 h2 HBB.out.1 HBB.out.2⟩
        | 2, _ => exact ⟨_, hc 2 _ rfl, .h1 h1 h2 HBB.out.1 HBB.out.2⟩
        | 3, _ => exact ⟨_, hc 3 _ rfl, .fl⟩
        | k + 4, hk => exact absurd hk (by unfold formatW; simp)
      have HDo := Lib.hid (doF (HPr.out.below hb4) (L := L) (by omega) wr.heap.size 4 (formatW n L) rfl (by omega) HZ2.out hwk)
      have HB4 := Lib.hid hb4
      rw [← hw4]
      clear hw4 hb4 hwk
      refine Calls.mono HDo.out ?_
      rintro e w5 ⟨rfl, hp5, ho5⟩
      have ho15 : Only q.R wr w5 := (Only.of_below HB4.out).trans ho5
      replace d1 := ho15.cell HBB.out.1 d1
      replace d2 := ho15.cell HBB.out.2 d2
      have HP5 := Lib.hid hp5
      have HO5 := Lib.hid (((Only.of_below HBe.out).trans HOr.out).trans ho15)
      clear hp5 ho5 ho15
      go_wp2
      refine bodyPost_ret (results_tmp2 rfl _ _ _) rfl ?_
      have hnew : JAt ((w5.alloc (.map #[] 0)).alloc (.cells #[pv q, .int .i64 L, .int .i64 2, .int .i64 0, .int .i64 0, .int .i64 1, .map (some w5.heap.size), .bool false] 33)) ⟨w5.heap.size + 1, w5.heap.size⟩ q (formatJ L) := (jat_new w5 q L 2 0 1).same rfl rfl
      have hbn : Below w5.heap.size w5 ((w5.alloc (.map #[] 0)).alloc (.cells #[pv q, .int .i64 L, .int .i64 2, .int .i64 0, .int .i64 0, .int .i64 1, .map (some w5.heap.size), .bool false] 33)) := Below.step (Below.new _ _) (Below.new _ _)
      refine ⟨⟨w5.heap.size + 1, w5.heap.size⟩, rfl, ⟨?_, hnew.ban _, ?_, by simp [PLoc.banX], by simp [PLoc.banX], fun hm => ?_, fun hm => ?_⟩, Nat.le_trans HO5.out.size (Nat.le_succ _), HO5.out.size, HO5.out.trans (Only.of_below hbn)⟩
      · rw [← HQe.out]
        exact HP5.out.reban hbn (fun x hx => by
          simp only [List.mem_cons, List.not_mem_nil, or_false] at hx
          rcases hx with rfl | rfl
          · exact ⟨Nat.le_succ _, by simp⟩
          · exact ⟨Nat.le_refl _, by simp; omega⟩)
      · rw [runP_n, runP_n, ← HNp.out]
        exact ⟨hL2, hLn, by show 0 < L; omega, Nat.zero_le _, by show 1 ≤ 4611686018427387904; omega, by show 2 ≤ 4611686018427387904; omega, by show 0 < 2; omega, fun _ _ => rfl, fun _ _ e => by cases e⟩
      · have := HP5.out.lt _ hm; simp only at this; omega
      · have := HP5.out.lt _ hm; simp only at this; omega
end
end Go.Proofs.YtdhidcoglioalaaGreat.Walks
namespace Go.Proofs.YtdhidcoglioalaaGreat.Plain
open Jn
/-- The puts of a deed, as they are gathered: each block once. -/
def deedGo (B : Byte) : Nat → List Int → List (Nat × Byte) → List (Nat × Byte)
  | _, [], acc => acc
  | i, x :: l, acc => if acc.any (fun y => y.1 == (x % 12).toNat) then deedGo B (i + 1) l acc else deedGo B (i + 1) l (acc ++ [((x % 12).toNat, B + BitVec.ofNat 8 i)])
def deedL (B : Byte) (l : List Int) : List (Nat × Byte) := deedGo B 0 (l.take 12) []
structure Deeds (l : List (Nat × Byte)) (m : Nat) : Prop where
  lt : ∀ x ∈ l, x.1 < 12
  nd : (l.map (·.1)).Nodup
  len : l.length ≤ m
theorem deedGo_ok (B : Byte) : ∀ (l : List Int) (i : Nat) (acc : List (Nat × Byte)) (m : Nat), Deeds acc m → Deeds (deedGo B i l acc) (m + l.length) := by
  intro l
  induction l with
  | nil => intro i acc m h; exact h
  | cons x l ih =>
    intro i acc m h
    unfold deedGo
    split
    · have := ih (i + 1) acc m h
      exact ⟨this.lt, this.nd, by have := this.len; simp only [List.length_cons]; omega⟩
    · rename_i hn
      have hnot : ∀ y ∈ acc, y.1 ≠ (x % 12).toNat := fun y hy e => hn (List.any_eq_true.2 ⟨y, hy, by simpa using e⟩)
      have := ih (i + 1) (acc ++ [((x % 12).toNat, B + BitVec.ofNat 8 i)]) (m + 1) ⟨?_, ?_, ?_⟩
      · exact ⟨this.lt, this.nd, by have := this.len; simp only [List.length_cons]; omega⟩
      · intro y hy
        rcases List.mem_append.1 hy with hy | hy
        · exact h.lt y hy
        · simp only [List.mem_singleton] at hy
          subst hy
          have := Int.emod_nonneg x (show (12 : Int) ≠ 0 by omega)
          have := Int.emod_lt_of_pos x (show (0 : Int) < 12 by omega)
          simp only
          omega
      · rw [List.map_append, List.nodup_append]
        refine ⟨h.nd, by simp, fun a ha b hb => ?_⟩
        obtain ⟨y, hy, rfl⟩ := List.mem_map.1 ha
        simp only [List.map_cons, List.map_nil, List.mem_singleton] at hb
        rw [hb]
        exact hnot y hy
      · have := h.len
        simp only [List.length_append, List.length_singleton]
        omega
theorem deedL_ok (B : Byte) (l : List Int) : Deeds (deedL B l) (min 12 l.length) := by
  have := deedGo_ok B (l.take 12) 0 [] 0 ⟨fun x hx => by simp at hx, by simp, by simp⟩
  unfold deedL
  rw [List.length_take, Nat.zero_add] at this
  exact this
theorem deedL_len (B : Byte) (l : List Int) : (deedL B l).length ≤ l.length := Nat.le_trans (deedL_ok B l).len (Nat.min_le_right _ _)
/-- The blocks behind a deed. -/
def nextB (now : Nat → Byte) (l : List (Nat × Byte)) : Nat → Byte := l.foldl (fun f x => upd f x.1 x.2) now
def nowF (now : Nat → Byte) : Nat → Blk := fun i => if i < 12 then oneB (now i) else zeroB
def putsL (l : List (Nat × Byte)) : List (Int × List Byte) := l.map fun x => ((x.1 : Int), bytesB (oneB x.2))
def blksL (l : List (Nat × Byte)) : List (Nat × Blk) := l.map fun x => (x.1, oneB x.2)
theorem blks_puts (l : List (Nat × Byte)) : blks (putsL l) = blksL l := by
  unfold blks putsL blksL
  rw [List.map_map]
  refine List.map_congr_left fun x _ => ?_
  simp only [Function.comp, Int.toNat_natCast]
  rw [blk_bytes (flat_one _)]
theorem nowAll_deed : ∀ (l : List (Nat × Byte)) (now : Nat → Byte), (∀ x ∈ l, x.1 < 12) → nowAll (nowF now) (blksL l) = nowF (nextB now l) := by
  intro l
  induction l using snoc_ind with
  | nil => intro now _; funext i; simp [nowAll, blksL, putAll, nextB]
  | append_singleton l x ih =>
    intro now hl
    have hx := hl x (by simp)
    have hr := ih now fun y hy => hl y (by simp [hy])
    funext i
    have e1 : nextB now (l ++ [x]) = upd (nextB now l) x.1 x.2 := by simp [nextB]
    have e2 : putAll (fun _ => none) (blksL (l ++ [x])) = upd (putAll (fun _ => none) (blksL l)) x.1 (some (oneB x.2)) := by simp [putAll, blksL]
    have hr' := congrFun hr i
    unfold nowAll at hr' ⊢
    rw [e1, e2]
    by_cases e : i = x.1
    · rw [e, upd_same]
      unfold nowF
      simp only [if_pos hx, upd_same]; rfl
    · rw [upd_other _ _ e, hr']
      unfold nowF
      rw [upd_other _ _ e]
theorem putsE_zero {blocks : Nat} : ∀ (l : List (Nat × Byte)) (seen : List Int), (∀ x ∈ l, x.1 < blocks) → (l.map (·.1)).Nodup → (∀ x ∈ l, (x.1 : Int) ∉ seen) → putsE blocks seen (putsL l) = 0 := by
  intro l
  induction l with
  | nil => intro seen _ _ _; rfl
  | cons x l ih =>
    intro seen h1 h2 h3
    have hx := h1 x (by simp)
    show putsE blocks seen (((x.1 : Int), bytesB (oneB x.2)) :: putsL l) = 0
    unfold putsE
    rw [if_neg (by simp only; omega), if_neg (by rw [bytesB_length]; simp only [ne_eq, not_true_eq_false, false_or]; exact h3 x (by simp))]
    rw [List.map_cons, List.nodup_cons] at h2
    refine ih _ (fun y hy => h1 y (by simp [hy])) h2.2 (fun y hy hm => ?_)
    rcases List.mem_append.1 hm with hm | hm
    · exact h3 y (by simp [hy]) hm
    · simp only [List.mem_singleton] at hm
      exact h2.1 (List.mem_map.2 ⟨y, hy, by omega⟩)
section
variable {n : Nat} {S : Nat → Sec} {J : Jn} {P : Pl} {now : Nat → Blk}
theorem blocks_inv (h : Inv n S J now) (hn : P.n = n) : J.blocks P.n = n - 2 - J.log := by unfold Jn.blocks; rw [h.live, hn]; simp
theorem badE_zero (h : Inv n S J now) (hn : P.n = n) {l : List (Nat × Byte)} {m : Nat} (hl : Deeds l m) (h12 : 12 ≤ n - 2 - J.log) (hm : l.length + 1 ≤ J.log) : badE P J (putsL l) = 0 := by
  have hb := blocks_inv h hn
  unfold badE
  rw [h.live, hb, putsE_zero l [] (fun x hx => Nat.lt_of_lt_of_le (hl.lt x hx) h12) hl.nd (fun _ _ h => by cases h)]
  simp only [Bool.false_eq_true, if_false, ne_eq, not_true_eq_false]
  rw [if_neg (by simp only [putsL, List.length_map]; omega)]
/-- A deed: a commit of right puts. -/
theorem Inv.commit (h : Inv n S J now) (hP : Live P S (fun _ => none)) (hn : P.n = n) (h0 : Can P 0) (ht : J.turn + 1 < 1099511627776) (hh : J.head + 1 < 1099511627776) {l : List (Nat × Byte)} {m : Nat} (hl : Deeds l m) (h12 : 12 ≤ n - 2 - J.log) (hm : l.length + 1 ≤ J.log) :
    (commitE P J (putsL l) = 0 ∧ (∃ S', Inv n S' (commitJ P J (putsL l)) (nowAll now (blksL l)) ∧ Live (commitP P J (putsL l)) S' (fun _ => none)) ∧ (commitP P J (putsL l)).n = n ∧ (commitP P J (putsL l)).fails = P.fails ∧ (commitJ P J (putsL l)).log = J.log ∧
      (commitJ P J (putsL l)).turn ≤ J.turn + 1 ∧ (commitJ P J (putsL l)).head ≤ J.head + 1) ∨
    (commitE P J (putsL l) = 50 ∧ P.fails = true ∧ ∃ S' J', (Inv n S' J' now ∨ Inv n S' J' (nowAll now (blksL l))) ∧ J'.log = J.log ∧ J'.turn ≤ J.turn + 1 ∧ J'.head ≤ J.head + 1 ∧ Down (commitP P J (putsL l)) S' n) := by
  have hbad := badE_zero h hn hl h12 hm
  unfold commitE commitP commitJ Jn.nothing
  rw [hbad, blks_puts]
  by_cases hl0 : l = []
  · subst hl0
    refine .inl ?_
    simp only [putsL, List.map_nil, List.length_nil, decide_true, Bool.or_true, if_true]
    exact ⟨trivial, ⟨S, h, hP⟩, hn, trivial, trivial, Nat.le_succ _, Nat.le_succ _⟩
  · have hlen : ¬ (putsL l).length = 0 := by simp [putsL, hl0]
    simp only [hlen, ne_eq, not_true_eq_false, decide_false, Bool.or_self, Bool.false_eq_true, if_false]
    have hb0 : blksL l ≠ [] := by simp [blksL, hl0]
    have hbl : (blksL l).length = l.length := by simp [blksL]
    have hbm : ∀ x ∈ blksL l, x.1 < n - 2 - J.log ∧ Flat x.2 := fun x hx => by
      obtain ⟨y, hy, rfl⟩ := List.mem_map.1 hx
      exact ⟨Nat.lt_of_lt_of_le (hl.lt y hy) h12, flat_one _⟩
    obtain ⟨p1, p2⟩ := h.put hP hn h0 ht hh hb0 hbm (by rw [hbl]; exact hm)
    by_cases hc : Can P (putM J n (blksL l).length)
    · obtain ⟨e1, e2, S', f1, f2, f3⟩ := p1 hc
      refine .inl ⟨e1, ⟨S', by rw [e2]; exact f1, f2⟩, f3.n.trans hn, f3.fails, ?_, ?_, ?_⟩ <;> rw [e2] <;> unfold putJ' <;> split <;> first | rfl | exact Nat.le_refl _ | exact Nat.le_succ _
    · obtain ⟨e1, e2, S', J', f1, f2, f3, f4, f5⟩ := p2 hc
      exact .inr ⟨e1, Classical.byContradiction fun hf => hc (can_any (by simpa using hf) _), S', J', f1, f2, f3, f4, f5⟩
end
end Go.Proofs.YtdhidcoglioalaaGreat.Plain
