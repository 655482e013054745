/-
  A plate is made a journal.
-/
import Derived.Test.YtdhidcoglioalaaJP
namespace Go.Proofs.Ytdhidcoglioalaa.Walks
open Go.RowKit Plain
set_option linter.unusedVariables false
attribute [local go_sem ↓] exec_load116 exec_store116 exec_alloc116 exec_load112 exec_store112 exec_alloc112 exec_build3 exec_build4 Go.wp_at_zero Go.wp_at_succ exec_load112T exec_store116T exec_load116T
attribute [local go_sem] isPt_mk adOf_mk isI_mk iOf_mk cellsV_mk sctL_length blkL_length setCells_drew oneN_sct oneN_blk oneN_fields roomN_new isRow_new cellL_new alloc_setN roomN_past isRow_past cellL_past roomN_drew isRow_drew cellL_drew setCells_size setCells_past
section
variable {w w' : World} {q : PLoc} {P P' : Pl}
theorem ints_head' {h l a t : Nat} (hh : h ≤ 9223372036854775807) (hl : l ≤ 8192) : Sct.Ints (headSct h l a t) := ⟨by show (-9223372036854775808 : Int) ≤ 1 ∧ (1 : Int) ≤ _; omega, by show (-9223372036854775808 : Int) ≤ h ∧ (h : Int) ≤ _; omega, by show (-9223372036854775808 : Int) ≤ l ∧ (l : Int) ≤ _; omega⟩
theorem write_s (w : World) (q : PLoc) (P : Pl) (h : PlateAt w q P) (i : Nat) (s : Sct) {g : Nat} {t : TypeId} (hg : w.heap[g]? = some (.cells ((packL s).map byteV).toArray t (0, 0))) (hn : g ∉ q.R) :
    Calls Try.prog 23 #[pv q, .int .i64 i, .slice (some ⟨g, 0, none⟩) 64 64] w fun e w' => e = .returned (.int .i64 ((Wk.wr i (packS s)).err P)) ∧ PlateAt w' q ((Wk.wr i (packS s)).act P) ∧ Only q.R w w' := by
  have hbl : bytesOf (packS s) = packL s := bytesOf_secOf (packL_length s)
  show Calls _ _ _ _ fun e w' => e = .returned (.int .i64 (P.writeE i (bytesOf (packS s)))) ∧ PlateAt w' q (P.write i (bytesOf (packS s))) ∧ Only q.R w w'
  rw [hbl]
  exact write_n w q P h i (some ⟨g, 0, none⟩) (packL s) 64 64 (packL_length s) (bys_of hg (by rw [packL_length]; omega)) (fun _ ad e => by cases e; exact hn)
set_option maxRecDepth 10000 in
theorem head85 (h : PlateAt w q P) {B1 B2 L : Nat} (hL : L ≤ 8192) (b1 : w.heap[B1]? = some (.cells #[pv q] 24 (0, 0))) (b2 : w.heap[B2]? = some (.cells #[.int .i64 L] 3 (0, 0))) (n1 : B1 ∉ q.R) (n2 : B2 ∉ q.R) :
    Calls Try.prog 85 #[.pointer (some ⟨B1, 0, none⟩), .pointer (some ⟨B2, 0, none⟩)] w fun e w' => e = .returned (.int .i64 ((Wk.wr 0 (packS (headSct 1 L 0 1))).err P)) ∧ PlateAt w' q ((Wk.wr 0 (packS (headSct 1 L 0 1))).act P) ∧ Only q.R w w' := by
  have MK : Hid (∀ w', Below w.heap.size w w' → w'.cell? ⟨B1, 0, none⟩ = some (pv q) ∧ w'.cell? ⟨B2, 0, none⟩ = some (.int .i64 (L : Int))) := Lib.hid fun w' hb => ⟨keepc hb (one_of b1), keepc hb (one_of b2)⟩
  have MKo : Hid (∀ w' w'', Below w.heap.size w w' → Only q.R w' w'' → w''.cell? ⟨B1, 0, none⟩ = some (pv q) ∧ w''.cell? ⟨B2, 0, none⟩ = some (.int .i64 (L : Int))) := Lib.hid fun w' w'' hb ho => ⟨ho.cell n1 (keepc hb (one_of b1)), ho.cell n2 (keepc hb (one_of b2))⟩
  have hS : Below w.heap.size w w := Below.refl _ _
  obtain ⟨S0, S1⟩ := MK.out w hS
  obtain ⟨s, hs⟩ : ∃ s, s = headSct 1 L 0 1 := ⟨_, rfl⟩
  have HHd : Hid (∀ w', Calls Try.prog 73 #[.int .i64 1, .int .i64 (L : Int), .int .i64 0, .int .i64 1] w' fun e w'' => e = .returned (.agg (sctL s).toArray) ∧ Below w'.heap.size w' w'') := Lib.hid fun w' => by
    have := headOf_any w' 1 L 0 1 (by omega) (by omega)
    rw [← hs] at this
    exact this
  have HIn : Hid (Sct.Ints s) := Lib.hid (by rw [hs]; exact ints_head' (by omega) hL)
  rw [← hs]
  have H := Lib.hid h
  have HN : Hid (∀ g, w.heap.size ≤ g → g ∉ q.R) := Lib.hid fun g hg hm => Nat.not_lt_of_le hg (h.lt g hm)
  have HBy : Hid (∀ w', Calls Try.prog 86 #[.agg (sctL s).toArray] w' fun e w'' => ∃ g, e = .returned (.slice (some ⟨g, 0, none⟩) 64 64) ∧ w'.heap.size ≤ g ∧ w''.heap[g]? = some (.cells ((packL s).map byteV).toArray 5 (0, 0)) ∧ Below w'.heap.size w' w'') := Lib.hid fun w' => bytes_any w' s HIn.out
  clear h b1 b2 hs hL n1 n2
  go_enter Try.func85, Try.ntmps85
  go_wp2_with fail
  go_region_held3 (fun w' => w'.cell? ⟨B1, 0, none⟩ = some (pv q) ∧ w'.cell? ⟨B2, 0, none⟩ = some (.int .i64 (L : Int)))
    (first | with_reducible exact MK.out _ hS | with_reducible exact MK.out _ hS.drew | with_reducible exact MKo.out _ _ hS hO)
    ((first
    | (go_at_call 73; ((with_reducible refine Calls.mono (HHd.out _) ?_); rintro e w2 ⟨rfl, hbe⟩; have hS : Below w.heap.size w w2 := (by first | exact Below.step hS hbe | exact Below.step hS.drew hbe); clear hbe))
    | (go_at_call 86; ((with_reducible refine Calls.mono (HBy.out _) ?_); rintro e w3 ⟨g, rfl, hg, hb, hbe⟩; have hS0 := hS; have hS : Below w.heap.size w w3 := (by first | exact Below.step hS hbe | exact Below.step hS.drew hbe); have HG := Lib.hid hb; have HGe := Lib.hid (show w.heap.size ≤ g from Nat.le_trans hS0.size hg); clear hb hg hbe hS0))
    | (go_at_call 23; ((with_reducible refine Calls.mono (write_s _ q P (H.out.below hS) 0 s HG.out (HN.out _ HGe.out)) ?_); rintro e w4 ⟨rfl, hp, ho⟩; have hO := ho; have HP4 := Lib.hid hp; have HO4 := Lib.hid ho; clear hp ho))))
  all_goals
    go_wp2
    go_ret
    exact ⟨rfl, HP4.out, (Only.of_below hS).trans HO4.out⟩
set_option maxRecDepth 10000 in
theorem head87 (h : PlateAt w q P) {B1 B2 L : Nat} (hL : L ≤ 8192) (b1 : w.heap[B1]? = some (.cells #[pv q] 24 (0, 0))) (b2 : w.heap[B2]? = some (.cells #[.int .i64 L] 3 (0, 0))) (n1 : B1 ∉ q.R) (n2 : B2 ∉ q.R) :
    Calls Try.prog 87 #[.pointer (some ⟨B1, 0, none⟩), .pointer (some ⟨B2, 0, none⟩)] w fun e w' => e = .returned (.int .i64 ((Wk.wr 1 (packS (headSct 2 L 0 1))).err P)) ∧ PlateAt w' q ((Wk.wr 1 (packS (headSct 2 L 0 1))).act P) ∧ Only q.R w w' := by
  have MK : Hid (∀ w', Below w.heap.size w w' → w'.cell? ⟨B1, 0, none⟩ = some (pv q) ∧ w'.cell? ⟨B2, 0, none⟩ = some (.int .i64 (L : Int))) := Lib.hid fun w' hb => ⟨keepc hb (one_of b1), keepc hb (one_of b2)⟩
  have MKo : Hid (∀ w' w'', Below w.heap.size w w' → Only q.R w' w'' → w''.cell? ⟨B1, 0, none⟩ = some (pv q) ∧ w''.cell? ⟨B2, 0, none⟩ = some (.int .i64 (L : Int))) := Lib.hid fun w' w'' hb ho => ⟨ho.cell n1 (keepc hb (one_of b1)), ho.cell n2 (keepc hb (one_of b2))⟩
  have hS : Below w.heap.size w w := Below.refl _ _
  obtain ⟨S0, S1⟩ := MK.out w hS
  obtain ⟨s, hs⟩ : ∃ s, s = headSct 2 L 0 1 := ⟨_, rfl⟩
  have HHd : Hid (∀ w', Calls Try.prog 73 #[.int .i64 2, .int .i64 (L : Int), .int .i64 0, .int .i64 1] w' fun e w'' => e = .returned (.agg (sctL s).toArray) ∧ Below w'.heap.size w' w'') := Lib.hid fun w' => by
    have := headOf_any w' 2 L 0 1 (by omega) (by omega)
    rw [← hs] at this
    exact this
  have HIn : Hid (Sct.Ints s) := Lib.hid (by rw [hs]; exact ints_head' (by omega) hL)
  rw [← hs]
  have H := Lib.hid h
  have HN : Hid (∀ g, w.heap.size ≤ g → g ∉ q.R) := Lib.hid fun g hg hm => Nat.not_lt_of_le hg (h.lt g hm)
  have HBy : Hid (∀ w', Calls Try.prog 86 #[.agg (sctL s).toArray] w' fun e w'' => ∃ g, e = .returned (.slice (some ⟨g, 0, none⟩) 64 64) ∧ w'.heap.size ≤ g ∧ w''.heap[g]? = some (.cells ((packL s).map byteV).toArray 5 (0, 0)) ∧ Below w'.heap.size w' w'') := Lib.hid fun w' => bytes_any w' s HIn.out
  clear h b1 b2 hs hL n1 n2
  go_enter Try.func87, Try.ntmps87
  go_wp2_with fail
  go_region_held3 (fun w' => w'.cell? ⟨B1, 0, none⟩ = some (pv q) ∧ w'.cell? ⟨B2, 0, none⟩ = some (.int .i64 (L : Int)))
    (first | with_reducible exact MK.out _ hS | with_reducible exact MK.out _ hS.drew | with_reducible exact MKo.out _ _ hS hO)
    ((first
    | (go_at_call 73; ((with_reducible refine Calls.mono (HHd.out _) ?_); rintro e w2 ⟨rfl, hbe⟩; have hS : Below w.heap.size w w2 := (by first | exact Below.step hS hbe | exact Below.step hS.drew hbe); clear hbe))
    | (go_at_call 86; ((with_reducible refine Calls.mono (HBy.out _) ?_); rintro e w3 ⟨g, rfl, hg, hb, hbe⟩; have hS0 := hS; have hS : Below w.heap.size w w3 := (by first | exact Below.step hS hbe | exact Below.step hS.drew hbe); have HG := Lib.hid hb; have HGe := Lib.hid (show w.heap.size ≤ g from Nat.le_trans hS0.size hg); clear hb hg hbe hS0))
    | (go_at_call 23; ((with_reducible refine Calls.mono (write_s _ q P (H.out.below hS) 1 s HG.out (HN.out _ HGe.out)) ?_); rintro e w4 ⟨rfl, hp, ho⟩; have hO := ho; have HP4 := Lib.hid hp; have HO4 := Lib.hid ho; clear hp ho))))
  all_goals
    go_wp2
    go_ret
    exact ⟨rfl, HP4.out, (Only.of_below hS).trans HO4.out⟩
/-- The works of Format, as function values. -/
inductive WkF (w : World) (q : PLoc) (L : Nat) : Wk → Value → Prop
  | fl : WkF w q L .fl (.func (.func 26) #[pv q] #[])
  | h0 {B1 B2 : Nat} : w.heap[B1]? = some (.cells #[pv q] 24 (0, 0)) → w.heap[B2]? = some (.cells #[.int .i64 L] 3 (0, 0)) → B1 ∉ q.R → B2 ∉ q.R → WkF w q L (.wr 0 (packS (headSct 1 L 0 1))) (.func (.func 85) #[] #[.pointer (some ⟨B1, 0, none⟩), .pointer (some ⟨B2, 0, none⟩)])
  | h1 {B1 B2 : Nat} : w.heap[B1]? = some (.cells #[pv q] 24 (0, 0)) → w.heap[B2]? = some (.cells #[.int .i64 L] 3 (0, 0)) → B1 ∉ q.R → B2 ∉ q.R → WkF w q L (.wr 1 (packS (headSct 2 L 0 1))) (.func (.func 87) #[] #[.pointer (some ⟨B1, 0, none⟩), .pointer (some ⟨B2, 0, none⟩)])
theorem WkF.only {L : Nat} {x : Wk} {v : Value} (h : WkF w q L x v) (ho : Only q.R w w') : WkF w' q L x v := by
  cases h with
  | fl => exact .fl
  | h0 h1 h2 n1 n2 => exact .h0 (hkeepO ho n1 h1) (hkeepO ho n2 h2) n1 n2
  | h1 h1 h2 n1 n2 => exact .h1 (hkeepO ho n1 h1) (hkeepO ho n2 h2) n1 n2
def WksF (w : World) (q : PLoc) (L : Nat) (b : Nat) (ws : List Wk) : Prop := b ∉ q.R ∧ ∀ k (h : k < ws.length), ∃ v, w.cell? ⟨b, k, none⟩ = some v ∧ WkF w q L ws[k] v
theorem WksF.only {L b : Nat} {ws : List Wk} (h : WksF w q L b ws) (ho : Only q.R w w') : WksF w' q L b ws := ⟨h.1, fun k hk => by obtain ⟨v, h1, h2⟩ := h.2 k hk; exact ⟨v, ho.cell h.1 h1, h2.only ho⟩⟩
theorem runE_zero {ws : List Wk} {P : Pl} (h : runE ws P = 0) (k : Nat) : runE (ws.take k) P = 0 := Classical.byContradiction fun hn => by
  have := (runE_stop ws P k hn).1
  rw [h] at this
  exact hn this.symm
set_option maxRecDepth 10000 in
theorem doF (h : PlateAt w q P) {L : Nat} (hL : L ≤ 8192) (b n : Nat) (ws : List Wk) (hn : ws.length = n) (hn4 : n ≤ 100) (hz : runE ws P = 0) (hw : WksF w q L b ws) : Calls Try.prog 84 #[.slice (some ⟨b, 0, none⟩) n n] w fun e w' => e = .returned (.int .i64 0) ∧ PlateAt w' q (runP ws P) ∧ Only q.R w w' := by
  have HW := Lib.hid hw
  have H := Lib.hid h
  have HZ := Lib.hid hz
  have HN := Lib.hid hn
  have HL := Lib.hid hL
  clear hw h hz hn hL
  go_enter Try.func84, Try.ntmps84
  go_wp2
  go_loopw [8] (fun i wr => ∃ k : Nat, k ≤ n ∧ i = .int .i64 k ∧ Hid (PlateAt wr q (runP (ws.take k) P)) ∧ Hid (WksF wr q L b ws) ∧ Hid (Only q.R w wr)) (fun i _ => n - (RowKit.intOf i).toNat)
  case atStart => exact ⟨0, Nat.zero_le _, rfl, H, HW, Lib.hid (Only.refl _ _)⟩
  case round =>
    obtain ⟨k, hk, rfl, HJ, HWk, HO⟩ := hrel
    by_cases hlt : k < n
    · have hkl : k < ws.length := by have := HN.out; omega
      obtain ⟨v, hv, hwk⟩ := HWk.out.2 k hkl
      obtain ⟨t1, t2⟩ := runE_take ws P hkl (runE_zero HZ.out k)
      have t0 := runE_zero HZ.out (k + 1)
      obtain ⟨x, hx⟩ : ∃ x, x = ws[k] := ⟨_, rfl⟩
      rw [← hx] at hwk t1 t2
      obtain ⟨Q, hQ⟩ : ∃ Q, Q = runP (ws.take k) P := ⟨_, rfl⟩
      rw [← hQ] at t1 t2 HJ
      have T2 := Lib.hid t2
      have he : x.err Q = 0 := t1.symm.trans t0
      clear hx hQ t1 t2 t0 hkl
      cases hwk with
      | fl =>
        have hc := flush_any wr q Q HJ.out
        rw [show Q.flushE = 0 from he] at hc
        have HC2 := Lib.hid hc
        clear hc he
        go_wp2_with fail
        refine Calls.mono HC2.out ?_
        rintro e w2 ⟨rfl, hj, ho⟩
        have HJ2 := Lib.hid hj
        have HO2 := Lib.hid ho
        clear hj ho
        go_wp2
        go_roundw
        case rel => exact ⟨k + 1, by omega, by go_num, Lib.hid (by rw [T2.out]; exact HJ2.out), Lib.hid (HWk.out.only HO2.out), Lib.hid (HO.out.trans HO2.out)⟩
        case measure => simp [RowKit.intOf]; omega
      | h0 h1 h2 n1 n2 =>
        have hc := head85 HJ.out HL.out h1 h2 n1 n2
        rw [he] at hc
        clear he h1 h2 n1 n2
        have HC2 := Lib.hid hc
        clear hc
        go_wp2_with fail
        refine Calls.mono HC2.out ?_
        rintro e w2 ⟨rfl, hj, ho⟩
        have HJ2 := Lib.hid hj
        have HO2 := Lib.hid ho
        clear hj ho
        go_wp2
        go_roundw
        case rel => exact ⟨k + 1, by omega, by go_num, Lib.hid (by rw [T2.out]; exact HJ2.out), Lib.hid (HWk.out.only HO2.out), Lib.hid (HO.out.trans HO2.out)⟩
        case measure => simp [RowKit.intOf]; omega
      | h1 h1 h2 n1 n2 =>
        have hc := head87 HJ.out HL.out h1 h2 n1 n2
        rw [he] at hc
        clear he h1 h2 n1 n2
        have HC2 := Lib.hid hc
        clear hc
        go_wp2_with fail
        refine Calls.mono HC2.out ?_
        rintro e w2 ⟨rfl, hj, ho⟩
        have HJ2 := Lib.hid hj
        have HO2 := Lib.hid ho
        clear hj ho
        go_wp2
        go_roundw
        case rel => exact ⟨k + 1, by omega, by go_num, Lib.hid (by rw [T2.out]; exact HJ2.out), Lib.hid (HWk.out.only HO2.out), Lib.hid (HO.out.trans HO2.out)⟩
        case measure => simp [RowKit.intOf]; omega
    · obtain rfl : k = n := by omega
      have e : ws.take k = ws := List.take_of_length_le (by have := HN.out; omega)
      rw [e] at HJ
      go_wp2
      go_ret
      exact ⟨rfl, HJ.out, HO.out⟩
theorem zerosW_take {n k : Nat} (h : k < n - 2) : (zerosW n).take (k + 1) = (zerosW n).take k ++ [Wk.wr (2 + k) zeroS] := by
  have hl : (zerosW n).length = n - 2 := by unfold zerosW; simp
  rw [List.take_succ_eq_append_getElem (by omega)]
  unfold zerosW
  rw [List.getElem_map, List.getElem_range]
theorem format_parts {P : Pl} {L : Nat} (h : formatE P L = 0) : P.dead = false ∧ 2 ≤ L ∧ L + 3 ≤ P.n ∧ runE (zerosW P.n) P = 0 ∧ runE (formatW P.n L) (runP (zerosW P.n) P) = 0 ∧ formatP P L = runP (formatW P.n L) (runP (zerosW P.n) P) := by
  unfold formatE at h
  unfold formatP
  cases hd : P.dead
  · rw [hd] at h
    simp only [Bool.false_eq_true, if_false] at h ⊢
    by_cases h1 : (L : Int) < 2 ∨ (P.n : Int) < (L : Int) + 3
    · rw [if_pos h1] at h; cases h
    · rw [if_neg h1] at h ⊢
      by_cases h2 : runE (zerosW P.n) P = 0
      · rw [h2] at h ⊢
        simp only [ne_eq, not_true_eq_false, if_false, Int.toNat_natCast] at h ⊢
        exact ⟨trivial, by omega, by omega, trivial, h, trivial⟩
      · rw [if_pos h2] at h; exact absurd h h2
  · rw [hd] at h; cases h
set_option maxRecDepth 10000 in
set_option maxHeartbeats 2000000 in
theorem format_ok (h : PlateAt w q P) (L : Nat) (hE : formatE P L = 0) : Calls Try.prog 65 #[pv q, .int .i64 L] w fun e w' => ∃ j, e = .returned (.tuple #[jv j, .int .i64 0]) ∧ JP w' j (q.banX [j.p, j.m]) (formatJ L) (formatP P L) ∧ w.heap.size ≤ j.p ∧ w.heap.size ≤ j.m ∧ Only q.R w w' := by
  obtain ⟨hd, hL2, hLn, hz1, hz2, hP⟩ := format_parts hE
  rw [hP]
  have hn4 := h.ok.most
  obtain ⟨n, hn⟩ : ∃ n, n = P.n := ⟨_, rfl⟩
  rw [← hn] at hLn hn4 hz1 hz2 ⊢
  obtain ⟨w2, hw2⟩ : ∃ x, x = (w.alloc (.cells #[pv q] 24)).alloc (.cells #[.int .i64 L] 3) := ⟨_, rfl⟩
  have hb2 : Below w.heap.size w w2 := by rw [hw2]; exact Below.step (Below.new _ _) (Below.new _ _)
  have hB1 : w2.heap[w.heap.size]? = some (.cells #[pv q] 24 (0, 0)) := by rw [hw2]; exact (heap_alloc_lt (by simp)).trans (heap_alloc_new _ _)
  have hB2 : w2.heap[w.heap.size + 1]? = some (.cells #[.int .i64 L] 3 (0, 0)) := by
    rw [hw2]
    have := heap_alloc_new (w.alloc (.cells #[pv q] 24)) (.cells #[.int .i64 L] 3)
    rw [World.size_alloc] at this
    exact this
  have hp2 := h.below hb2
  have HBB : Hid (w.heap.size ∉ q.R ∧ w.heap.size + 1 ∉ q.R) := Lib.hid ⟨fun hm => Nat.lt_irrefl _ (h.lt _ hm), fun hm => by have := h.lt _ hm; omega⟩
  have HB1 := Lib.hid hB1
  have HB2 := Lib.hid hB2
  have HP2 := Lib.hid hp2
  have HBe := Lib.hid hb2
  have c1 : w2.cell? ⟨w.heap.size, 0, none⟩ = some (pv q) := one_of hB1
  have c2 : w2.cell? ⟨w.heap.size + 1, 0, none⟩ = some (.int .i64 (L : Int)) := one_of hB2
  have HDd := Lib.hid (dead_any w2 q P hp2)
  rw [hd] at HDd
  have HSz := Lib.hid (size_any w2 q P hp2)
  rw [← hn] at HSz
  have HLm := Lib.hid (logMay_any hp2 (L : Int) (by omega))
  rw [← hn, decide_eq_true (show (2 : Int) ≤ (L : Int) ∧ (L : Int) + 3 ≤ (n : Int) by omega)] at HLm
  have HNp := Lib.hid hn
  have HZ1 := Lib.hid hz1
  have HZ2 := Lib.hid hz2
  have HD := Lib.hid hd
  have hmk := make64
  clear h hE hd hz1 hz2 hP hb2 hB1 hB2 hp2 hn
  go_enter Try.func65, Try.ntmps65
  go_upto_region 1 with (fail)
  rw [← hw2]
  clear hw2
  go_wp2_with fail
  refine Calls.mono HDd.out ?_
  rintro e w' ⟨rfl, rfl⟩
  go_wp2_with fail
  refine Calls.mono HSz.out ?_
  rintro e w' ⟨rfl, rfl⟩
  go_wp2_with fail
  refine Calls.mono HLm.out ?_
  rintro e w' ⟨rfl, rfl⟩
  go_wp2_with fail
  clear HDd HSz HLm
  go_loopw [6] (fun i wr => ∃ k : Nat, k ≤ n - 2 ∧ i = .int .i64 ((2 + k : Nat) : Int) ∧ Hid (PlateAt wr q (runP ((zerosW n).take k) P)) ∧ Hid (Only q.R w2 wr)) (fun i _ => n - (RowKit.intOf i).toNat)
  case atStart => exact ⟨0, Nat.zero_le _, rfl, HP2, Lib.hid (Only.refl _ _)⟩
  case round =>
    obtain ⟨k, hk, rfl, HPr, HOr⟩ := hrel
    have d1 : wr.cell? ⟨w.heap.size, 0, none⟩ = some (pv q) := HOr.out.cell HBB.out.1 c1
    have d2 : wr.cell? ⟨w.heap.size + 1, 0, none⟩ = some (.int .i64 (L : Int)) := HOr.out.cell HBB.out.2 c2
    have hsz := size_any wr q _ HPr.out
    rw [runP_n, ← HNp.out] at hsz
    have HSz := Lib.hid hsz
    clear hsz
    obtain ⟨i, hi⟩ : ∃ i : Nat, i = 2 + k := ⟨_, rfl⟩
    rw [← hi]
    have hin : i ≤ n := by omega
    have HI := Lib.hid hi
    by_cases hlt : i < n
    · have htk := zerosW_take (n := n) (k := k) (by omega)
      have hrt := runE_zero HZ1.out (k + 1)
      rw [htk, runE_append, runE_zero HZ1.out k] at hrt
      have hrp : runP ((zerosW n).take (k + 1)) P = (Wk.wr i zeroS).act (runP ((zerosW n).take k) P) := by
        rw [htk, runP_append, runE_zero HZ1.out k, hi]
        simp only [ne_eq, not_true_eq_false, if_false, runP]
        by_cases e : (Wk.wr (2 + k) zeroS).err (runP ((zerosW n).take k) P) = 0 <;> simp [e]
      have hre : (Wk.wr i zeroS).err (runP ((zerosW n).take k) P) = 0 := by
        simp only [ne_eq, not_true_eq_false, if_false, runE] at hrt
        rw [hi]
        by_cases e : (Wk.wr (2 + k) zeroS).err (runP ((zerosW n).take k) P) = 0
        · exact e
        · rw [if_pos e] at hrt; exact absurd hrt e
      obtain ⟨Q, hQ⟩ : ∃ Q, Q = runP ((zerosW n).take k) P := ⟨_, rfl⟩
      rw [← hQ] at hre hrp HPr
      have HRp := Lib.hid hrp
      have HWr : Hid (∀ w' g, Below wr.heap.size wr w' → wr.heap.size ≤ g → w'.heap[g]? = some (.cells (secC zeroS) 5 (0, 0)) → Calls Try.prog 23 #[pv q, .int .i64 (i : Int), .slice (some ⟨g, 0, none⟩) 64 64] w' fun e w'' => e = .returned (.int .i64 0) ∧ PlateAt w'' q ((Wk.wr i zeroS).act Q) ∧ Only q.R w' w'') := Lib.hid fun w' g hb hg hc => by
        have := write_n w' q Q (HPr.out.below hb) i (some ⟨g, 0, none⟩) (bytesOf zeroS) 64 64 (bytesOf_length _) (bys_sec hc) (fun _ ad e => by cases e; exact fun hm => Nat.lt_irrefl _ (Nat.lt_of_lt_of_le (HPr.out.lt _ hm) hg))
        rw [show Q.writeE (i : Int) (bytesOf zeroS) = 0 from hre] at this
        exact this
      have MK : Hid (∀ w', Below wr.heap.size wr w' → w'.cell? ⟨w.heap.size, 0, none⟩ = some (pv q)) := Lib.hid fun w' hb => keepc hb d1
      have MKo : Hid (∀ w'', Only q.R wr w'' → w''.cell? ⟨w.heap.size, 0, none⟩ = some (pv q)) := Lib.hid fun w'' ho => ho.cell HBB.out.1 d1
      have hS : Below wr.heap.size wr wr := Below.refl _ _
      clear htk hrt hrp hre hQ hi
      go_wp2_with fail
      refine Calls.mono HSz.out ?_
      rintro e w' ⟨rfl, rfl⟩
      go_wp2_with fail
      go_region_held3 (fun w' => w'.cell? ⟨w.heap.size, 0, none⟩ = some (pv q))
        (first | with_reducible exact MK.out _ hS | with_reducible exact MK.out _ hS.drew | with_reducible exact MK.out _ (Below.step hS.drew (Below.new _ _)) | with_reducible exact MK.out _ (Below.step hS (Below.new _ _)) | with_reducible exact MK.out _ (Below.step hS (Below.new _ _)).drew | with_reducible exact MKo.out _ hO4)
        ((first
        | (go_at_call 23; go_loud ((with_reducible refine Calls.mono (HWr.out _ wr.heap.size (by first | exact Below.new _ _ | exact (Below.new _ _).drew | exact (Below.refl _ _).drew.alloc (Nat.le_refl _) _) (Nat.le_refl _) (heap_alloc_new _ _)) ?_); rintro e w4 ⟨rfl, hp, ho⟩; have hO := ho; have HP4 := Lib.hid hp; have hO4 : Only q.R wr w4 := (by first | exact (Only.of_below (Below.new _ _)).trans ho | exact (Only.of_below (Below.new _ _).drew).trans ho); clear hp ho))))
      all_goals
        go_wp2
        go_roundw
        case rel => exact ⟨k + 1, by have := HI.out; omega, by have := HI.out; go_num, Lib.hid (by rw [HRp.out]; exact HP4.out), Lib.hid (HOr.out.trans hO4)⟩
        case measure => simp [RowKit.intOf]; omega
    · have hkn : k = n - 2 := by omega
      have e0 : (zerosW n).take k = zerosW n := List.take_of_length_le (by unfold zerosW; rw [List.length_map, List.length_range]; omega)
      rw [e0] at HPr
      obtain ⟨Q, hQ⟩ : ∃ Q, Q = runP (zerosW n) P := ⟨_, rfl⟩
      rw [← hQ] at HPr HZ2
      have HQe := Lib.hid hQ
      have hb1 := hkeepO HOr.out HBB.out.1 HB1.out
      have hb2 := hkeepO HOr.out HBB.out.2 HB2.out
      have HF1 := Lib.hid hb1
      have HF2 := Lib.hid hb2
      have hmf : ∀ (fn : Fn) (first cap : Array Value) (w : World), (Instr.makeFunc fn first cap).run Try.prog w = .ok (.func fn first cap) w := fun _ _ _ _ => rfl
      have hmap := @run_makeMap Try.prog
      clear hkn e0 hQ hb1 hb2 HI hi hk
      go_wp2_with fail
      refine Calls.mono HSz.out ?_
      rintro e w' ⟨rfl, rfl⟩
      go_wp2_with fail
      obtain ⟨w4, hw4⟩ : ∃ x, x = wr.alloc (.cells #[.func (.func 26) #[pv q] #[], .func (.func 85) #[] #[.pointer (some ⟨w.heap.size, 0, none⟩), .pointer (some ⟨w.heap.size + 1, 0, none⟩)], .func (.func 87) #[] #[.pointer (some ⟨w.heap.size, 0, none⟩), .pointer (some ⟨w.heap.size + 1, 0, none⟩)], .func (.func 26) #[pv q] #[]] 34) := ⟨_, rfl⟩
      have hb4 : Below wr.heap.size wr w4 := by rw [hw4]; exact Below.new _ _
      have hwk : WksF w4 q L wr.heap.size (formatW n L) := by
        refine ⟨fun hm => Nat.lt_irrefl _ (HPr.out.lt _ hm), fun k hk => ?_⟩
        have hc : ∀ (k : Nat) (v : Value), (#[.func (.func 26) #[pv q] #[], .func (.func 85) #[] #[.pointer (some ⟨w.heap.size, 0, none⟩), .pointer (some ⟨w.heap.size + 1, 0, none⟩)], .func (.func 87) #[] #[.pointer (some ⟨w.heap.size, 0, none⟩), .pointer (some ⟨w.heap.size + 1, 0, none⟩)], .func (.func 26) #[pv q] #[]] : Array Value)[k]? = some v → w4.cell? ⟨wr.heap.size, k, none⟩ = some v := fun k v hv => by rw [hw4, cell_new]; exact hv
        have h1 := hkeep hb4 HF1.out
        have h2 := hkeep hb4 HF2.out
        match k, hk with
        | 0, _ => exact ⟨_, hc 0 _ rfl, .fl⟩
        | 1, _ => exact ⟨_, hc 1 _ rfl, .h0 h1 h2 HBB.out.1 HBB.out.2⟩
        | 2, _ => exact ⟨_, hc 2 _ rfl, .h1 h1 h2 HBB.out.1 HBB.out.2⟩
        | 3, _ => exact ⟨_, hc 3 _ rfl, .fl⟩
        | k + 4, hk => exact absurd hk (by unfold formatW; simp)
      have HDo := Lib.hid (doF (HPr.out.below hb4) (L := L) (by omega) wr.heap.size 4 (formatW n L) rfl (by omega) HZ2.out hwk)
      have HB4 := Lib.hid hb4
      rw [← hw4]
      clear hw4 hb4 hwk
      refine Calls.mono HDo.out ?_
      rintro e w5 ⟨rfl, hp5, ho5⟩
      have ho15 : Only q.R wr w5 := (Only.of_below HB4.out).trans ho5
      replace d1 := ho15.cell HBB.out.1 d1
      replace d2 := ho15.cell HBB.out.2 d2
      have HP5 := Lib.hid hp5
      have HO5 := Lib.hid (((Only.of_below HBe.out).trans HOr.out).trans ho15)
      clear hp5 ho5 ho15
      go_wp2
      refine bodyPost_ret (results_tmp2 rfl _ _ _) rfl ?_
      have hnew : JAt ((w5.alloc (.map #[] 0)).alloc (.cells #[pv q, .int .i64 L, .int .i64 2, .int .i64 0, .int .i64 0, .int .i64 1, .map (some w5.heap.size), .bool false] 108)) ⟨w5.heap.size + 1, w5.heap.size⟩ q (formatJ L) := (jat_new w5 q L 2 0 1).same rfl rfl
      have hbn : Below w5.heap.size w5 ((w5.alloc (.map #[] 0)).alloc (.cells #[pv q, .int .i64 L, .int .i64 2, .int .i64 0, .int .i64 0, .int .i64 1, .map (some w5.heap.size), .bool false] 108)) := Below.step (Below.new _ _) (Below.new _ _)
      refine ⟨⟨w5.heap.size + 1, w5.heap.size⟩, rfl, ⟨?_, hnew.ban _, ?_, by simp [PLoc.banX], by simp [PLoc.banX], fun hm => ?_, fun hm => ?_⟩, Nat.le_trans HO5.out.size (Nat.le_succ _), HO5.out.size, HO5.out.trans (Only.of_below hbn)⟩
      · rw [← HQe.out]
        exact HP5.out.reban hbn (fun x hx => by
          simp only [List.mem_cons, List.not_mem_nil, or_false] at hx
          rcases hx with rfl | rfl
          · exact ⟨Nat.le_succ _, by simp⟩
          · exact ⟨Nat.le_refl _, by simp; omega⟩)
      · rw [runP_n, runP_n, ← HNp.out]
        exact ⟨hL2, hLn, by show 0 < L; omega, Nat.zero_le _, by show 1 ≤ 4611686018427387904; omega, by show 2 ≤ 4611686018427387904; omega, by show 0 < 2; omega, fun _ _ => rfl, fun _ _ e => by cases e⟩
      · have := HP5.out.lt _ hm; simp only at this; omega
      · have := HP5.out.lt _ hm; simp only at this; omega
end
end Go.Proofs.Ytdhidcoglioalaa.Walks
