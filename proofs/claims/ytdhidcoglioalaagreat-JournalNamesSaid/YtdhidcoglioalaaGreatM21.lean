/-
  Works on a plate, as function values.
-/
import Derived.Test.YtdhidcoglioalaaGreatM20
namespace Go.Proofs.YtdhidcoglioalaaGreat.Walks
open Go.RowKit Plain
set_option linter.unusedVariables false
attribute [local go_sem ↓] exec_load116 exec_store116 exec_alloc116 exec_load112 exec_store112 exec_alloc112 exec_build3 exec_build4 Go.wp_at_zero Go.wp_at_succ exec_load112T exec_store116T exec_load116T
attribute [local go_sem] isPt_mk adOf_mk isI_mk iOf_mk cellsV_mk sctL_length blkL_length setCells_drew oneN_sct oneN_blk oneN_fields roomN_new isRow_new cellL_new alloc_setN roomN_past isRow_past cellL_past roomN_drew isRow_drew cellL_drew setCells_size setCells_past

section
variable {w w' : World} {j : JLoc} {q : PLoc} {J J' : Jn} {P P' : Pl}
theorem bys_of {w : World} {g : Nat} {l : List Byte} {t : TypeId} (h : w.heap[g]? = some (.cells (l.map byteV).toArray t (0, 0))) (hl : l.length ≤ 140737488355328) : Bys w (some ⟨g, 0, none⟩) l := by
  refine ⟨hl, .inr ⟨g, 0, rfl, fun i hi => ?_⟩⟩
  rw [cell_of_row _ _ _ _ _ _ h, Nat.zero_add, List.getElem?_toArray, List.getElem?_map, List.getElem?_eq_getElem hi]
  rfl
theorem JP.ltw (h : JP w j q J P) {b : Nat} (hb : b ∈ q.R) : b < w.heap.size := h.pl.lt b hb
theorem write_n (w : World) (q : PLoc) (P : Pl) (h : PlateAt w q P) (i : Int) (a : Option Addr) (l : List Byte) (n cap : Nat) (hl : l.length = n) (hB : Bys w a l) (hdis : l ≠ [] → ∀ ad, a = some ad → ad.block ∉ q.R) :
    Calls Tryz.prog 29 #[pv q, .int .i64 i, .slice a n cap] w fun e w' => e = .returned (.int .i64 (P.writeE i l)) ∧ PlateAt w' q (P.write i l) ∧ Only q.R w w' := by
  subst hl
  exact write_any w q P h i a l cap hB hdis
theorem JP.newR (h : JP w j q J P) {g : Nat} (hg : w.heap.size ≤ g) : g ∉ q.R := fun hm => Nat.not_lt_of_le hg (h.ltw hm)
/-- The closure of a write. -/
theorem wr93 (h : JP w j q J P) {B1 B2 B3 i : Nat} {s : Sct} (hs : Sct.Ints s) (b1 : w.cell? ⟨B1, 0, none⟩ = some (jv j)) (b2 : w.cell? ⟨B2, 0, none⟩ = some (.int .i64 i)) (b3 : RowAt w ⟨B3, 0, none⟩ (sctL s)) (n1 : B1 ∉ q.R) (n2 : B2 ∉ q.R) (n3 : B3 ∉ q.R) :
    Calls Tryz.prog 52 #[.pointer (some ⟨B1, 0, none⟩), .pointer (some ⟨B2, 0, none⟩), .pointer (some ⟨B3, 0, none⟩)] w fun e w' => e = .returned (.int .i64 ((Wk.wr i (packS s)).err P)) ∧ JP w' j q J ((Wk.wr i (packS s)).act P) ∧ Only q.R w w' := by
  have hbl : bytesOf (packS s) = packL s := bytesOf_secOf (packL_length s)
  show Calls _ _ _ _ fun e w' => e = .returned (.int .i64 (P.writeE i (bytesOf (packS s)))) ∧ JP w' j q J (P.write i (bytesOf (packS s))) ∧ Only q.R w w'
  rw [hbl]
  have hwn : ∀ l, (P.write i l).n = P.n := fun l => by
    have := act_n P (Wk.wr i (secOf l))
    unfold Pl.write
    split
    · rfl
    · split
      · rfl
      · split <;> exact Pl.did_n P
  have c0 := h.jn.c0
  have hb3 := block_lt_of_cell (b3.cell (j := 0) rfl)
  have MKb : Hid (∀ w', Below w.heap.size w w' → w'.cell? ⟨B1, 0, none⟩ = some (jv j) ∧ w'.cell? ⟨B2, 0, none⟩ = some (.int .i64 i) ∧ w'.cell? ⟨j.p, 0, none⟩ = some (pv q) ∧ IsRow 51 w' ⟨B3, 0, none⟩ ∧ cellL 51 w' ⟨B3, 0, none⟩ = sctL s) := Lib.hid fun w' hb => by
    have hr := b3.below hb hb3
    exact ⟨keepc hb b1, keepc hb b2, keepc hb c0, hr.is (sctL_length _), hr.cells (sctL_length _)⟩
  have MKo : Hid (∀ w' w'', Below w.heap.size w w' → Only q.R w' w'' → w''.cell? ⟨B1, 0, none⟩ = some (jv j) ∧ w''.cell? ⟨B2, 0, none⟩ = some (.int .i64 i) ∧ w''.cell? ⟨j.p, 0, none⟩ = some (pv q) ∧ IsRow 51 w'' ⟨B3, 0, none⟩ ∧ cellL 51 w'' ⟨B3, 0, none⟩ = sctL s) := Lib.hid fun w' w'' hb ho => by
    have hr := (b3.below hb hb3).only ho n3
    exact ⟨ho.cell n1 (keepc hb b1), ho.cell n2 (keepc hb b2), ho.cell h.np (keepc hb c0), hr.is (sctL_length _), hr.cells (sctL_length _)⟩
  have hS : Below w.heap.size w w := Below.refl _ _
  obtain ⟨S0, S1, S2, S3, S4⟩ := MKb.out w hS
  have H := Lib.hid h
  have HS := Lib.hid hs
  have HWN := Lib.hid hwn
  have hpl := packL_length s
  obtain ⟨F, hF⟩ : ∃ F, F = packL s := ⟨_, rfl⟩
  rw [← hF] at hpl ⊢
  have HF := Lib.hid hF
  have HPL := Lib.hid hpl
  clear h hs hwn hbl b1 b2 b3 c0 n1 n2 n3 hb3 hF hpl
  go_enter Tryz.func52, Tryz.ntmps52
  go_wp2_with fail
  obtain ⟨T, hT⟩ : ∃ T : TypeId, T = 52 := ⟨_, rfl⟩
  rw [show Op.load 52 (Operand.tmp 2) = Op.load T (Operand.tmp 2) by rw [hT]]
  have HT := Lib.hid hT
  clear hT
  go_region_held3 (fun w' => w'.cell? ⟨B1, 0, none⟩ = some (jv j) ∧ w'.cell? ⟨B2, 0, none⟩ = some (.int .i64 i) ∧ w'.cell? ⟨j.p, 0, none⟩ = some (pv q) ∧ IsRow 51 w' ⟨B3, 0, none⟩ ∧ cellL 51 w' ⟨B3, 0, none⟩ = sctL s)
    (first | with_reducible exact MKb.out _ hS | with_reducible exact MKb.out _ hS.drew | with_reducible exact MKo.out _ _ hS hO)
    ((first
    | (go_at_call 32; ((with_reducible refine Calls.mono (bytes_any _ s HS.out) ?_); rintro e w2 ⟨g, rfl, hg, hb, hbe⟩; have hS : Below w.heap.size w w2 := (by first | exact Below.step hS hbe | exact Below.step hS.drew hbe); have HG := Lib.hid hb; have HGe := Lib.hid (show w.heap.size ≤ g from hg); clear hb hg hbe))
    | (go_at_call 29; ((with_reducible refine Calls.mono (write_n _ q P (H.out.pl.below hS) i (some ⟨g, 0, none⟩) F 64 64 HPL.out (bys_of (HF.out ▸ HG.out) (by have := HPL.out; omega)) (fun _ ad e => by cases e; exact H.out.newR HGe.out)) ?_); rintro e w3 ⟨rfl, hp, ho⟩; have hO := ho; have HP3 := Lib.hid hp; have HO3 := Lib.hid ho; clear hp ho))))
  all_goals
    go_wp2
    go_ret
    exact ⟨rfl, (H.out.below hS).plate HP3.out HO3.out (HWN.out _), (Only.of_below hS).trans HO3.out⟩
/-- A flush. -/
theorem fl26 (h : JP w j q J P) : Calls Tryz.prog 21 #[pv q] w fun e w' => e = .returned (.int .i64 (Wk.fl.err P)) ∧ JP w' j q J (Wk.fl.act P) ∧ Only q.R w w' := by
  refine Calls.mono (flush_any w q P h.pl) ?_
  rintro e w' ⟨rfl, hp, ho⟩
  exact ⟨rfl, h.plate hp ho (act_n P Wk.fl), ho⟩
/-- A work, as a function value. -/
inductive WkV (w : World) (j : JLoc) (q : PLoc) : Wk → Value → Prop
  | fl : WkV w j q .fl (.func (.func 21) #[pv q] #[])
  | wr {B1 B2 B3 i : Nat} {s : Sct} : Sct.Ints s → w.heap[B1]? = some (.cells #[jv j] 22 (0, 0)) → w.heap[B2]? = some (.cells #[.int .i64 i] 3 (0, 0)) → w.heap[B3]? = some (.cells (sctL s).toArray 52 (0, 0)) → B1 ∉ q.R → B2 ∉ q.R → B3 ∉ q.R →
      WkV w j q (.wr i (packS s)) (.func (.func 52) #[] #[.pointer (some ⟨B1, 0, none⟩), .pointer (some ⟨B2, 0, none⟩), .pointer (some ⟨B3, 0, none⟩)])
theorem hkeep {w w' : World} {g : Nat} {o : Obj} (hb : Below w.heap.size w w') (h : w.heap[g]? = some o) : w'.heap[g]? = some o := (hb.block _ (Array.getElem?_eq_some_iff.1 h).1).trans h
theorem hkeepO {w w' : World} {R : List Nat} {g : Nat} {o : Obj} (ho : Only R w w') (hg : g ∉ R) (h : w.heap[g]? = some o) : w'.heap[g]? = some o := (ho.block _ (Array.getElem?_eq_some_iff.1 h).1 hg).trans h
theorem row_of {w : World} {g : Nat} {vs : List Value} {t : TypeId} (h : w.heap[g]? = some (.cells vs.toArray t (0, 0))) : RowAt w ⟨g, 0, none⟩ vs := ⟨rfl, fun k v hv => by
  rw [show (⟨g, 0, none⟩ : Addr).off + k = k by show 0 + k = k; omega, cell_of_row _ _ _ _ _ _ h, List.getElem?_toArray]
  exact hv⟩
theorem one_of {w : World} {g : Nat} {v : Value} {t : TypeId} (h : w.heap[g]? = some (.cells #[v] t (0, 0))) : w.cell? ⟨g, 0, none⟩ = some v := by rw [cell_of_row _ _ _ _ _ _ h]; rfl
theorem WkV.below {x : Wk} {v : Value} (h : WkV w j q x v) (hb : Below w.heap.size w w') : WkV w' j q x v := by
  cases h with
  | fl => exact .fl
  | wr h1 h2 h3 h4 h5 h6 h7 => exact .wr h1 (hkeep hb h2) (hkeep hb h3) (hkeep hb h4) h5 h6 h7
theorem WkV.only {x : Wk} {v : Value} (h : WkV w j q x v) (ho : Only q.R w w') : WkV w' j q x v := by
  cases h with
  | fl => exact .fl
  | wr h1 h2 h3 h4 h5 h6 h7 => exact .wr h1 (hkeepO ho h5 h2) (hkeepO ho h6 h3) (hkeepO ho h7 h4) h5 h6 h7
/-- Works lie in memory, one behind the other. -/
def WksAt (w : World) (j : JLoc) (q : PLoc) (a : Option Addr) (ws : List Wk) : Prop :=
  ws.length ≤ 140737488355328 ∧ (ws = [] ∨ ∃ b off, a = some ⟨b, off, none⟩ ∧ b ∉ q.R ∧ ∀ k (h : k < ws.length), ∃ v, w.cell? ⟨b, off + k, none⟩ = some v ∧ WkV w j q ws[k] v)
theorem WksAt.below {a : Option Addr} {ws : List Wk} (h : WksAt w j q a ws) (hb : Below w.heap.size w w') : WksAt w' j q a ws := by
  refine ⟨h.1, h.2.imp id ?_⟩
  rintro ⟨b, off, e, hn, hc⟩
  exact ⟨b, off, e, hn, fun k hk => by obtain ⟨v, h1, h2⟩ := hc k hk; exact ⟨v, keepc hb h1, h2.below hb⟩⟩
theorem WksAt.only {a : Option Addr} {ws : List Wk} (h : WksAt w j q a ws) (ho : Only q.R w w') : WksAt w' j q a ws := by
  refine ⟨h.1, h.2.imp id ?_⟩
  rintro ⟨b, off, e, hn, hc⟩
  exact ⟨b, off, e, hn, fun k hk => by obtain ⟨v, h1, h2⟩ := hc k hk; exact ⟨v, ho.cell hn h1, h2.only ho⟩⟩
theorem runE_take (ws : List Wk) (P : Pl) {k : Nat} (hk : k < ws.length) (h0 : runE (ws.take k) P = 0) : runE (ws.take (k + 1)) P = ws[k].err (runP (ws.take k) P) ∧ runP (ws.take (k + 1)) P = ws[k].act (runP (ws.take k) P) := by
  rw [List.take_succ_eq_append_getElem hk, runE_append, runP_append, h0]
  simp only [ne_eq, not_true_eq_false, if_false, runE, runP]
  by_cases e : ws[k].err (runP (ws.take k) P) = 0 <;> simp [e]
theorem runE_stop (ws : List Wk) (P : Pl) (k : Nat) (h : runE (ws.take k) P ≠ 0) : runE ws P = runE (ws.take k) P ∧ runP ws P = runP (ws.take k) P := by
  have h1 := runE_append (ws.take k) (ws.drop k) P
  have h2 := runP_append (ws.take k) (ws.drop k) P
  rw [List.take_append_drop, if_pos h] at h1 h2
  exact ⟨h1, h2⟩
theorem ne_zero_bne {z : Int} (h : z ≠ 0) : (z != 0) = true := by simpa using h
set_option maxRecDepth 10000 in
theorem do_any (h : JP w j q J P) (a : Option Addr) (ws : List Wk) (cap : Nat) (hw : WksAt w j q a ws) : Calls Tryz.prog 30 #[.slice a ws.length cap] w fun e w' => e = .returned (.int .i64 (runE ws P)) ∧ JP w' j q J (runP ws P) ∧ Only q.R w w' := by
  have hm := hw.1
  have HW := Lib.hid hw
  have H := Lib.hid h
  clear hw h
  obtain ⟨n, hn⟩ : ∃ n, n = ws.length := ⟨_, rfl⟩
  rw [← hn] at hm ⊢
  have HN := Lib.hid hn
  clear hn
  go_enter Tryz.func30, Tryz.ntmps30
  go_wp2
  go_loopw [8] (fun i wr => ∃ k : Nat, k ≤ n ∧ i = .int .i64 k ∧ Hid (runE (ws.take k) P = 0) ∧ Hid (JP wr j q J (runP (ws.take k) P)) ∧ Hid (WksAt wr j q a ws) ∧ Hid (Only q.R w wr)) (fun i _ => n - (RowKit.intOf i).toNat)
  case atStart => exact ⟨0, Nat.zero_le _, rfl, Lib.hid rfl, H, HW, Lib.hid (Only.refl _ _)⟩
  case round =>
    obtain ⟨k, hk, rfl, HE, HJ, HWk, HO⟩ := hrel
    by_cases hlt : k < n
    · have hkl : k < ws.length := by have := HN.out; omega
      obtain ⟨b, off, rfl, hb, hc⟩ : ∃ b off, a = some ⟨b, off, none⟩ ∧ b ∉ q.R ∧ ∀ k (h : k < ws.length), ∃ v, wr.cell? ⟨b, off + k, none⟩ = some v ∧ WkV wr j q ws[k] v := by
        rcases HWk.out.2 with e | e
        · rw [e] at hkl; simp at hkl
        · exact e
      obtain ⟨v, hv, hwk⟩ := hc k hkl
      obtain ⟨t1, t2⟩ := runE_take ws P hkl HE.out
      obtain ⟨x, hx⟩ : ∃ x, x = ws[k] := ⟨_, rfl⟩
      rw [← hx] at hwk t1 t2
      obtain ⟨Q, hQ⟩ : ∃ Q, Q = runP (ws.take k) P := ⟨_, rfl⟩
      rw [← hQ] at t1 t2 HJ
      have T1 := Lib.hid t1
      have T2 := Lib.hid t2
      have HKl := Lib.hid hkl
      have HST := Lib.hid (runE_stop ws P (k + 1))
      have HC : Hid (WkV wr j q x v) := Lib.hid hwk
      clear hc hx hQ t1 t2 hkl hwk hb
      by_cases he : x.err Q = 0
      · have HHe := Lib.hid he
        cases HC.out with
        | fl =>
          have hc := fl26 HJ.out
          rw [he] at hc
          clear he
          have HC2 := Lib.hid hc
          clear hc
          go_wp2_with fail
          refine Calls.mono HC2.out ?_
          rintro e w2 ⟨rfl, hj, ho⟩
          have HJ2 := Lib.hid hj
          have HO2 := Lib.hid ho
          clear hj ho
          go_wp2
          go_roundw
          case rel => exact ⟨k + 1, by omega, by go_num, Lib.hid (by rw [T1.out]; exact HHe.out), Lib.hid (by rw [T2.out]; exact HJ2.out), Lib.hid (HWk.out.only HO2.out), Lib.hid (HO.out.trans HO2.out)⟩
          case measure => simp [RowKit.intOf]; omega
        | wr h1 h2 h3 h4 h5 h6 h7 =>
          have hc := wr93 HJ.out h1 (one_of h2) (one_of h3) (row_of h4) h5 h6 h7
          rw [he] at hc
          clear he h1 h2 h3 h4 h5 h6 h7
          have HC2 := Lib.hid hc
          clear hc
          go_wp2_with fail
          refine Calls.mono HC2.out ?_
          rintro e w2 ⟨rfl, hj, ho⟩
          have HJ2 := Lib.hid hj
          have HO2 := Lib.hid ho
          clear hj ho
          go_wp2
          go_roundw
          case rel => exact ⟨k + 1, by omega, by go_num, Lib.hid (by rw [T1.out]; exact HHe.out), Lib.hid (by rw [T2.out]; exact HJ2.out), Lib.hid (HWk.out.only HO2.out), Lib.hid (HO.out.trans HO2.out)⟩
          case measure => simp [RowKit.intOf]; omega
      · have HHe := Lib.hid he
        obtain ⟨z, hz⟩ : ∃ z, z = x.err Q := ⟨_, rfl⟩
        have hzq : (z != 0) = true := ne_zero_bne (hz ▸ he)
        have HZ := Lib.hid hz
        cases HC.out with
        | fl =>
          have hc := fl26 HJ.out
          rw [← hz] at hc
          clear he hz
          have HC2 := Lib.hid hc
          clear hc
          go_wp2_with fail
          refine Calls.mono HC2.out ?_
          rintro e w2 ⟨rfl, hj, ho⟩
          have HJ2 := Lib.hid hj
          have HO2 := Lib.hid ho
          clear hj ho
          go_wp2
          go_ret
          obtain ⟨g1, g2⟩ := HST.out (by rw [T1.out]; exact HHe.out)
          exact ⟨by rw [g1, T1.out, HZ.out]; rfl, by rw [g2, T2.out]; exact HJ2.out, HO.out.trans HO2.out⟩
        | wr h1 h2 h3 h4 h5 h6 h7 =>
          have hc := wr93 HJ.out h1 (one_of h2) (one_of h3) (row_of h4) h5 h6 h7
          rw [← hz] at hc
          clear he hz h1 h2 h3 h4 h5 h6 h7
          have HC2 := Lib.hid hc
          clear hc
          go_wp2_with fail
          refine Calls.mono HC2.out ?_
          rintro e w2 ⟨rfl, hj, ho⟩
          have HJ2 := Lib.hid hj
          have HO2 := Lib.hid ho
          clear hj ho
          go_wp2
          go_ret
          obtain ⟨g1, g2⟩ := HST.out (by rw [T1.out]; exact HHe.out)
          exact ⟨by rw [g1, T1.out, HZ.out]; rfl, by rw [g2, T2.out]; exact HJ2.out, HO.out.trans HO2.out⟩
    · obtain rfl : k = n := by omega
      have e : ws.take k = ws := List.take_of_length_le (by have := HN.out; omega)
      rw [e] at HE HJ
      go_wp2
      go_ret
      exact ⟨by rw [HE.out]; rfl, HJ.out, HO.out⟩
theorem do_n (h : JP w j q J P) (a : Option Addr) (ws : List Wk) (n cap : Nat) (hn : ws.length = n) (hw : WksAt w j q a ws) : Calls Tryz.prog 30 #[.slice a n cap] w fun e w' => e = .returned (.int .i64 (runE ws P)) ∧ JP w' j q J (runP ws P) ∧ Only q.R w w' := by
  subst hn
  exact do_any h a ws cap hw
end
end Go.Proofs.YtdhidcoglioalaaGreat.Walks
