/-
  The document's journal: a plate is made a journal.
-/
import Derived.Test.YtdhidcoglioalaaGreatM38
namespace Go.Proofs.YtdhidcoglioalaaGreat.Walks
open Go.RowKit Plain Jn
set_option linter.unusedVariables false
section
variable {w w' : World} {m : Nat} {r : RLoc} {J J' : Jn} {P P' : Pl}
set_option maxRecDepth 10000 in
theorem rj_commit (h : RJ w m r J P) (hh : J.head < 4611686018427387904) (ht : J.turn < 4611686018427387904) (a : Option Addr) (n c : Nat) (l : List (Int × List Byte)) (hn : l.length = n) (hl : PutsQ w r.N (.slice a n c) l) :
    Calls Tryz.prog 84 #[mv m, .slice a n c] w fun e w' => e = .returned (.int .i64 (commitE P J l)) ∧ RJ w' m r (commitJ P J l) (commitP P J l) ∧ Only (m :: r.R) w w' := by
  cases hb : J.broken with
  | false => exact rj_commitOn h hb hh ht a n c l hn hl
  | true =>
    have c7 := h.c7
    rw [hb] at c7
    have HE : Hid (badE P J l = 50) := Lib.hid (by unfold badE; rw [hb]; simp)
    have H := Lib.hid h
    clear h hb hl hn
    go_enter Tryz.func84, Tryz.ntmps84
    go_wp2
    go_ret
    have hnn : J.nothing P l = true := by unfold Jn.nothing; rw [HE.out]; rfl
    unfold commitE commitJ commitP
    rw [hnn, HE.out]
    exact ⟨rfl, H.out, Only.refl _ _⟩
/-- What is turned in memory that was made since does not count. -/
theorem onlyF {R : List Nat} {w0 w1 w2 : World} {b : Nat} (h : Only R w0 w1) (ho : Only (b :: R) w1 w2) (hb : w0.heap.size ≤ b) : Only R w0 w2 :=
  ⟨ho.os.trans h.os, ho.tape.trans h.tape, ho.output.trans h.output, Nat.le_trans h.size ho.size, fun i hi hn => (ho.block i (Nat.lt_of_lt_of_le hi h.size) (by simp only [List.mem_cons, not_or]; exact ⟨by omega, hn⟩)).trans (h.block i hi hn)⟩
theorem ry_wz {w : World} {r : RLoc} {P : Pl} (h : RefAt w r P) (i : Nat) (s : Sec) (g c : Nat) (hB : Bys w (some ⟨g, 0, none⟩) (bytesOf s)) (hg : g ∉ r.R) :
    Calls Tryz.prog 78 #[rv r, .int .i64 i, .slice (some ⟨g, 0, none⟩) 64 c] w fun e w' => e = .returned (.int .i64 ((Wk.wr i s).err P)) ∧ RefAt w' r ((Wk.wr i s).act P) ∧ Only r.R w w' := by
  have := rf_write w r P h i (some ⟨g, 0, none⟩) (bytesOf s) c hB (fun e => by cases e) (fun _ ad e => by cases e; exact hg)
  rw [bytesOf_length] at this
  exact this
/-- What making a journal answers. -/
structure FormR (w w' : World) (r : RLoc) (e : Ending) (z : Int) (J : Jn) (P' : Pl) : Prop where
  ok : z = 0 → ∃ m, e = .returned (.tuple #[mv m, .int .i64 0]) ∧ RJ w' m (r.banX [m]) J P' ∧ w.heap.size ≤ m
  no : z ≠ 0 → e = .returned (.tuple #[.pointer none, .int .i64 z]) ∧ RefAt w' r P'
  only : Only r.R w w'
def zWk (i : Nat) : Wk := .wr (2 + i) zeroS
theorem zerosW_tk (n : Nat) {k : Nat} (h : k < n - 2) : (zerosW n).take (k + 1) = (zerosW n).take k ++ [zWk k] := by
  have hl : (zerosW n).length = n - 2 := by unfold zerosW; rw [List.length_map, List.length_range]
  rw [List.take_succ_eq_append_getElem (by omega)]
  congr 2
  have h1 : (zerosW n)[k]? = some (zWk k) := by
    unfold zerosW
    rw [List.getElem?_map, List.getElem?_range h]
    rfl
  rw [List.getElem?_eq_getElem (by omega)] at h1
  exact Option.some.inj h1
theorem run_prefix {l k : List Wk} {P : Pl} (h : runE l P ≠ 0) : runE (l ++ k) P = runE l P ∧ runP (l ++ k) P = runP l P := by
  rw [runE_append, runP_append, if_pos h, if_pos h]
  exact ⟨rfl, rfl⟩
theorem zerosW_stop (n : Nat) {k : Nat} (h : k < n - 2) {P Q : Pl} (h0 : runE ((zerosW n).take k) P = 0) (hq : runP ((zerosW n).take k) P = Q) (hz : (zWk k).err Q ≠ 0) : runE (zerosW n) P = (zWk k).err Q ∧ runP (zerosW n) P = (zWk k).act Q := by
  have e : zerosW n = (zerosW n).take (k + 1) ++ (zerosW n).drop (k + 1) := (List.take_append_drop _ _).symm
  subst hq
  have h1 := run_stop (k := []) h0 hz
  rw [← zerosW_tk n h] at h1
  have h2 := run_prefix (k := (zerosW n).drop (k + 1)) (l := (zerosW n).take (k + 1)) (P := P) (by rw [h1.1]; exact hz)
  rw [← e] at h2
  exact ⟨h2.1.trans h1.1, h2.2.trans h1.2⟩
/-- A fresh struct of the document's journal. -/
theorem rj_new {w : World} {r : RLoc} {J : Jn} {P : Pl} (h : RefAt w r P) (hok : J.Ok P.n) (hp : J.pend = fun _ => none) (cs : Array Value) (h0 : cs[0]? = some (rv r)) (h1 : cs[1]? = some (.int .i64 J.log)) (h2 : cs[2]? = some (.int .i64 J.head)) (h3 : cs[3]? = some (.int .i64 J.at_)) (h4 : cs[4]? = some (.int .i64 J.used)) (h5 : cs[5]? = some (.int .i64 J.turn)) (h6 : cs[6]? = some (.slice none 0 0)) (h7 : cs[7]? = some (.bool J.broken)) (t : TypeId) :
    RJ (w.alloc (.cells cs t)) w.heap.size (r.banX [w.heap.size]) J P := by
  have hx : ∀ x ∈ [w.heap.size], w.heap.size ≤ x ∧ x < (w.alloc (.cells cs t)).heap.size := by intro x hx; simp at hx; subst hx; simp
  refine ⟨⟨h.x.reban (Below.new _ _) hx, h.ok⟩, by rw [cell_new]; exact h0, by rw [cell_new]; exact h1, by rw [cell_new]; exact h2, by rw [cell_new]; exact h3, by rw [cell_new]; exact h4, by rw [cell_new]; exact h5, ⟨.slice none 0 0, by rw [cell_new]; exact h6, ?_, fun g hg => by cases hg⟩, by rw [cell_new]; exact h7, fun i => frozen_new _ _ _ _, hok, by simp [RLoc.banX], fun hm => Nat.lt_irrefl _ (h.x.lt _ hm)⟩
  unfold pendP
  rw [hp, pendN_none]
  exact OwnQ.nil _ _ _ _
set_option maxRecDepth 10000 in
set_option maxHeartbeats 4000000 in
theorem rj_format (h : RefAt w r P) (log : Int) (hw : -9223372036854775808 ≤ log ∧ log ≤ 9223372036854775807) : Calls Tryz.prog 81 #[rv r, .int .i64 log] w fun e w' => FormR w w' r e (formatE P log) (formatJ log.toNat) (formatP P log) := by
  have HDd := Lib.hid (rf_dead w r P h)
  have HSz := Lib.hid (fun w' (P' : Pl) (h' : RefAt w' r P') => rf_size w' r P' h')
  have H := Lib.hid h
  have hn4 := h.ok.most
  clear h
  cases hd : P.dead
  · rw [hd] at HDd
    have HD := Lib.hid hd
    clear hd
    by_cases hrg : log < 2 ∨ (P.n : Int) < log + 3
    · have hE : formatE P log = 9 ∧ formatP P log = P := by
        unfold formatE formatP
        rw [HD.out, if_neg (by simp), if_pos hrg, if_neg (by simp), if_pos hrg]
        exact ⟨rfl, rfl⟩
      rw [hE.1, hE.2]
      clear hE
      have HS := Lib.hid (rf_size w r P H.out)
      obtain ⟨n, hn⟩ : ∃ n, n = P.n := ⟨_, rfl⟩
      rw [← hn] at HS hrg hn4
      clear hn HSz
      by_cases h2 : log < 2
      · go_enter Tryz.func81, Tryz.ntmps81
        go_wp2_with fail
        refine Calls.mono HDd.out ?_
        rintro e w1 ⟨rfl, rfl⟩
        go_wp2
        refine bodyPost_ret (results_tmp2 rfl _ _ _) rfl ?_
        exact ⟨fun h => absurd h (by decide), fun _ => ⟨rfl, H.out⟩, Only.refl _ _⟩
      · have h3 : (n : Int) - 3 < log := by omega
        go_enter Tryz.func81, Tryz.ntmps81
        go_wp2_with fail
        refine Calls.mono HDd.out ?_
        rintro e w1 ⟨rfl, rfl⟩
        go_wp2_with fail
        refine Calls.mono HS.out ?_
        rintro e w1 ⟨rfl, rfl⟩
        go_wp2
        refine bodyPost_ret (results_tmp2 rfl _ _ _) rfl ?_
        exact ⟨fun h => absurd h (by decide), fun _ => ⟨rfl, H.out⟩, Only.refl _ _⟩
    · obtain ⟨L, rfl⟩ : ∃ L : Nat, log = (L : Int) := ⟨log.toNat, by omega⟩
      rw [Int.toNat_natCast]
      have hL2 : 2 ≤ L := by omega
      have hLn : L + 3 ≤ P.n := by omega
      have HF0 : Hid (formatE P L = (if runE (zerosW P.n) P ≠ 0 then runE (zerosW P.n) P else runE (formatW P.n L) (runP (zerosW P.n) P)) ∧ formatP P L = (if runE (zerosW P.n) P ≠ 0 then runP (zerosW P.n) P else runP (formatW P.n L) (runP (zerosW P.n) P))) := Lib.hid (by
        unfold formatE formatP
        simp only [HD.out, hrg, if_false, Bool.false_eq_true, Int.toNat_natCast]
        exact ⟨trivial, trivial⟩)
      obtain ⟨n, hn⟩ : ∃ n, n = P.n := ⟨_, rfl⟩
      rw [← hn] at HF0 hLn hn4
      have HN := Lib.hid hn
      clear hn hrg
      have HS := Lib.hid (HSz.out w P H.out)
      rw [← HN.out] at HS
      go_enter Tryz.func81, Tryz.ntmps81
      go_wp2_with fail
      refine Calls.mono HDd.out ?_
      rintro e w1 ⟨rfl, rfl⟩
      have hc1 : ¬ ((L : Int) < 2) := by omega
      have hc2 : ¬ ((n : Int) - 3 < (L : Int)) := by omega
      go_wp2_with fail
      refine Calls.mono HS.out ?_
      rintro e w1 ⟨rfl, rfl⟩
      go_wp2_with fail
      go_loopw [6] (fun vi wr => ∃ k : Nat, k ≤ n - 2 ∧ vi = .int .i64 ((2 + k : Nat) : Int) ∧ ∃ Q, Hid (runE ((zerosW n).take k) P = 0 ∧ runP ((zerosW n).take k) P = Q) ∧ Hid (RefAt wr r Q) ∧ Hid (Only r.R w wr)) (fun i _ => n - (RowKit.intOf i).toNat)
      case atStart => exact ⟨0, by omega, rfl, P, Lib.hid ⟨rfl, rfl⟩, H, Lib.hid (Only.refl _ _)⟩
      case round =>
        obtain ⟨k, hk, rfl, Q, HR, HRf, HO⟩ := hrel
        have hQn : Q.n = n := by rw [← HR.out.2, runP_n, HN.out]
        have hsz := HSz.out wr Q HRf.out
        rw [hQn] at hsz
        have HSzQ := Lib.hid hsz
        obtain ⟨kk, hkk⟩ : ∃ kk : Nat, kk = 2 + k := ⟨_, rfl⟩
        rw [← hkk]
        have HKK := Lib.hid hkk
        have hkn' : k < n - 2 ∨ n ≤ kk := by omega
        have hkq : kk ≤ n := by omega
        clear hQn hsz hkk
        go_wp2_with fail
        refine Calls.mono HSzQ.out ?_
        rintro e w1 ⟨rfl, rfl⟩
        by_cases hlt : kk < n
        · have hkn : k < n - 2 := by omega
          have hkk := HKK.out
          have hmk := make64 wr
          have hb2 := Below.new wr (.cells (secC zeroS) 5)
          obtain ⟨z, hz⟩ : ∃ z, z = (zWk k).err Q := ⟨_, rfl⟩
          have HWr : Hid (Calls Tryz.prog 78 #[rv r, .int .i64 (kk : Int), .slice (some ⟨wr.heap.size, 0, none⟩) 64 64] (wr.alloc (.cells (secC zeroS) 5)) fun e w' => e = .returned (.int .i64 z) ∧ RefAt w' r ((zWk k).act Q) ∧ Only r.R wr w') := Lib.hid (by
            have hr2 : RefAt (wr.alloc (.cells (secC zeroS) 5)) r Q := ⟨HRf.out.x.below hb2, HRf.out.ok⟩
            refine Calls.mono (ry_wz hr2 kk zeroS wr.heap.size 64 (bys_sec (heap_alloc_new _ _)) (fun hm => Nat.lt_irrefl _ (HRf.out.x.lt _ hm))) ?_
            rintro e w' ⟨rfl, h1, h2⟩
            rw [hz, show zWk k = Wk.wr kk zeroS by rw [hkk]; rfl]
            exact ⟨rfl, h1, (Only.of_below hb2).trans h2⟩)
          have HZ := Lib.hid hz
          have HTk := Lib.hid (zerosW_tk n hkn)
          have HSt := Lib.hid (zerosW_stop n hkn HR.out.1 HR.out.2)
          clear hb2 hz hkk
          go_wp2_with fail
          with_reducible refine Calls.mono HWr.out ?_
          rintro e w2 ⟨rfl, hr2, ho2⟩
          have HRX := Lib.hid hr2
          have HOX := Lib.hid (HO.out.trans ho2)
          clear hr2 ho2 hmk
          by_cases hz0 : z = 0
          · subst hz0
            have HR7 := Lib.hid (run_on (x := zWk k) HR.out.1 (by rw [HR.out.2, ← HZ.out]))
            go_wp2
            go_roundw
            case rel => exact ⟨k + 1, by omega, by rw [HKK.out]; go_num, (zWk k).act Q, Lib.hid (by rw [HTk.out]; have h1 := HR7.out; rw [HR.out.2] at h1; exact h1), HRX, HOX⟩
            case measure => simp [RowKit.intOf]; omega
          · have hzb : (z != 0) = true := by simpa using hz0
            have HRE : Hid (runE (zerosW n) P = z ∧ runP (zerosW n) P = (zWk k).act Q) := Lib.hid (by rw [HZ.out]; exact HSt.out (by rw [← HZ.out]; exact hz0))
            have HFF : Hid (formatE P L = runE (zerosW n) P ∧ formatP P L = runP (zerosW n) P) := Lib.hid (by
              obtain ⟨y1, y2⟩ := HF0.out
              rw [if_pos (by rw [HRE.out.1]; exact hz0)] at y1 y2
              exact ⟨y1, y2⟩)
            clear hz0
            go_wp2
            refine bodyPost_ret (results_tmp2 rfl _ _ _) rfl ?_
            obtain ⟨e1, e2⟩ := HRE.out
            obtain ⟨y1, y2⟩ := HFF.out
            rw [y1, y2, e1, e2]
            exact ⟨fun h => absurd h (by simpa using hzb), fun _ => ⟨rfl, HRX.out⟩, HOX.out⟩
        · obtain rfl : kk = n := by omega
          have hfin : (zerosW kk).take k = zerosW kk := List.take_of_length_le (by unfold zerosW; rw [List.length_map, List.length_range]; have := HKK.out; omega)
          rw [hfin] at HR
          have HFF : Hid (formatE P L = runE [.fl, .wr 0 (packS (headSct 1 L 0 1)), .wr 1 (packS (headSct 2 L 0 1)), .fl] Q ∧ formatP P L = runP [.fl, .wr 0 (packS (headSct 1 L 0 1)), .wr 1 (packS (headSct 2 L 0 1)), .fl] Q) := Lib.hid (by
            obtain ⟨y1, y2⟩ := HF0.out
            rw [HR.out.1, HR.out.2] at y1 y2
            simp only [ne_eq, not_true_eq_false, if_false] at y1 y2
            exact ⟨y1, y2⟩)
          have HR0 : Hid (runE [] Q = 0 ∧ runP [] Q = Q) := Lib.hid ⟨rfl, rfl⟩
          have HQn : Hid (Q.n = kk) := Lib.hid (by rw [← HR.out.2, runP_n, HN.out])
          clear hfin
          obtain ⟨z1, hz1⟩ : ∃ z, z = (Wk.fl).err Q := ⟨_, rfl⟩
          obtain ⟨Q1, hQ1⟩ : ∃ Q', Q' = (Wk.fl).act Q := ⟨_, rfl⟩
          have HC0 := Lib.hid (ry_fl HRf.out)
          rw [← hz1, ← hQ1] at HC0
          have HZ0 := Lib.hid hz1
          have HQ0 := Lib.hid hQ1
          clear hz1 hQ1
          go_wp2_with fail
          refine Calls.mono HC0.out ?_
          rintro e wx0 ⟨rfl, hr2, ho2⟩
          have HRf1 := Lib.hid hr2
          have HO1 := Lib.hid (HO.out.trans (ho2))
          clear hr2 ho2
          by_cases hz0 : z1 = 0
          · have HR1 : Hid (runE ([] ++ [(Wk.fl)]) Q = 0 ∧ runP ([] ++ [(Wk.fl)]) Q = Q1) := Lib.hid (by
              have h1 := run_on (x := (Wk.fl)) HR0.out.1 (by rw [HR0.out.2, ← HZ0.out]; exact hz0)
              rw [HR0.out.2, ← HQ0.out] at h1
              exact h1)
            simp only [List.nil_append] at HR1
            subst hz0
            obtain ⟨z2, hz2⟩ : ∃ z, z = (Wk.wr 0 (packS (headSct 1 L 0 1))).err Q1 := ⟨_, rfl⟩
            obtain ⟨Q2, hQ2⟩ : ∃ Q', Q' = (Wk.wr 0 (packS (headSct 1 L 0 1))).act Q1 := ⟨_, rfl⟩
            have HZ1 := Lib.hid hz2
            have HQ1 := Lib.hid hQ2
            clear hz2 hQ2
            have HHe1 := Lib.hid (ry_head _ r Q1 HRf1.out 1 L 0 1 (by omega) (by omega) (by omega) (by omega))
            go_wp2_with fail
            refine Calls.mono HHe1.out ?_
            rintro e wy1 ⟨gp, cp, rfl, hBp, hgp, hby⟩
            have HC1 := Lib.hid (ry_wr (r := r) (P := Q1) ⟨HRf1.out.x.below hby, HRf1.out.ok⟩ 0 (headSct 1 L 0 1) gp cp hBp hgp)
            have HOy := Lib.hid (Only.of_below (R := r.R) hby)
            clear hBp hgp hby HHe1
            rw [show (Wk.wr 0 (packS (headSct 1 L 0 1))).err Q1 = z2 from HZ1.out.symm, show (Wk.wr 0 (packS (headSct 1 L 0 1))).act Q1 = Q2 from HQ1.out.symm] at HC1
            go_wp2_with fail
            refine Calls.mono HC1.out ?_
            rintro e wx1 ⟨rfl, hr2, ho2⟩
            have HRf2 := Lib.hid hr2
            have HO2 := Lib.hid (HO1.out.trans (HOy.out.trans ho2))
            clear hr2 ho2
            by_cases hz0 : z2 = 0
            · have HR2 : Hid (runE ([.fl] ++ [(Wk.wr 0 (packS (headSct 1 L 0 1)))]) Q = 0 ∧ runP ([.fl] ++ [(Wk.wr 0 (packS (headSct 1 L 0 1)))]) Q = Q2) := Lib.hid (by
                have h1 := run_on (x := (Wk.wr 0 (packS (headSct 1 L 0 1)))) HR1.out.1 (by rw [HR1.out.2, ← HZ1.out]; exact hz0)
                rw [HR1.out.2, ← HQ1.out] at h1
                exact h1)
              simp only [List.nil_append, List.cons_append] at HR2
              subst hz0
              obtain ⟨z3, hz3⟩ : ∃ z, z = (Wk.wr 1 (packS (headSct 2 L 0 1))).err Q2 := ⟨_, rfl⟩
              obtain ⟨Q3, hQ3⟩ : ∃ Q', Q' = (Wk.wr 1 (packS (headSct 2 L 0 1))).act Q2 := ⟨_, rfl⟩
              have HZ2 := Lib.hid hz3
              have HQ2 := Lib.hid hQ3
              clear hz3 hQ3
              have HHe2 := Lib.hid (ry_head _ r Q2 HRf2.out 2 L 0 1 (by omega) (by omega) (by omega) (by omega))
              go_wp2_with fail
              refine Calls.mono HHe2.out ?_
              rintro e wy2 ⟨gp, cp, rfl, hBp, hgp, hby⟩
              have HC2 := Lib.hid (ry_wr (r := r) (P := Q2) ⟨HRf2.out.x.below hby, HRf2.out.ok⟩ 1 (headSct 2 L 0 1) gp cp hBp hgp)
              have HOy := Lib.hid (Only.of_below (R := r.R) hby)
              clear hBp hgp hby HHe2
              rw [show (Wk.wr 1 (packS (headSct 2 L 0 1))).err Q2 = z3 from HZ2.out.symm, show (Wk.wr 1 (packS (headSct 2 L 0 1))).act Q2 = Q3 from HQ2.out.symm] at HC2
              go_wp2_with fail
              refine Calls.mono HC2.out ?_
              rintro e wx2 ⟨rfl, hr2, ho2⟩
              have HRf3 := Lib.hid hr2
              have HO3 := Lib.hid (HO2.out.trans (HOy.out.trans ho2))
              clear hr2 ho2
              by_cases hz0 : z3 = 0
              · have HR3 : Hid (runE ([.fl, .wr 0 (packS (headSct 1 L 0 1))] ++ [(Wk.wr 1 (packS (headSct 2 L 0 1)))]) Q = 0 ∧ runP ([.fl, .wr 0 (packS (headSct 1 L 0 1))] ++ [(Wk.wr 1 (packS (headSct 2 L 0 1)))]) Q = Q3) := Lib.hid (by
                  have h1 := run_on (x := (Wk.wr 1 (packS (headSct 2 L 0 1)))) HR2.out.1 (by rw [HR2.out.2, ← HZ2.out]; exact hz0)
                  rw [HR2.out.2, ← HQ2.out] at h1
                  exact h1)
                simp only [List.nil_append, List.cons_append] at HR3
                subst hz0
                obtain ⟨z4, hz4⟩ : ∃ z, z = (Wk.fl).err Q3 := ⟨_, rfl⟩
                obtain ⟨Q4, hQ4⟩ : ∃ Q', Q' = (Wk.fl).act Q3 := ⟨_, rfl⟩
                have HC3 := Lib.hid (ry_fl HRf3.out)
                rw [← hz4, ← hQ4] at HC3
                have HZ3 := Lib.hid hz4
                have HQ3 := Lib.hid hQ4
                clear hz4 hQ4
                go_wp2_with fail
                refine Calls.mono HC3.out ?_
                rintro e wx3 ⟨rfl, hr2, ho2⟩
                have HRf4 := Lib.hid hr2
                have HO4 := Lib.hid (HO3.out.trans (ho2))
                clear hr2 ho2
                by_cases hz0 : z4 = 0
                · have HR4 : Hid (runE ([.fl, .wr 0 (packS (headSct 1 L 0 1)), .wr 1 (packS (headSct 2 L 0 1))] ++ [(Wk.fl)]) Q = 0 ∧ runP ([.fl, .wr 0 (packS (headSct 1 L 0 1)), .wr 1 (packS (headSct 2 L 0 1))] ++ [(Wk.fl)]) Q = Q4) := Lib.hid (by
                    have h1 := run_on (x := (Wk.fl)) HR3.out.1 (by rw [HR3.out.2, ← HZ3.out]; exact hz0)
                    rw [HR3.out.2, ← HQ3.out] at h1
                    exact h1)
                  simp only [List.nil_append, List.cons_append] at HR4
                  subst hz0
                  have HQ4 : Hid (Q4.n = kk) := Lib.hid (by rw [← HR4.out.2, runP_n, HQn.out])
                  go_wp2
                  refine bodyPost_ret (results_tmp2 rfl _ _ _) rfl ?_
                  obtain ⟨y1, y2⟩ := HFF.out
                  obtain ⟨e1, e2⟩ := HR4.out
                  rw [y1, y2, e1, e2]
                  have hok : (formatJ L).Ok Q4.n := ⟨hL2, by show L + 3 ≤ Q4.n; have := HQ4.out; omega, by show 0 < L; omega, Nat.zero_le _, (show (1 : Nat) ≤ 4611686018427387904 by decide), (show (2 : Nat) ≤ 4611686018427387904 by decide), (show 0 < (2 : Nat) by decide), fun _ _ => rfl, fun _ _ h => by cases h⟩
                  exact ⟨fun _ => ⟨_, rfl, rj_new HRf4.out hok rfl _ rfl rfl rfl rfl rfl rfl rfl rfl 129, HO4.out.size⟩, fun h => absurd rfl h, HO4.out.trans (Only.of_below (Below.new _ _))⟩
                · have hzb : (z4 != 0) = true := by simpa using hz0
                  have HRE : Hid (runE [.fl, .wr 0 (packS (headSct 1 L 0 1)), .wr 1 (packS (headSct 2 L 0 1)), .fl] Q = z4 ∧ runP [.fl, .wr 0 (packS (headSct 1 L 0 1)), .wr 1 (packS (headSct 2 L 0 1)), .fl] Q = Q4) := Lib.hid (by
                    have h1 := run_stop (k := []) (x := (Wk.fl)) HR3.out.1 (by rw [HR3.out.2, ← HZ3.out]; exact hz0)
                    rw [HR3.out.2, ← HZ3.out, ← HQ3.out] at h1
                    exact h1)
                  have HRX := HRf4
                  have HOX := HO4
                  clear hz0
                  go_wp2
                  refine bodyPost_ret (results_tmp2 rfl _ _ _) rfl ?_
                  obtain ⟨e1, e2⟩ := HRE.out
                  obtain ⟨y1, y2⟩ := HFF.out
                  rw [y1, y2, e1, e2]
                  exact ⟨fun h => absurd h (by simpa using hzb), fun _ => ⟨rfl, HRX.out⟩, HOX.out⟩
              · have hzb : (z3 != 0) = true := by simpa using hz0
                have HRE : Hid (runE [.fl, .wr 0 (packS (headSct 1 L 0 1)), .wr 1 (packS (headSct 2 L 0 1)), .fl] Q = z3 ∧ runP [.fl, .wr 0 (packS (headSct 1 L 0 1)), .wr 1 (packS (headSct 2 L 0 1)), .fl] Q = Q3) := Lib.hid (by
                  have h1 := run_stop (k := [.fl]) (x := (Wk.wr 1 (packS (headSct 2 L 0 1)))) HR2.out.1 (by rw [HR2.out.2, ← HZ2.out]; exact hz0)
                  rw [HR2.out.2, ← HZ2.out, ← HQ2.out] at h1
                  exact h1)
                have HRX := HRf3
                have HOX := HO3
                clear hz0
                go_wp2
                refine bodyPost_ret (results_tmp2 rfl _ _ _) rfl ?_
                obtain ⟨e1, e2⟩ := HRE.out
                obtain ⟨y1, y2⟩ := HFF.out
                rw [y1, y2, e1, e2]
                exact ⟨fun h => absurd h (by simpa using hzb), fun _ => ⟨rfl, HRX.out⟩, HOX.out⟩
            · have hzb : (z2 != 0) = true := by simpa using hz0
              have HRE : Hid (runE [.fl, .wr 0 (packS (headSct 1 L 0 1)), .wr 1 (packS (headSct 2 L 0 1)), .fl] Q = z2 ∧ runP [.fl, .wr 0 (packS (headSct 1 L 0 1)), .wr 1 (packS (headSct 2 L 0 1)), .fl] Q = Q2) := Lib.hid (by
                have h1 := run_stop (k := [.wr 1 (packS (headSct 2 L 0 1)), .fl]) (x := (Wk.wr 0 (packS (headSct 1 L 0 1)))) HR1.out.1 (by rw [HR1.out.2, ← HZ1.out]; exact hz0)
                rw [HR1.out.2, ← HZ1.out, ← HQ1.out] at h1
                exact h1)
              have HRX := HRf2
              have HOX := HO2
              clear hz0
              go_wp2
              refine bodyPost_ret (results_tmp2 rfl _ _ _) rfl ?_
              obtain ⟨e1, e2⟩ := HRE.out
              obtain ⟨y1, y2⟩ := HFF.out
              rw [y1, y2, e1, e2]
              exact ⟨fun h => absurd h (by simpa using hzb), fun _ => ⟨rfl, HRX.out⟩, HOX.out⟩
          · have hzb : (z1 != 0) = true := by simpa using hz0
            have HRE : Hid (runE [.fl, .wr 0 (packS (headSct 1 L 0 1)), .wr 1 (packS (headSct 2 L 0 1)), .fl] Q = z1 ∧ runP [.fl, .wr 0 (packS (headSct 1 L 0 1)), .wr 1 (packS (headSct 2 L 0 1)), .fl] Q = Q1) := Lib.hid (by
              have h1 := run_stop (k := [.wr 0 (packS (headSct 1 L 0 1)), .wr 1 (packS (headSct 2 L 0 1)), .fl]) (x := (Wk.fl)) HR0.out.1 (by rw [HR0.out.2, ← HZ0.out]; exact hz0)
              rw [HR0.out.2, ← HZ0.out, ← HQ0.out] at h1
              exact h1)
            have HRX := HRf1
            have HOX := HO1
            clear hz0
            go_wp2
            refine bodyPost_ret (results_tmp2 rfl _ _ _) rfl ?_
            obtain ⟨e1, e2⟩ := HRE.out
            obtain ⟨y1, y2⟩ := HFF.out
            rw [y1, y2, e1, e2]
            exact ⟨fun h => absurd h (by simpa using hzb), fun _ => ⟨rfl, HRX.out⟩, HOX.out⟩
  · have hE : formatE P log = 50 ∧ formatP P log = P := by
      unfold formatE formatP
      rw [hd, if_pos rfl, if_pos rfl]
      exact ⟨rfl, rfl⟩
    rw [hE.1, hE.2]
    rw [hd] at HDd
    clear hE hd HSz
    go_enter Tryz.func81, Tryz.ntmps81
    go_wp2_with fail
    refine Calls.mono HDd.out ?_
    rintro e w1 ⟨rfl, rfl⟩
    go_wp2
    refine bodyPost_ret (results_tmp2 rfl _ _ _) rfl ?_
    exact ⟨fun h => absurd h (by decide), fun _ => ⟨rfl, H.out⟩, Only.refl _ _⟩
end
end Go.Proofs.YtdhidcoglioalaaGreat.Walks
