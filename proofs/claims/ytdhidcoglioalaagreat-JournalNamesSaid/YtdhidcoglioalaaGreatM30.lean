/-
  The log is read a piece at a time.
-/
import Derived.Test.YtdhidcoglioalaaGreatM23
import Derived.Test.YtdhidcoglioalaaGreatM29
import Derived.Test.YtdhidcoglioalaaGreatM24
namespace Go.Proofs.YtdhidcoglioalaaGreat.Walks
open Go.RowKit Plain
open Go.Maps (Keyed IsMap)
set_option linter.unusedVariables false
attribute [local go_sem ↓] exec_load116 exec_store116 exec_alloc116 exec_load112 exec_store112 exec_alloc112 exec_build3 exec_build4 Go.wp_at_zero Go.wp_at_succ exec_load112T exec_store116T exec_load116T
attribute [local go_sem] isPt_mk adOf_mk isI_mk iOf_mk cellsV_mk sctL_length blkL_length setCells_drew oneN_sct oneN_blk oneN_fields roomN_new isRow_new cellL_new alloc_setN roomN_past isRow_past cellL_past roomN_drew isRow_drew cellL_drew setCells_size setCells_past

def NextR (w w' : World) (j : JLoc) (q : PLoc) (J : Jn) (P : Pl) (e : Ending) : Scan → Prop
  | .bad => e = .returned (.tuple #[.int .i64 0, .int .i64 70]) ∧ JP w' j q J P ∧ Only (j.R q) w w'
  | .stop => e = .returned (.tuple #[.int .i64 0, .int .i64 0]) ∧ JP w' j q J P ∧ Only (j.R q) w w'
  | .found l => e = .returned (.tuple #[.int .i64 ((l.length + 1 : Nat) : Int), .int .i64 0]) ∧ JP w' j q (J.wrote l) P ∧ Only (j.R q) w w'
section
variable {w w' : World} {j : JLoc} {q : PLoc} {J J' : Jn} {P P' : Pl}
/-- A loop over the found keys that looks whether there are such blocks. -/
def ChkR (wb wr : World) (s it nn : Nat) (D : DM) (bl : Nat) : Prop := ∃ left cnt, wr.ranges Tryz.prog 3 (RE EB) s it nn D left cnt ∧ (∀ x, (atI D x).isSome = true → left (.int .i64 x) = false → x < (bl : Int)) ∧ Below wb.heap.size wb wr
theorem kind_i (b : Sec) (z : Int) : ((parseS b).kind == z) = (((parseS b).kind) == z) := rfl
theorem row_data {w : World} {g : Nat} {s : Sct} (h : RowAt w ⟨g, 0, none⟩ (sctL s)) : RowAt w ⟨g, 3, none⟩ (blkL s.data) := ⟨rfl, fun k v hv => by
  have := h.cell (j := 3 + k) (v := v) (by unfold sctL; rw [show 3 + k = k + 1 + 1 + 1 by omega, List.getElem?_cons_succ, List.getElem?_cons_succ, List.getElem?_cons_succ]; exact hv)
  rw [Nat.zero_add] at this
  exact this⟩
theorem isBlank_zero (b : Sec) : zeroL (bytesOf b) = isBlank b := rfl
set_option maxRecDepth 10000 in
set_option maxHeartbeats 4000000 in
theorem next_any (h : JP w j q J P) (hbr : J.broken = false) (hd : P.dead = false) (ht : J.turn < 4611686018427387904) (most : Nat) (hm : J.used + most ≤ J.log) :
    Calls Tryz.prog 35 #[jv j, .int .i64 most] w fun e w' => NextR w w' j q J P e (scanL P.seen J.log (P.n - 2 - J.log) J.at_ J.turn most []) := by
  have hmap := @run_makeMap Tryz.prog
  have hL4 : J.log ≤ 4096 := by have := h.pl.ok.most; have := h.ok.logn; omega
  have hm4 : most ≤ 4096 := by omega
  have HM := Lib.hid hm
  have H := Lib.hid h
  have HBr := Lib.hid hbr
  have HD := Lib.hid hd
  have HT := Lib.hid ht
  have HL4 := Lib.hid hL4
  obtain ⟨R, hR⟩ : ∃ R, R = scanL P.seen J.log (P.n - 2 - J.log) J.at_ J.turn most [] := ⟨_, rfl⟩
  rw [← hR]
  have HR := Lib.hid hR.symm
  clear hm h hbr hd ht hL4 hR
  go_enter Tryz.func35, Tryz.ntmps35
  go_wp2_with fail
  go_loopw [15] (fun i wr => ∃ l : List (Nat × Blk), i = .int .i64 l.length ∧ l.length ≤ most ∧ Hid (scanL P.seen J.log (P.n - 2 - J.log) J.at_ J.turn (most - l.length) l = R) ∧ Hid (IM EB wr w.heap.size (pmap (putAll (fun _ => none) l))) ∧ Hid (∀ x ∈ l, x.1 < 65536 ∧ Flat x.2) ∧ Hid (Below w.heap.size w wr)) (fun i _ => most - (RowKit.intOf i).toNat)
  case atStart => exact ⟨[], rfl, Nat.zero_le _, Lib.hid HR.out, Lib.hid (by have := IM.new EB w; rw [← pmap_none] at this; exact this), Lib.hid (fun x hx => by cases hx), Lib.hid (Below.new _ _)⟩
  case round =>
    obtain ⟨l, rfl, hle, HSc, HIm, HFl, HBw⟩ := hrel
    by_cases hlt : l.length < most
    · have hj := H.out.below HBw.out
      have hc0 := hj.jn.c0
      have hpl : J.place l.length < P.n := by have := hj.ok.logn; have := hj.ok.log2; have := Nat.mod_lt (J.at_ + l.length) (show 0 < J.log by omega); unfold Jn.place; omega
      obtain ⟨f, hf⟩ : ∃ f, most - l.length = f + 1 := ⟨most - l.length - 1, by omega⟩
      have hsc := HSc.out
      rw [hf] at hsc
      simp only [scanL] at hsc
      obtain ⟨b, hbs⟩ : ∃ b, b = P.seen (2 + (J.at_ + l.length) % J.log) := ⟨_, rfl⟩
      rw [← hbs] at hsc
      have HSc2 := Lib.hid hsc
      have HF := Lib.hid hf
      have HPl : Hid (Calls Tryz.prog 20 #[jv j, .int .i64 l.length] wr.drew fun e w' => e = .returned (.int .i64 (J.place l.length : Nat)) ∧ ∃ n, w' = wr.drew.drewN n) := Lib.hid (jplace_any hj.drew l.length (by omega))
      have HRd : Hid (∀ wz, Below wr.heap.size wr wz → Calls Tryz.prog 15 #[pv q, .int .i64 (J.place l.length : Nat)] wz fun e w' => Below wr.heap.size wr w' ∧ ∃ g, e = .returned (.tuple #[.slice (some ⟨g, 0, none⟩) 64 64, .int .i64 0]) ∧ w'.heap[g]? = some (.cells (secC b) 91 (0, 0))) := Lib.hid fun wz hz => by
        rw [hbs]
        refine Calls.mono (read_ok wz q P (hj.below hz).pl (J.place l.length) hpl HD.out) ?_
        rintro e w' ⟨hb, g, rfl, hg, hc⟩
        exact ⟨Below.step hz hb, g, rfl, hc⟩
      have MK : Hid (∀ w', Below wr.heap.size wr w' → w'.cell? ⟨j.p, 0, none⟩ = some (pv q)) := Lib.hid fun w' hb => keepc hb hc0
      have hS : Below wr.heap.size wr wr := Below.refl _ _
      clear hj hpl hf hsc hbs HSc
      go_wp2_with fail
      go_region_held3 (fun w' => w'.cell? ⟨j.p, 0, none⟩ = some (pv q))
        (first | with_reducible exact MK.out _ hS | with_reducible exact MK.out _ hS.drew)
        ((first
        | (go_at_call 20; go_loud ((with_reducible refine Calls.mono HPl.out ?_); rintro e wz ⟨rfl, hz⟩; have hS : Below wr.heap.size wr wz := (by obtain ⟨nq, rfl⟩ := hz; exact below_drewN (Below.refl _ _).drew nq); clear hz))
        | (go_at_call 15; go_loud ((with_reducible refine Calls.mono (HRd.out _ ?_) ?_); (first | with_reducible exact hS | with_reducible exact hS.drew); rintro e w3 ⟨hbe3, g, rfl, hc⟩; have HB3 := Lib.hid hbe3; have HG := Lib.hid hc; have hS : Below wr.heap.size wr w3 := HB3.out; clear hbe3 hc))))
      have HBl := Lib.hid (blank_n w3 (some ⟨g, 0, none⟩) (bytesOf b) 64 64 (bytesOf_length b) (bys_sec HG.out))
      rw [isBlank_zero] at HBl
      have HPa := Lib.hid (parse_any w3 g 0 b (bys_sec HG.out))
      have HB4 := Lib.hid (Below.step HBw.out HB3.out)
      have HJ3 := Lib.hid (H.out.below HB4.out)
      have HIm3 := Lib.hid (HIm.out.block (HB3.out.block _ HIm.out.lt))
      clear MK HPl HRd hS HB3 HG HIm HBw hc0
      cases hbl : isBlank b
      · have hsc := HSc2.out
        rw [hbl] at hsc HBl
        simp only [Bool.false_eq_true, if_false] at hsc
        have HSc3 := Lib.hid hsc
        clear hsc hbl HSc2
        go_wp2_with fail
        refine Calls.mono HBl.out ?_
        rintro e w' ⟨rfl, rfl⟩
        go_wp2_with fail
        refine Calls.mono HPa.out ?_
        rintro e w5 ⟨rfl, hb5⟩
        obtain ⟨w6, hw6⟩ : ∃ x, x = w5.alloc (.cells (sctL (parseS b)).toArray 52) := ⟨_, rfl⟩
        obtain ⟨g8, hg8⟩ : ∃ g, g = w5.heap.size := ⟨_, rfl⟩
        have hrow : RowAt w6 ⟨g8, 0, none⟩ (sctL (parseS b)) := by rw [hw6]; exact row_new w5 52 _ hg8
        have hb6 : Below w3.heap.size w3 w6 := by rw [hw6]; exact Below.step hb5 (Below.new _ _)
        have HRow := Lib.hid hrow
        have HB6 := Lib.hid (Below.step HB4.out hb6)
        have HJ6 := Lib.hid (HJ3.out.below hb6)
        have HIm6 := Lib.hid (HIm3.out.block (hb6.block _ HIm3.out.lt))
        have r0 : w6.cell? ⟨g8, 0, none⟩ = some (.int .i64 (parseS b).kind) := hrow.cell (j := 0) rfl
        have r1 : w6.cell? ⟨g8, 1, none⟩ = some (.int .i64 (parseS b).turn) := hrow.cell (j := 1) rfl
        have r2 : w6.cell? ⟨g8, 2, none⟩ = some (.int .i64 (getN (cutS b 6 2) : Nat)) := hrow.cell (j := 2) rfl
        clear hrow hb6 hb5 HB4 HJ3 HIm3 HBl HPa
        go_upto_region 11 with (fail)
        rw [← hw6, ← hg8]
        clear hw6 hg8
        obtain ⟨K, hK⟩ : ∃ K, K = (parseS b).kind := ⟨_, rfl⟩
        rw [← hK] at r0 HSc3
        obtain ⟨ok, hok⟩ : ∃ ok, ok = parseOk b := ⟨_, rfl⟩
        rw [← hok] at HSc3 ⊢
        clear hok
        cases ok
        · have hR : Scan.bad = R := by simpa using HSc3.out
          go_wp2_with fail
          refine bodyPost_ret (results_tmp2 rfl _ _ _) rfl ?_
          rw [← hR]
          exact ⟨rfl, HJ6.out, Only.of_below HB6.out⟩
        · have hsc := HSc3.out
          simp only [Bool.not_true, Bool.false_or] at hsc
          have HSc4 := Lib.hid hsc
          clear hsc HSc3
          by_cases h23 : K = 2 ∨ K = 3
          · have hcond : (K != 2 && K != 3) = false := by rcases h23 with rfl | rfl <;> rfl
            have hsc := HSc4.out
            rw [hcond] at hsc
            simp only [Bool.false_eq_true, if_false] at hsc
            have HSc5 := Lib.hid hsc
            clear hsc HSc4 hcond
            have c5 := HJ6.out.jn.c5
            obtain ⟨T, hT⟩ : ∃ T, T = (parseS b).turn := ⟨_, rfl⟩
            rw [← hT] at r1 HSc5
            obtain ⟨JT, hJT⟩ : ∃ JT, JT = J.turn := ⟨_, rfl⟩
            rw [← hJT] at c5
            have HJT := Lib.hid hJT
            clear hT hJT
            by_cases ht : T = (JT : Int)
            · subst ht
              have hsc := HSc5.out
              rw [← HJT.out] at hsc
              simp only [bne_self_eq_false, Bool.false_eq_true, if_false] at hsc
              have HSc6 := Lib.hid hsc
              clear hsc HSc5
              have hK' := h23
              rcases h23 with rfl | rfl
              · have HK2 := Lib.hid hK
                clear hK'
                simp only [beq_self_eq_true, if_true] at HSc6
                go_upto_region 13 with (fail)
                go_quiet (fail)
                generalize hw7 : w6.drewN _ = w7
                have hb67 : Below w6.heap.size w6 w7 := by rw [← hw7]; exact below_drewN (Below.refl _ _) _
                have hrow7 := HRow.out.below hb67 (show g8 < w6.heap.size from block_lt_of_cell (HRow.out.cell (j := 0) rfl))
                have HRow7 := Lib.hid hrow7
                have HB7 := Lib.hid (Below.step HB6.out hb67)
                have HJ7 := Lib.hid (HJ6.out.below hb67)
                have HIm7 := Lib.hid (HIm6.out.block (hb67.block _ HIm6.out.lt))
                clear hw7 hb67 HRow HB6 HJ6 HIm6 r0 r1 r2 c5
                have q0 : w7.cell? ⟨g8, 0, none⟩ = some (.int .i64 2) := by rw [HK2.out]; exact hrow7.cell (j := 0) rfl
                have q2 : w7.cell? ⟨g8, 2, none⟩ = some (.int .i64 (getN (cutS b 6 2) : Nat)) := hrow7.cell (j := 2) rfl
                have hdr := row_data hrow7
                have hix := hdr.is (blkL_length _)
                have hcl := hdr.cells (blkL_length _)
                have hnum := getN2_lt b
                generalize hnm : getN (cutS b 6 2) = num at *
                obtain ⟨w8, hmu, hm8, hg8⟩ := HIm7.out.store (t := 31) (e := 48) (N := 65536) Tryz.underlying31 (pmap_bound (putAll_ok (n := 65536) (fun _ _ => rfl) (fun _ _ e => by cases e) HFl.out).1) (by decide) (x := (num : Int)) (v := blkV (parseS b).data) (Wf.of (by omega) (by omega)) ⟨_, flat_blkOf _, rfl⟩
                have HIm8 : Hid (IM EB w8 w.heap.size (pmap (putAll (fun _ => none) (l ++ [(num, (parseS b).data)])))) := Lib.hid (by
                  rw [putAll_snoc, pmap_upd]
                  exact hm8)
                have HB8 := Lib.hid (HB7.out.grown hg8 (Nat.le_of_lt (Nat.lt_of_lt_of_le HIm7.out.lt (Nat.le_refl _))) (fun k hk => by cases hk; exact Nat.le_refl _))
                have HFl8 : Hid (∀ x ∈ l ++ [(num, (parseS b).data)], x.1 < 65536 ∧ Flat x.2) := Lib.hid (fun x hx => by
                  rcases List.mem_append.1 hx with hx | hx
                  · exact HFl.out x hx
                  · simp only [List.mem_singleton] at hx
                    rw [hx]
                    exact ⟨hnum, flat_blkOf _⟩)
                have HLl : Hid ((l ++ [(num, (parseS b).data)]).length = l.length + 1) := Lib.hid (by simp)
                obtain ⟨l8, hl8⟩ : ∃ l8, l8 = l ++ [(num, (parseS b).data)] := ⟨_, rfl⟩
                rw [← hl8] at HIm8 HFl8 HLl HSc6
                clear hm8 hg8 hdr hl8 hnum hrow7 hnm
                go_wp2
                go_roundw
                case rel => exact ⟨l8, by rw [HLl.out]; go_num, by rw [HLl.out]; omega, Lib.hid (by rw [HLl.out, show most - (l.length + 1) = f by have := HF.out; omega, ← HJT.out]; exact HSc6.out), HIm8, HFl8, HB8⟩
                case measure => simp [RowKit.intOf]; omega
              · have HK2 := Lib.hid hK
                clear hK'
                have e32 : ((3 : Int) == 2) = false := rfl
                rw [e32] at HSc6
                simp only [Bool.false_eq_true, if_false] at HSc6
                go_upto_region 13 with (fail)
                go_quiet (fail)
                generalize hw7 : w6.drewN _ = w7
                have hb67 : Below w6.heap.size w6 w7 := by rw [← hw7]; exact below_drewN (Below.refl _ _) _
                have hrow7 := HRow.out.below hb67 (show g8 < w6.heap.size from block_lt_of_cell (HRow.out.cell (j := 0) rfl))
                have HRow7 := Lib.hid hrow7
                have HB7 := Lib.hid (Below.step HB6.out hb67)
                have HJ7 := Lib.hid (HJ6.out.below hb67)
                have HIm7 := Lib.hid (HIm6.out.block (hb67.block _ HIm6.out.lt))
                clear hw7 hb67 HRow HB6 HJ6 HIm6 r0 r1 r2 c5
                have q0 : w7.cell? ⟨g8, 0, none⟩ = some (.int .i64 3) := by rw [HK2.out]; exact hrow7.cell (j := 0) rfl
                have q2 : w7.cell? ⟨g8, 2, none⟩ = some (.int .i64 (getN (cutS b 6 2) : Nat)) := hrow7.cell (j := 2) rfl
                have hnum := getN2_lt b
                obtain ⟨num, hnm⟩ : ∃ num, num = getN (cutS b 6 2) := ⟨_, rfl⟩
                rw [← hnm] at q2 hnum HSc6
                have HBz := Lib.hid (blank_n w7 (some ⟨g8, 3, none⟩) (cutS b 8 48) 48 48 (cutS_length _ _ _) (bys_data hrow7 0 48 (by omega)))
                have hzl : zeroL (cutS b 8 48) = (cutS b 8 48).all (· == 0) := rfl
                rw [← hzl] at HSc6
                obtain ⟨zb, hzb⟩ : ∃ zb, zb = zeroL (cutS b 8 48) := ⟨_, rfl⟩
                rw [← hzb] at HBz HSc6
                clear hzl hzb hrow7 hnm
                by_cases h0 : l.length = 0
                · have hR : Scan.bad = R := by
                    have := HSc6.out
                    rw [h0] at this
                    simpa using this
                  have h0i : ((l.length : Int) == 0) = true := by rw [h0]; rfl
                  go_wp2_with fail
                  refine bodyPost_ret (results_tmp2 rfl _ _ _) rfl ?_
                  rw [← hR]
                  exact ⟨rfl, HJ7.out, Only.of_below HB7.out⟩
                · have h0i : ((l.length : Int) == 0) = false := by rw [beq_eq_false_iff_ne]; omega
                  have h0n : (l.length == 0) = false := by simp; exact fun e => h0 (by rw [e]; rfl)
                  rw [h0n] at HSc6
                  clear h0n
                  by_cases hnl : num = l.length
                  · rw [hnl] at q2 HSc6
                    clear hnl
                    cases zb
                    · have hR : Scan.bad = R := by have := HSc6.out; simpa using this
                      clear HSc6
                      go_wp2_with fail
                      refine Calls.mono HBz.out ?_
                      rintro e w' ⟨rfl, rfl⟩
                      go_wp2
                      refine bodyPost_ret (results_tmp2 rfl _ _ _) rfl ?_
                      rw [← hR]
                      exact ⟨rfl, HJ7.out, Only.of_below HB7.out⟩
                    · have hsc := HSc6.out
                      simp only [bne_self_eq_false, Bool.or_self, Bool.not_true, Bool.false_or] at hsc
                      have HSc7 := Lib.hid hsc
                      clear hsc HSc6
                      have him := HIm7.out
                      obtain ⟨nn, D, hown, hmD⟩ := him
                      have HHe := Lib.hid (held_of hown)
                      have HMD := Lib.hid hmD
                      have hsl := HIm7.out.lt
                      have hJl : J.blocks P.n = P.n - 2 - J.log := by unfold Jn.blocks; rw [HBr.out]; simp
                      have HJl := Lib.hid hJl
                      clear hmD hJl
                      go_wp2_with fail
                      refine Calls.mono HBz.out ?_
                      rintro e w' ⟨rfl, rfl⟩
                      go_wp2_with (first | (at_range; refine wpList_range_own _ rfl _ 31 rfl 3 48 int_key Tryz.underlying31 (RE EB) w.heap.size nn D rfl hown ?_; intro w8 hrg0 hg0 hs0))
                      try go_frame
                      obtain ⟨it, hit⟩ : ∃ it, it = w7.heap.size := ⟨_, rfl⟩
                      have hbl8 : Below w7.heap.size w7 w8 := ⟨hg0.os, hg0.tape, hg0.output, hg0.size, fun i hi => hg0.block i hi (by simp)⟩
                      rw [← hit] at hrg0 ⊢
                      have HIt := Lib.hid hit
                      have HS8 : Hid (ChkR w7 w8 w.heap.size it nn D (P.n - 2 - J.log)) := Lib.hid ⟨_, _, hrg0, (fun x hx hl => by rw [HHe.out.has] at hl; rw [hl] at hx; cases hx), hbl8⟩
                      clear hrg0 hg0 hs0 hbl8 hown hsl hit
                      go_loopw [] (fun wr2 => Hid (ChkR w7 wr2 w.heap.size it nn D (P.n - 2 - J.log))) (fun wr2 => wr2.rangeLeft w.heap.size it)
                      case atStart => exact HS8
                      case round =>
                        obtain ⟨left, cnt, hrg, hPr, hBr⟩ := hrel.out
                        have HPr := Lib.hid hPr
                        have HBr2 := Lib.hid hBr
                        have HRG := Lib.hid hrg
                        clear hPr hBr hrg
                        go_wp2_with (first | (at_next; refine wpList_next_ranges _ rfl _ rfl 3 int_key (RE EB) (Value.int .i64) blkV (fun key kl h => by obtain ⟨x, hx, _⟩ := Maps.keyOf_int_inv Tryz.underlying3 h; exact ⟨x, hx⟩) (fun v y h => by obtain ⟨b, _, e⟩ := (RE.inv h).1; exact ⟨b, e⟩) w.heap.size it nn D left cnt rfl HRG.out ?_ ?_))
                        · intro hc0 hl0
                          have HL0 := Lib.hid hl0
                          clear hc0 hl0
                          have hall : ∀ x ∈ l, x.1 < P.n - 2 - J.log := fun x hx => by
                            have hs : (pmap (putAll (fun _ => none) l) (x.1 : Int)).isSome = true := by
                              rw [pmap_nat, Option.isSome_map]
                              exact (putAll_some l x.1).2 (.inl (List.mem_map.2 ⟨x, hx, rfl⟩))
                            have := HPr.out (x.1 : Int) (by rw [HMD.out]; exact hs) (HL0.out _)
                            omega
                          have hR : Scan.found l = R := by
                            have := HSc7.out
                            rw [show (l.any fun x => decide (P.n - 2 - J.log ≤ x.1)) = false from List.any_eq_false.2 fun x hx => by have := hall x hx; simp; omega] at this
                            simpa using this
                          have hJr := HJ7.out.below HBr2.out
                          have HW82 := Lib.hid (wrote_any hJr (HIm7.out.block (HBr2.out.block _ HIm7.out.lt)) (Nat.ne_of_gt H.out.jn.ltP) (Nat.ne_of_gt H.out.jn.mp.lt) (fun x hx => ⟨hall x hx, (HFl.out x hx).2⟩) (by have := HM.out; omega) HT.out)
                          have HBz2 := Lib.hid (HB7.out.trans (HBr2.out.mono HB7.out.size))
                          clear hall hJr
                          go_wp2_with fail
                          refine Calls.mono HW82.out ?_
                          rintro e w10 ⟨⟨u, rfl⟩, hj, ho⟩
                          have HJ10 := Lib.hid hj
                          have HO10 := Lib.hid ho
                          clear hj ho
                          go_wp2
                          refine bodyPost_ret (results_tmp2 rfl _ _ _) rfl ?_
                          rw [← hR]
                          exact ⟨rfl, HJ10.out, (Only.of_below HBz2.out).trans HO10.out⟩
                        · intro x c kl y1 y2 w9 cnt9 hkey hlk hv hat hrg9 hlt9 hg9 hs9 hen
                          obtain ⟨x', ex, rfl, hwx⟩ := Maps.keyOf_int_inv Tryz.underlying3 hkey
                          cases ex
                          have hat2 : (atI D x).isSome = true := by
                            unfold atI
                            rw [hat]
                            obtain ⟨hEB, hy⟩ := RE.inv hv
                            cases hy
                            rfl
                          have hb9 : Below w7.heap.size w7 w9 := HBr2.out.grown hg9 HBr2.out.size (fun k hk => by cases hk; exact Nat.le_of_eq HIt.out.symm)
                          have HB9 := Lib.hid hb9
                          have HBl9 := Lib.hid (jblocks_any (HJ7.out.below hb9))
                          rw [HJl.out] at HBl9
                          obtain ⟨B, hB⟩ : ∃ B, B = P.n - 2 - J.log := ⟨_, rfl⟩
                          have hB4 : B ≤ 4096 := by have := HJ7.out.pl.ok.most; omega
                          rw [← hB] at HBl9
                          have HB := Lib.hid hB
                          have HAt := Lib.hid hat2
                          have HRG9 := Lib.hid hrg9
                          have HLT9 := Lib.hid hlt9
                          clear hkey hlk hv hat hrg9 hlt9 hg9 hs9 hat2 hb9 hB
                          by_cases hxb : (B : Int) ≤ x
                          · have hR : Scan.bad = R := by
                              have hs : (pmap (putAll (fun _ => none) l) x).isSome = true := by rw [← HMD.out]; exact HAt.out
                              have h0x : 0 ≤ x := (pmap_bound (putAll_ok (n := 65536) (fun _ _ => rfl) (fun _ _ e => by cases e) HFl.out).1 x hs).1
                              unfold pmap at hs
                              rw [if_pos h0x, Option.isSome_map] at hs
                              have hmem : x.toNat ∈ l.map (·.1) := by simpa using (putAll_some l x.toNat).1 hs
                              obtain ⟨y, hy, e⟩ := List.mem_map.1 hmem
                              have := HSc7.out
                              rw [show (l.any fun x => decide (P.n - 2 - J.log ≤ x.1)) = true from List.any_eq_true.2 ⟨y, hy, by have := HB.out; simp; omega⟩] at this
                              simpa using this
                            go_wp2_with fail
                            refine Calls.mono HBl9.out ?_
                            rintro e w10 ⟨rfl, nq, rfl⟩
                            go_wp2
                            refine bodyPost_ret (results_tmp2 rfl _ _ _) rfl ?_
                            rw [← hR]
                            exact ⟨rfl, (HJ7.out.below HB9.out).drewN _, ((Only.of_below HB7.out).trans (Only.of_below HB9.out)).drewN _⟩
                          · go_wp2_with fail
                            refine Calls.mono HBl9.out ?_
                            rintro e w10 ⟨rfl, nq, rfl⟩
                            go_wp2
                            go_roundw
                            case rel =>
                              have k9 := HRG9.out.kept (w' := w9.drewN nq) (row := none) ⟨rfl, rfl, rfl, Nat.le_refl _, fun _ _ _ => rfl⟩ (by simp) (by simp)
                              refine Lib.hid ⟨_, cnt9, k9, fun y hy hl => ?_, below_drewN HB9.out _⟩
                              simp only [Bool.and_eq_false_imp, Bool.not_eq_eq_eq_not, Bool.not_false] at hl
                              by_cases e : left (.int .i64 y) = false
                              · exact HPr.out y hy e
                              · have hs := hl (by simpa using e)
                                rw [same_int] at hs
                                have : y = x := by simpa using hs
                                rw [this]
                                have := HB.out
                                omega
                            case measure =>
                              have e1 := (HRG9.out.kept (w' := w9.drewN nq) (row := none) ⟨rfl, rfl, rfl, Nat.le_refl _, fun _ _ _ => rfl⟩ (by simp) (by simp)).left_eq
                              rw [e1, HRG.out.left_eq]
                              exact HLT9.out
                  · have hnq : ((num : Int) != (l.length : Int)) = true := by rw [bne_iff_ne]; omega
                    have hR : Scan.bad = R := by
                      have hb' : (num != l.length) = true := by simpa using hnl
                      have := HSc6.out
                      rw [hb'] at this
                      simpa using this
                    clear HSc6 hnl
                    go_wp2_with fail
                    refine bodyPost_ret (results_tmp2 rfl _ _ _) rfl ?_
                    rw [← hR]
                    exact ⟨rfl, HJ7.out, Only.of_below HB7.out⟩
            · have htq : (T != (JT : Int)) = true := by simpa using ht
              have hR : Scan.stop = R := by
                have hsc := HSc5.out
                rw [← HJT.out, htq] at hsc
                simpa using hsc
              clear HSc5 ht
              rcases h23 with rfl | rfl
              · go_upto_region 13 with (fail)
                go_quiet (fail)
                go_wp2
                refine bodyPost_ret (results_tmp2 rfl _ _ _) rfl ?_
                rw [← hR]
                exact ⟨rfl, HJ6.out.drewN _, (Only.of_below HB6.out).drewN _⟩
              · go_upto_region 13 with (fail)
                go_quiet (fail)
                go_wp2
                refine bodyPost_ret (results_tmp2 rfl _ _ _) rfl ?_
                rw [← hR]
                exact ⟨rfl, HJ6.out.drewN _, (Only.of_below HB6.out).drewN _⟩
          · have hk2 : (K != 2) = true := by simp; exact fun e => h23 (.inl e)
            have hk3 : (K != 3) = true := by simp; exact fun e => h23 (.inr e)
            have hR : Scan.bad = R := by
              have := HSc4.out
              rw [hk2, hk3] at this
              simpa using this
            clear HSc4 h23 hK
            go_wp2_with fail
            refine bodyPost_ret (results_tmp2 rfl _ _ _) rfl ?_
            rw [← hR]
            exact ⟨rfl, HJ6.out, Only.of_below HB6.out⟩
      · have hsc := HSc2.out
        rw [hbl] at hsc HBl
        simp only [if_true] at hsc
        go_wp2_with fail
        refine Calls.mono HBl.out ?_
        rintro e w' ⟨rfl, rfl⟩
        go_wp2
        refine bodyPost_ret (results_tmp2 rfl _ _ _) rfl ?_
        rw [← hsc]
        exact ⟨rfl, HJ3.out, Only.of_below HB4.out⟩
    · have e : most - l.length = 0 := by omega
      have hsc := HSc.out
      rw [e] at hsc
      have HJ3 := Lib.hid (H.out.below HBw.out)
      go_wp2
      refine bodyPost_ret (results_tmp2 rfl _ _ _) rfl ?_
      rw [← hsc]
      exact ⟨rfl, HJ3.out, Only.of_below HBw.out⟩
end
end Go.Proofs.YtdhidcoglioalaaGreat.Walks
