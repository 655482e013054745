/-
  The walk of the law DiskAccepts.
-/
import Derived.Test.YtldcpnabgpjgiaaDiskZH
namespace Go.Proofs.Ytldcpnabgpjgiaa.Walks
open Go.RowKit Plain
set_option linter.unusedVariables false
attribute [local go_sem] isPV_mk adV_mk cells_agg cells_agg' held_drew room_drew cellsAt_drew isA4_mk isSl_mk isI_mk intOf_mk
attribute [local go_sem ↓] exec_load88 exec_store88 exec_load81 exec_store81 exec_load90 exec_store90 Go.wp_at_zero Go.wp_at_succ exec_alloc81 exec_build81r exec_build81s exec_bs69 exec_alloc90 exec_build90n
attribute [local irreducible] out0

/-- The n-th of four; the four in memory. -/
def nthQ (q : Int × Int × Int × Int) (n : Nat) : Int := if n = 0 then q.1 else if n = 1 then q.2.1 else if n = 2 then q.2.2.1 else q.2.2.2
def Last (w : World) (x : Nat) (q : Int × Int × Int × Int) : Prop := Blk w x [.int .i64 q.1, .int .i64 q.2.1, .int .i64 q.2.2.1, .int .i64 q.2.2.2] 57
theorem last_cell {w : World} {xl : Nat} {q : Int × Int × Int × Int} (h : Last w xl q) {n : Nat} (hn : n < 4) : w.cell? ⟨xl, n, none⟩ = some (.int .i64 (nthQ q n)) := by
  have : n = 0 ∨ n = 1 ∨ n = 2 ∨ n = 3 := by omega
  rcases this with rfl | rfl | rfl | rfl
  · exact Blk.cell (i := 0) h rfl
  · exact Blk.cell (i := 1) h rfl
  · exact Blk.cell (i := 2) h rfl
  · exact Blk.cell (i := 3) h rfl
theorem last_set {w : World} {xl : Nat} {q : Int × Int × Int × Int} {n x : Int} (h : Last w xl q) (hn : 0 ≤ n ∧ n < 4) : Last (w.setCell ⟨xl, n.toNat, none⟩ (.int .i64 x)) xl (set4 n x q) := by
  rcases in4 hn with rfl | rfl | rfl | rfl
  · exact Blk.set h 0 _
  · exact Blk.set h 1 _
  · exact Blk.set h 2 _
  · exact Blk.set h 3 _
def cntQ4 (q : Int × Int × Int × Int) (x : Int) : Nat → Nat
  | 0 => 0
  | j + 1 => cntQ4 q x j + if nthQ q j = x then 1 else 0
theorem cntQ4_end (q : Int × Int × Int × Int) (x : Int) : cntQ4 q x 4 = manyQ q x := by
  simp [cntQ4, nthQ, manyQ, many4, one]
theorem cntQ4_le (q : Int × Int × Int × Int) (x : Int) : ∀ j, cntQ4 q x j ≤ j
  | 0 => Nat.le_refl _
  | j + 1 => by have := cntQ4_le q x j; unfold cntQ4; split <;> omega
theorem stepC3_mid (e : Int) (q : Int × Int × Int × Int) (x : Int) (h1 : ¬ 3 ≤ manyQ q x) : stepC e 3 q x = mapC e 3 (ansQ q) ∧ stepO e 3 q x = Ou.zero := by
  unfold stepC stepO
  rw [if_neg h1, if_neg h1, if_neg (by rintro ⟨h, _⟩; exact absurd h (by decide)), if_neg (by rintro ⟨h, _⟩; exact absurd h (by decide))]
  exact ⟨rfl, rfl⟩
theorem fire_map (e : Int) : fireC (mapC e 2 (fun _ => none)) = mapC e 3 (fun _ => none) ∧ fireO (mapC e 2 (fun _ => none)) = againO (mapC e 3 (fun _ => none)) Ou.zero := ⟨rfl, rfl⟩
def PairB (w wx : World) (v9 v10 : Value) : Prop := ∃ n x : Int, v9 = .int .i64 n ∧ v10 = .int .i64 x ∧ (0 ≤ n ∧ n < 4) ∧ (0 ≤ x ∧ x < 4) ∧ Below w.heap.size w wx
theorem fire_mapS (B p N : Nat) (e : Int) (w : World) (h : Sys B w p N (mapC e 2 (ansQ (-1, -1, -1, -1)))) :
    Calls Try.prog 61 #[.pointer (some ⟨p, 0, none⟩)] w (GiveS B p N (mapC e 3 (ansQ (-1, -1, -1, -1))) (againO (mapC e 3 (ansQ (-1, -1, -1, -1))) Ou.zero) 0 w) := by
  have he : ansQ (-1, -1, -1, -1) = fun _ => none := ans4_none
  rw [he] at h ⊢
  have hf := mapC_fits e 2 (fun _ => none) (fun k a h => by cases h)
  exact fire_sys B p N _ w h hf.stamp hf.chunk (fun _ => hf.crew) hf.way hf.maps
set_option maxRecDepth 100000 in
set_option maxHeartbeats 40000000 in
theorem diskAccepts_walk (a : Option Addr) (cap : Nat) (l : List Int) (w : World) (hI : Ints w a l) (hn : a = none → cap = 0) (hr : l.length ≤ 17592186044415) : Calls Try.prog 12 #[.slice a l.length cap] w fun e w' => e = .returned (.bool true) ∧ Below w.heap.size w w' := by
  have HI := Lib.hid hI
  clear hI hn
  go_enter Try.func12, Try.ntmps12
  go_wp2_with fail
  refine Calls.mono (works_is w) ?_
  rintro en w1 ⟨rfl, hb1⟩
  have HB1 := Lib.hid hb1
  clear hb1
  go_wp2_with fail
  refine Calls.mono (mapped_is 0 w1) ?_
  rintro en w2 ⟨p, r1, r2, l0, rfl, hN, hC, hb, hp, hr1, hr2⟩
  obtain ⟨g0, wa0, wq0, rfl, hg, _⟩ := hN
  have hz := HB1.out.size
  have hS1 : Sys w.heap.size w2 p 4 (mapC 0 2 (ansQ (-1, -1, -1, -1))) := ⟨r1, r2, by rw [show ansQ (-1, -1, -1, -1) = fun _ => none from ans4_none]; exact hC, by omega, by omega, by omega⟩
  obtain ⟨e3, e4, hb2, hG⟩ := put_note (w := w2) (l := noteL 14 31 (lookW 0).group (lookW 0).epoch (.slice (some ⟨g0, 0, none⟩) 1 1) zeroA 0 0) rfl (note_one zeroA_one)
  have hC3 := hS1.below hb2
  have HP : Hid (Stp w.heap.size w _) := Lib.hid ((Stp.of_below (Below.step HB1.out hb) (Nat.le_refl _)).then hb2 (Nat.le_refl _))
  clear hb2 hG hg hS1 hC hb hp hr1 hr2 hz
  go_wp2_with fail
  refine Calls.mono (fire_mapS w.heap.size p 4 0 _ hC3) ?_
  rintro en w4 ⟨lo, rfl, q1, q2, q3⟩
  obtain ⟨e1, e2, hb5, hG5, hV5⟩ := put_out q2
  have HC5 := Lib.hid (q1.below hb5)
  have HP5 := Lib.hid ((HP.out.trans q3).then hb5 (Nat.le_refl _))
  have HG5 := Lib.hid hG5
  have HV5 := Lib.hid hV5
  clear hb5 hG5 hV5 q1 q2 q3 hC3 e3 e4
  go_upto_region 5 with (fail)
  obtain ⟨w5, hw5⟩ : ∃ x, x = (w4.alloc (.cells out0.toArray 90)).setCells w4.heap.size 0 lo := ⟨_, rfl⟩
  obtain ⟨x5, hx5⟩ : ∃ x, x = w4.heap.size := ⟨_, rfl⟩
  rw [← hw5] at HC5 HP5 HG5 HV5 ⊢
  rw [← hx5] at HG5 ⊢
  clear hw5 hx5 e1 e2
  obtain ⟨g1, g2⟩ := out_at HG5.out HV5.out.len (Below.refl _ _)
  go_cut [31] from 26 to 31 (fun v31 wx => FlagB w5 wx false v31)
  case first =>
    go_region_with
      (first
        | (go_at_call 56; go_loud ((with_reducible refine Calls.mono (five_any _) ?_); rintro en we ⟨a5, rfl, hI5, hb5⟩; have hT : Below w5.heap.size w5 we := Below.step (by (first | with_reducible exact (Below.refl w5.heap.size w5) | with_reducible exact Below.drew (Below.refl w5.heap.size w5) | with_reducible exact Below.step (Below.refl w5.heap.size w5) (Below.new _ _) | with_reducible exact Below.step (Below.drew (Below.refl w5.heap.size w5)) (Below.new _ _) | with_reducible exact Below.drew (Below.step (Below.refl w5.heap.size w5) (Below.new _ _)))) hb5; obtain ⟨g5, g6⟩ := out_at HG5.out HV5.out.len hT))
        | (go_at_call 55; go_loud ((with_reducible refine Calls.mono (says_order 0 lo a5 _ ?_ ?_) ?_); (refine OutV.below (show OutV w5 lo (againO (mapC 0 3 (fun _ => none)) Ou.zero) from HV5.out) ?_; (first | with_reducible exact hT | with_reducible exact Below.drew hT | with_reducible exact Below.step hT (Below.new _ _) | with_reducible exact Below.step (Below.drew hT) (Below.new _ _) | with_reducible exact Below.drew (Below.step hT (Below.new _ _)))); (refine TL.below hI5 ?_; (first | with_reducible exact (Below.refl we.heap.size we) | with_reducible exact Below.drew (Below.refl we.heap.size we) | with_reducible exact Below.step (Below.refl we.heap.size we) (Below.new _ _) | with_reducible exact Below.step (Below.drew (Below.refl we.heap.size we)) (Below.new _ _) | with_reducible exact Below.drew (Below.step (Below.refl we.heap.size we) (Below.new _ _)))); rintro en wf ⟨rfl, hb6⟩; have hU : Below w5.heap.size w5 wf := Below.step (by (first | with_reducible exact hT | with_reducible exact Below.drew hT | with_reducible exact Below.step hT (Below.new _ _) | with_reducible exact Below.step (Below.drew hT) (Below.new _ _) | with_reducible exact Below.drew (Below.step hT (Below.new _ _)))) hb6)))
    all_goals
      go_wp2_with fail
      go_meet
      first
        | exact ⟨rfl, hU⟩
        | exact ⟨rfl, hU.drew⟩
  case rest =>
    obtain ⟨rfl, hS⟩ := hcut
    have HC6 := Lib.hid (HC5.out.below hS)
    have HP6 := Lib.hid (HP5.out.then hS (Nat.le_refl _))
    have hG6 := HG5.out.below hS
    obtain ⟨nl, ca, cc, hN, _, _, ⟨f1, f2⟩, _⟩ := out_open hG6 (HV5.out.below hS)
    obtain ⟨g, wa, wq, rfl, hgb, _⟩ := hN
    have HGB : Hid (Blk wc g (wishL (lookW 0) wa wq) 88) := Lib.hid hgb
    have HF : Hid (cellsAt wc ⟨x5, 1, none⟩ 58 = noteL 1 31 (lookW 0).group (lookW 0).epoch (.slice (some ⟨g, 0, none⟩) 1 1) zeroA 0 0) := Lib.hid f1
    have HG6 := Lib.hid hG6
    have HL6 : Hid (1 + 58 ≤ lo.length) := Lib.hid (by rw [HV5.out.len]; decide)
    clear hS hG6 hgb g1 g2 f1 f2
    go_upto_region 8 with (fail)
    have hM := Blk.new wc [.int .i64 (-1), .int .i64 (-1), .int .i64 (-1), .int .i64 (-1)] 57
    have hb := Below.new wc (.cells #[.int .i64 (-1), .int .i64 (-1), .int .i64 (-1), .int .i64 (-1)] 57)
    have HP7 := Lib.hid (HP6.out.then hb (Nat.le_refl _))
    have HC7 := Lib.hid (HC6.out.below hb)
    have HGB7 := Lib.hid (HGB.out.below hb)
    have HG7 := Lib.hid (HG6.out.below hb)
    obtain ⟨f1, f2⟩ := note_at HG6.out HL6.out HF.out hb
    have HF7 := Lib.hid f1
    have HM7 : Hid (Last _ wc.heap.size (-1, -1, -1, -1)) := Lib.hid hM
    obtain ⟨w7, hw7⟩ : ∃ x, x = wc.alloc (.cells #[.int .i64 (-1), .int .i64 (-1), .int .i64 (-1), .int .i64 (-1)] 57) := ⟨_, rfl⟩
    obtain ⟨xl, hxl⟩ : ∃ x, x = wc.heap.size := ⟨_, rfl⟩
    have hz := HP6.out.size
    have HM0 : Hid (w.heap.size ≤ xl ∧ g < xl ∧ x5 < xl) := Lib.hid (by have := HGB.out.lt; have := HG6.out.lt; omega)
    rw [← hxl] at HM7 ⊢
    rw [show ((wc.alloc (.cells [.int .i64 (-1), .int .i64 (-1), .int .i64 (-1), .int .i64 (-1)].toArray 57))) = w7 from hw7.symm] at HM7
    rw [← hw7] at HP7 HC7 HGB7 HG7 HF7 ⊢
    clear hw7 hxl hM hb hz HP6 HC6 HGB HG6 HF f1 f2
    go_wp2_with fail
    go_loopw [8] (fun iv wr => ∃ (k : Nat) (q : Int × Int × Int × Int), k ≤ l.length ∧ k ≤ 40 ∧ iv = .int .i64 k ∧ Hid (Last wr xl q) ∧ Hid (Sys w.heap.size wr p (4 + 2 * k) (mapC 0 3 (ansQ q))) ∧ Hid (Blk wr g (wishL (lookW 0) wa wq) 88) ∧ Hid (Blk wr x5 lo 90) ∧ Hid (cellsAt wr ⟨x5, 1, none⟩ 58 = noteL 1 31 (lookW 0).group (lookW 0).epoch (.slice (some ⟨g, 0, none⟩) 1 1) zeroA 0 0) ∧ Hid (Below w.heap.size w wr)) (fun iv _ => 40 - (intOf iv).toNat)
    case atStart => exact ⟨0, (-1, -1, -1, -1), by omega, by omega, rfl, HM7, HC7, HGB7, HG7, HF7, Lib.hid HP7.out.low⟩
    case round =>
      clear HM7 HC7 HGB7 HG7 HF7 HP7 HV5 HP5 HC5 HG5 HP HB1
      obtain ⟨k, q, hk, hk40, rfl, HM, HC, HGB, HG, HF, HB⟩ := hrel
      by_cases hlt : k < l.length
      · by_cases hl40 : k < 40
        · have hIr := HI.out.below HB.out
          obtain ⟨b, off, rfl, hbb, hc⟩ := hIr.at_lt hlt
          have hcell := hc k hlt
          clear hc hIr
          obtain ⟨y, hy⟩ : ∃ y, y = l[k] := ⟨_, rfl⟩
          rw [← hy] at hcell
          clear hy
          go_upto_region 11 with (fail)
          go_cut [9, 10] from 33 to 53 (fun v9 v10 wx => PairB wr wx v9 v10)
          case first =>
            go_region_with
              (first
                | (go_at_call 32; (with_reducible refine Calls.mono (bring_any y 4 _ (by decide) (by decide)) ?_); rintro en wq1 ⟨rfl, rfl⟩)
                | (go_at_call 32; (with_reducible refine Calls.mono (bring_any (y / 4) 4 _ (by decide) (by decide)) ?_); rintro en wq1 ⟨rfl, rfl⟩))
            all_goals
              go_wp2_with fail
              go_meet
              exact ⟨bringI y 4, bringI (y / 4) 4, rfl, rfl, bring4' _, bring4' _, by first | exact Below.refl _ _ | exact (Below.refl _ _).drew⟩
          case rest =>
            obtain ⟨n, x, rfl, rfl, hn4, hx4, hS⟩ := hcut
            have HM1 : Hid (Last wc xl q) := Lib.hid (Blk.below HM.out hS)
            have HC1 := Lib.hid (HC.out.below hS)
            have HGB1 := Lib.hid (HGB.out.below hS)
            have HG1 := Lib.hid (HG.out.below hS)
            obtain ⟨f1, f2⟩ := note_at HG.out HL6.out HF.out hS
            have HF1 := Lib.hid f1
            have HB1 := Lib.hid (HB.out.trans (hS.mono HB.out.size))
            clear f1 f2 hS hcell hbb HM HC HGB HG HF HB
            obtain ⟨q', hq'⟩ : ∃ z, z = set4 n x q := ⟨_, rfl⟩
            have HQ' := Lib.hid hq'
            have fm := HM1.out.free n.toNat
            have hM2 := last_set (x := x) HM1.out hn4
            rw [← hq'] at hM2
            have HM2 := Lib.hid hM2
            have hn0 : 0 ≤ n := hn4.1
            have hn3 : n < 4 := hn4.2
            have HN4 := Lib.hid hn4
            have HX4 := Lib.hid hx4
            clear hM2 hq' hn4 hx4
            obtain ⟨v0, hv0⟩ : ∃ v, wc.cell? ⟨xl, n.toNat, none⟩ = some v := ⟨_, last_cell HM1.out (by omega)⟩
            go_upto_region 13 with (fail)
            obtain ⟨w6, hw6⟩ : ∃ z, z = wc.setCell ⟨xl, n.toNat, none⟩ (.int .i64 x) := ⟨_, rfl⟩
            have hm0 := HM0.out
            have HC6 : Hid (Sys w.heap.size w6 p (4 + 2 * k) (mapC 0 3 (ansQ q))) := Lib.hid (by rw [hw6]; exact Sys.setCell HC1.out HM1.out (by decide) (by decide) _ _)
            have HGB6 : Hid (Blk w6 g (wishL (lookW 0) wa wq) 88) := Lib.hid (by rw [hw6]; exact HGB1.out.other (by omega) _ _)
            have HG6 : Hid (Blk w6 x5 lo 90) := Lib.hid (by rw [hw6]; exact HG1.out.other (by omega) _ _)
            have HF6 : Hid (cellsAt w6 ⟨x5, 1, none⟩ 58 = noteL 1 31 (lookW 0).group (lookW 0).epoch (.slice (some ⟨g, 0, none⟩) 1 1) zeroA 0 0) := Lib.hid (by rw [HG6.out.cells HL6.out, ← HG1.out.cells HL6.out]; exact HF1.out)
            have HB6 : Hid (Below w.heap.size w w6) := Lib.hid (by rw [hw6]; exact HB1.out.setCell (by simp; omega) _)
            rw [← hw6] at HM2 ⊢
            clear hw6 hm0 HM1 HC1 HGB1 HG1 HF1 HB1 fm hv0
            go_wp2_with fail
            go_loopw [11, 12] (fun mv jv wi => ∃ j : Nat, j ≤ 4 ∧ jv = .int .i64 j ∧ mv = .int .i64 (cntQ4 q' x j : Nat) ∧ Hid (Below w6.heap.size w6 wi)) (fun _ jv _ => 4 - (intOf jv).toNat)
            case atStart => exact ⟨0, by omega, rfl, rfl, Lib.hid (Below.refl _ _)⟩
            case round =>
              obtain ⟨j, hj, rfl, rfl, HBI⟩ := hrel
              have hcj := cntQ4_le q' x j
              by_cases hj4 : j < 4
              · have hc := last_cell (Blk.below HM2.out HBI.out) hj4
                have hw8 : IntKind.i64.wrap ((cntQ4 q' x j : Nat) + 1) = (cntQ4 q' x j : Nat) + 1 := IntWalk.i64_in _ (by omega)
                have hsuc : cntQ4 q' x (j + 1) = cntQ4 q' x j + if nthQ q' j = x then 1 else 0 := rfl
                have HSUC := Lib.hid hsuc
                clear hsuc
                by_cases he : nthQ q' j = x
                · have hq8 : (nthQ q' j == x) = true := by simpa using he
                  have HE := Lib.hid he
                  clear he
                  go_wp2_with fail
                  go_roundw
                  case rel => exact ⟨j + 1, by omega, by go_num, by rw [HSUC.out, if_pos HE.out]; rfl, HBI⟩
                  case measure => simp [intOf]; omega
                · have hq8 : (nthQ q' j == x) = false := by simpa using he
                  have HE := Lib.hid he
                  clear he
                  go_wp2_with fail
                  go_roundw
                  case rel => exact ⟨j + 1, by omega, by go_num, by rw [HSUC.out, if_neg HE.out]; rfl, HBI⟩
                  case measure => simp [intOf]; omega
              · have hj5 : j = 4 := by omega
                subst hj5
                have HM3 := Lib.hid (Blk.below HM2.out HBI.out)
                have HC3 := Lib.hid (HC6.out.below HBI.out)
                have HGB3 := Lib.hid (HGB6.out.below HBI.out)
                have HG3 := Lib.hid (HG6.out.below HBI.out)
                obtain ⟨f1, f2⟩ := note_at HG6.out HL6.out HF6.out HBI.out
                have HF3 := Lib.hid f1
                have HB3 := Lib.hid (HB6.out.trans (HBI.out.mono HB6.out.size))
                have hmq : cntQ4 q' x 4 = manyQ q' x := cntQ4_end q' x
                clear f1 f2 HM2 HC6 HGB6 HG6 HF6 HB6 HBI hj hj4
                rw [hmq] at hcj ⊢
                clear hmq
                go_upto_region 19 with (fail)
                have hw5 : IntKind.i64.wrap (5 + n) = 5 + n := IntWalk.i64_in _ (by omega)
                have hwu : IntKind.u8.wrap x = x := by rcases in4 HX4.out with h | h | h | h <;> rw [h] <;> rfl
                have hx0 : 0 ≤ x := HX4.out.1
                have hx3 : x < 4 := HX4.out.2
                have HL3 : Hid (w.heap.size ≤ wr.heap.size) := Lib.hid HB3.out.size
                have hZ0 : Below wr.heap.size wr wr := Below.refl _ _
                obtain ⟨y0, y1⟩ := note_at HG3.out HL6.out HF3.out hZ0
                obtain ⟨y2, y3⟩ := note_at HG3.out HL6.out HF3.out (Below.new wr (.cells out0.toArray 90))
                obtain ⟨y4, y5⟩ := note_at HG3.out HL6.out HF3.out (Below.step hZ0.drew (Below.new wr.drew (.cells out0.toArray 90)))
                go_upto_region 19 with (fail)
                go_cut [13, 14] from 68 to 80 (fun v8 v9 wx => TookS w.heap.size wr wx p (4 + 2 * k + 2) (stepC 0 3 (set4 n x q) x) (stepO 0 3 (set4 n x q) x) v8 v9)
                case first =>
                  go_region_with
                    (first
                      | (go_at_call 51; go_loud ((with_reducible refine Calls.mono (read_any x _ (by omega) (by omega)) ?_); rintro en wd ⟨v, rfl, ⟨da, dc, na, nc, hv, ⟨hX, hXn⟩, hY, hYn⟩, hb⟩; have hv : v = .agg (ansL (readA x) da dc na nc).toArray := hv; subst hv; have hS : Below wr.heap.size wr wd := Below.step (by (first | with_reducible exact hZ0 | with_reducible exact Below.drew hZ0 | with_reducible exact Below.step hZ0 (Below.new _ _) | with_reducible exact Below.step (Below.drew hZ0) (Below.new _ _) | with_reducible exact Below.drew (Below.step hZ0 (Below.new _ _)))) hb; obtain ⟨g1, g2⟩ := note_at HG3.out HL6.out HF3.out hS; obtain ⟨g3, g4⟩ := note_at HG3.out HL6.out HF3.out (Below.step hS (Below.new wd (.cells out0.toArray 90))); obtain ⟨g5, g6⟩ := note_at HG3.out HL6.out HF3.out (Below.step hS.drew (Below.new wd.drew (.cells out0.toArray 90))); (first | (have hx8 : Blk wd wr.heap.size out0 90 := Blk.below (Blk.new wr out0 90) (by with_reducible exact hb)) | (have hx8 : Blk wd wr.heap.size out0 90 := Blk.below (Blk.new wr.drew out0 90) (by with_reducible exact hb)) | (have hx8 : Blk wd wr.heap.size out0 90 := Blk.below (Blk.below (Blk.new wr out0 90) (Below.refl _ _).drew) (by with_reducible exact hb)) | skip)))
                      | (go_at_call 50; go_loud ((with_reducible refine Calls.mono (reply_any (5 + n) 1 31 (lookW 0) g wa wq (readA x) da dc na nc _ ?_) ?_); (refine HGB3.out.below ?_; (first | with_reducible exact hS | with_reducible exact Below.drew hS | with_reducible exact Below.step hS (Below.new _ _) | with_reducible exact Below.step (Below.drew hS) (Below.new _ _) | with_reducible exact Below.drew (Below.step hS (Below.new _ _)))); rintro en we ⟨rfl, hb2⟩; have hT0 : Below wd.heap.size wd we := Below.step (by (first | with_reducible exact (Below.refl wd.heap.size wd) | with_reducible exact Below.drew (Below.refl wd.heap.size wd) | with_reducible exact Below.step (Below.refl wd.heap.size wd) (Below.new _ _) | with_reducible exact Below.step (Below.drew (Below.refl wd.heap.size wd)) (Below.new _ _) | with_reducible exact Below.drew (Below.step (Below.refl wd.heap.size wd) (Below.new _ _)))) hb2; have hT : Below wr.heap.size wr we := Below.step hS hT0; have hX' : BL we da (readA x).data := hX.below hT0; have hY' : IL we na (readA x).nodes := TL.below hY hT0; (first | (have hx8 := Blk.below hx8 hT0) | (have hx8 : Blk we wd.heap.size out0 90 := Blk.below (Blk.new wd out0 90) (by with_reducible exact hb2)) | (have hx8 : Blk we wd.heap.size out0 90 := Blk.below (Blk.new wd.drew out0 90) (by with_reducible exact hb2)) | (have hx8 : Blk we wd.heap.size out0 90 := Blk.below (Blk.below (Blk.new wd out0 90) (Below.refl _ _).drew) (by with_reducible exact hb2)) | skip)))
                      | (go_at_call 52; go_loud ((with_reducible refine Calls.mono (take_mapS w.heap.size p (4 + 2 * k) 0 3 (by decide) q n x (5 + n) HN4.out rfl (by omega) da dc na nc _ ?_ ?_ ?_ hXn ?_ hYn) ?_); (omega); (refine Sys.below HC3.out ?_; (first | with_reducible exact hT | with_reducible exact Below.drew hT | with_reducible exact Below.step hT (Below.new _ _) | with_reducible exact Below.step (Below.drew hT) (Below.new _ _) | with_reducible exact Below.drew (Below.step hT (Below.new _ _)))); (refine hX'.below ?_; (first | with_reducible exact (Below.refl we.heap.size we) | with_reducible exact Below.drew (Below.refl we.heap.size we) | with_reducible exact Below.step (Below.refl we.heap.size we) (Below.new _ _) | with_reducible exact Below.step (Below.drew (Below.refl we.heap.size we)) (Below.new _ _) | with_reducible exact Below.drew (Below.step (Below.refl we.heap.size we) (Below.new _ _)))); (refine TL.below hY' ?_; (first | with_reducible exact (Below.refl we.heap.size we) | with_reducible exact Below.drew (Below.refl we.heap.size we) | with_reducible exact Below.step (Below.refl we.heap.size we) (Below.new _ _) | with_reducible exact Below.step (Below.drew (Below.refl we.heap.size we)) (Below.new _ _) | with_reducible exact Below.drew (Below.step (Below.refl we.heap.size we) (Below.new _ _)))); rintro en wf ⟨l', rfl, q1, q2, q3⟩; have p3 : Stp w.heap.size wr wf := Stp.trans (Stp.of_below (by (first | with_reducible exact hT | with_reducible exact Below.drew hT | with_reducible exact Below.step hT (Below.new _ _) | with_reducible exact Below.step (Below.drew hT) (Below.new _ _) | with_reducible exact Below.drew (Below.step hT (Below.new _ _)))) HL3.out) q3; (first | (have hx8 := q3.blk (Blk.below hx8 (by (first | with_reducible exact (Below.refl we.heap.size we) | with_reducible exact Below.drew (Below.refl we.heap.size we) | with_reducible exact Below.step (Below.refl we.heap.size we) (Below.new _ _) | with_reducible exact Below.step (Below.drew (Below.refl we.heap.size we)) (Below.new _ _) | with_reducible exact Below.drew (Below.step (Below.refl we.heap.size we) (Below.new _ _))))) (by decide)) | (have hx8 : Blk wf we.heap.size out0 90 := q3.blk (Blk.new we out0 90) (by decide)) | (have hx8 : Blk wf we.heap.size out0 90 := q3.blk (Blk.new we.drew out0 90) (by decide)) | (have hx8 : Blk wf we.heap.size out0 90 := q3.blk (Blk.below (Blk.new we out0 90) (Below.refl _ _).drew) (by decide)) | skip); (first | (have m0 := hx8.room (o := 0) (n := 75) (by rw [out0_len]; exact Nat.le_refl _)) | skip); obtain ⟨m1, m2, _⟩ := put_out q2; obtain ⟨m3, _⟩ := put_out (q2.below (Below.refl _ _).drew))))
                  all_goals
                    have T1 := Lib.hid (tookS_of (Stp.refl _ _) HL3.out q1 q2 p3)
                    have T3 := Lib.hid (tookS_of (Stp.refl _ _) HL3.out q1.drw (q2.below (Below.refl _ _).drew) (p3.drw HL3.out))
                    (first
                      | (have T2 := Lib.hid (tookS_early HL3.out q1 q2 p3 hx8 (by first | exact Nat.le_refl _ | exact hS.size | exact hT.size))
                         have T4 := Lib.hid (tookS_early HL3.out q1.drw (q2.below (Below.refl _ _).drew) (p3.drw HL3.out) (hx8.below (Below.refl _ _).drew) (by first | exact Nat.le_refl _ | exact hS.size | exact hT.size)))
                      | skip)
                    go_wp2_with fail
                    go_meet
                    first
                      | with_reducible exact T1.out
                      | with_reducible exact T2.out
                      | with_reducible exact T3.out
                      | with_reducible exact T4.out
                      | with_reducible exact T1.out.drw HL3.out
                      | with_reducible exact T2.out.drw HL3.out
                case rest =>
                  obtain ⟨x9, l9, rfl, rfl, hG, hV, hC, hS⟩ := hcut
                  obtain ⟨w9, hw⟩ : ∃ x, x = wc := ⟨_, rfl⟩
                  rw [← hw] at hG hV hC hS ⊢
                  clear hw
                  rw [← HQ'.out] at hC hV
                  have HM9 : Hid (Last w9 xl q') := Lib.hid (hS.blk HM3.out (by decide))
                  have HGB9 := Lib.hid (hS.blk HGB3.out (by decide))
                  have hG9 := hS.blk HG3.out (by decide)
                  have HF9 : Hid (cellsAt w9 ⟨x5, 1, none⟩ 58 = noteL 1 31 (lookW 0).group (lookW 0).epoch (.slice (some ⟨g, 0, none⟩) 1 1) zeroA 0 0) := Lib.hid (by rw [hG9.cells HL6.out, ← HG3.out.cells HL6.out]; exact HF3.out)
                  have HG9 := Lib.hid hG9
                  have HB9 := Lib.hid (HB3.out.trans hS.low)
                  clear hS hG9 HG3 HGB3 HF3 HM3 HB3 HC3 hZ0 y0 y1 y2 y3 y4 y5 hw5
                  by_cases hd : 3 ≤ manyQ q' x
                  · have hd' : (3 : Int) ≤ (manyQ q' x : Nat) := by omega
                    rw [(stepC_end 0 3 q' x hd).2] at hV
                    rw [(stepC_end 0 3 q' x hd).1] at hC
                    obtain ⟨da0, dc0, na0, nc0, ⟨P60, P62, P66, _, _⟩, ⟨P71, P72, P73, P74⟩, hX0, hY0⟩ := hV.parts
                    have HX9 := Lib.hid hG
                    have HX0 : Hid (BL w9 da0 (readA x).data) := Lib.hid hX0
                    have HY0 : Hid (IL w9 na0 (readA x).nodes) := Lib.hid hY0
                    have HPP : Hid (l9[60]? = some (.bool true) ∧ l9[62]? = some (.int .i64 1) ∧ l9[66]? = some (.int .i64 3) ∧ l9[71]? = some (.int .i64 0) ∧ l9[72]? = some (.slice da0 1 dc0) ∧ l9[73]? = some (.int .i64 0) ∧ l9[74]? = some (.slice na0 0 nc0)) := Lib.hid ⟨P60, P62, P66, P71, P72, P73, P74⟩
                    have HC9 := Lib.hid hC
                    obtain ⟨k60, _, _, k71, k72, k73, k74⟩ := cells7 HX9.out HPP.out (Below.refl _ _)
                    clear hV hC hG hX0 hY0 P60 P62 P66 P71 P72 P73 P74
                    go_upto_region 20 with (fail)
                    go_cut [102] from 81 to 102 (fun v wx => FlagB w9 wx false v)
                    case first =>
                      go_region_with
                        (first
                          | (go_at_call 51; go_loud ((with_reducible refine Calls.mono (read_any x _ (by omega) (by omega)) ?_); rintro en wf ⟨v, rfl, ⟨da, dc, na, nc, hv, ⟨hX, hXn⟩, hY, hYn⟩, hb3⟩; have hv : v = .agg #[.int .i64 0, .slice da 1 dc, .int .i64 0, .slice na 0 nc] := hv; subst hv; have hU : Below w9.heap.size w9 wf := Below.step (by (first | with_reducible exact (Below.refl w9.heap.size w9) | with_reducible exact Below.drew (Below.refl w9.heap.size w9) | with_reducible exact Below.step (Below.refl w9.heap.size w9) (Below.new _ _) | with_reducible exact Below.step (Below.drew (Below.refl w9.heap.size w9)) (Below.new _ _) | with_reducible exact Below.drew (Below.step (Below.refl w9.heap.size w9) (Below.new _ _)))) hb3; obtain ⟨j60, _, _, j71, j72, j73, j74⟩ := cells7 HX9.out HPP.out hU))
                          | (go_at_call 54; go_loud ((with_reducible refine Calls.mono (sameRead_is x da0 dc0 na0 nc0 da dc na nc _ ?_ ?_ ?_ ?_) ?_); (refine HX0.out.below ?_; (first | with_reducible exact hU | with_reducible exact Below.drew hU | with_reducible exact Below.step hU (Below.new _ _) | with_reducible exact Below.step (Below.drew hU) (Below.new _ _) | with_reducible exact Below.drew (Below.step hU (Below.new _ _)))); (refine TL.below HY0.out ?_; (first | with_reducible exact hU | with_reducible exact Below.drew hU | with_reducible exact Below.step hU (Below.new _ _) | with_reducible exact Below.step (Below.drew hU) (Below.new _ _) | with_reducible exact Below.drew (Below.step hU (Below.new _ _)))); (refine BL.below hX ?_; (first | with_reducible exact (Below.refl wf.heap.size wf) | with_reducible exact Below.drew (Below.refl wf.heap.size wf) | with_reducible exact Below.step (Below.refl wf.heap.size wf) (Below.new _ _) | with_reducible exact Below.step (Below.drew (Below.refl wf.heap.size wf)) (Below.new _ _) | with_reducible exact Below.drew (Below.step (Below.refl wf.heap.size wf) (Below.new _ _)))); (refine TL.below hY ?_; (first | with_reducible exact (Below.refl wf.heap.size wf) | with_reducible exact Below.drew (Below.refl wf.heap.size wf) | with_reducible exact Below.step (Below.refl wf.heap.size wf) (Below.new _ _) | with_reducible exact Below.step (Below.drew (Below.refl wf.heap.size wf)) (Below.new _ _) | with_reducible exact Below.drew (Below.step (Below.refl wf.heap.size wf) (Below.new _ _)))); rintro en wg ⟨rfl, hb4⟩; have hV : Below w9.heap.size w9 wg := Below.step (by (first | with_reducible exact hU | with_reducible exact Below.drew hU | with_reducible exact Below.step hU (Below.new _ _) | with_reducible exact Below.step (Below.drew hU) (Below.new _ _) | with_reducible exact Below.drew (Below.step hU (Below.new _ _)))) hb4)))
                      all_goals
                        go_wp2_with fail
                        go_meet
                        first
                          | exact ⟨rfl, hV⟩
                          | exact ⟨rfl, hV.drew⟩
                    case rest =>
                      obtain ⟨rfl, hS⟩ := hcut
                      have k60 := (HX9.out.below hS).cell HPP.out.1
                      obtain ⟨r1', r2', hCl, _⟩ := HC9.out
                      have HCl := Lib.hid (hCl.below hS)
                      have HZ := Lib.hid (Below.step HB9.out hS)
                      clear hCl hS k71 k72 k73 k74
                      go_wp2_with fail
                      refine Calls.mono (busy_is p r1' r2' _ _ _ HCl.out) ?_
                      rintro en wh ⟨rfl, rfl⟩
                      go_wp2_with fail
                      go_ret
                      exact ⟨rfl, HZ.out⟩
                  · have hd' : ¬ (3 : Int) ≤ (manyQ q' x : Nat) := by omega
                    rw [(stepC3_mid 0 q' x hd).1] at hC
                    rw [(stepC3_mid 0 q' x hd).2] at hV
                    obtain ⟨da0, dc0, na0, nc0, ⟨P60, _⟩, _⟩ := hV.parts
                    replace P60 : l9[60]? = some (.bool false) := P60
                    have k60 := hG.cell P60
                    have HX9 := Lib.hid hG
                    have HP60 := Lib.hid P60
                    have HC9 := Lib.hid hC
                    clear hV hC hG P60
                    go_upto_region 20 with (fail)
                    go_cut [102] from 81 to 102 (fun v wx => FlagB w9 wx false v)
                    case first =>
                      first | (go_region_with (fail)) | fail
                      all_goals
                        go_wp2_with fail
                        go_meet
                        first
                          | exact ⟨rfl, Below.refl _ _⟩
                          | exact ⟨rfl, (Below.refl _ _).drew⟩
                    case rest =>
                      obtain ⟨rfl, hS⟩ := hcut
                      have k60 := (HX9.out.below hS).cell HP60.out
                      have HCA := Lib.hid (HC9.out.below hS)
                      have HMA : Hid (Last wc xl q') := Lib.hid (Blk.below HM9.out hS)
                      have HGBA := Lib.hid (HGB9.out.below hS)
                      have HGA := Lib.hid (HG9.out.below hS)
                      obtain ⟨f1, f2⟩ := note_at HG9.out HL6.out HF9.out hS
                      have HFA := Lib.hid f1
                      have HBA := Lib.hid (Below.step HB9.out hS)
                      clear hS f1 f2
                      go_wp2_with fail
                      go_roundw
                      case rel => exact ⟨k + 1, q', by omega, by omega, by go_num, HMA, HCA, HGBA, HGA, HFA, HBA⟩
                      case measure => simp [intOf]; omega
        · have HC' := HC.out
          obtain ⟨r1', r2', hCl, _⟩ := HC'
          have HCl := Lib.hid hCl
          clear hCl
          go_wp2_with fail
          refine Calls.mono (busy_is p r1' r2' _ _ _ HCl.out) ?_
          rintro en wh ⟨rfl, rfl⟩
          go_wp2_with fail
          go_ret
          exact ⟨rfl, HB.out⟩
      · have HC' := HC.out
        obtain ⟨r1', r2', hCl, _⟩ := HC'
        have HCl := Lib.hid hCl
        clear hCl
        go_wp2_with fail
        refine Calls.mono (busy_is p r1' r2' _ _ _ HCl.out) ?_
        rintro en wh ⟨rfl, rfl⟩
        go_wp2_with fail
        go_ret
        exact ⟨rfl, HB.out⟩
end Go.Proofs.Ytldcpnabgpjgiaa.Walks
