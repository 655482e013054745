/-
  The walk of the law DiskStrangers.
-/
import Derived.Test.YtldcpnabgpjgiaaDiskZH
import Derived.Test.YtldcpnabgpjgiaaDiskVN
import Derived.Test.YtldcpnabgpjgiaaDiskPair
namespace Go.Proofs.Ytldcpnabgpjgiaa.Walks
open Go.RowKit Plain
set_option linter.unusedVariables false
attribute [local go_sem] isPV_mk adV_mk cells_agg cells_agg' held_drew room_drew cellsAt_drew isA4_mk isSl_mk isI_mk intOf_mk
attribute [local go_sem ↓] exec_load88 exec_store88 exec_load81 exec_store81 exec_load90 exec_store90 Go.wp_at_zero Go.wp_at_succ exec_alloc81 exec_build81r exec_build81s exec_bs69 exec_alloc90 exec_build90n
attribute [local irreducible] out0

/-- A reply in a fresh block. -/
abbrev repL (m : Int) (da : Option Addr) (dc : Nat) (na : Option Addr) (nc : Nat) : List Value := noteL 2 (5 + m) (lookW 2).group (lookW 2).epoch (.slice none 0 0) (ansL (readA 9) da dc na nc) (lookW 2).stamp (lookW 2).client
theorem repL_len (m : Int) (da : Option Addr) (dc : Nat) (na : Option Addr) (nc : Nat) : (repL m da dc na nc).length = 58 := rfl
theorem repL_one (m : Int) (da : Option Addr) (dc : Nat) (na : Option Addr) (nc : Nat) : ∀ v ∈ repL m da dc na nc, v.oneCell' = true := note_one (ansL_one _ _ _ _ _)
def NewN (w wx : World) (v : Value) : Prop := ∃ (x : Nat) (m : Int) (da : Option Addr) (dc : Nat) (na : Option Addr) (nc : Nat), v = .pointer (some ⟨x, 0, none⟩) ∧ (0 ≤ m ∧ m < 4) ∧ Blk wx x (repL m da dc na nc) 81 ∧ w.heap.size ≤ x ∧ Below w.heap.size w wx
theorem newN_of {w wf : World} {m : Int} {da : Option Addr} {dc : Nat} {na : Option Addr} {nc : Nat} (hm : 0 ≤ m ∧ m < 4) (h : Below w.heap.size w wf) :
    NewN w ((wf.alloc (.cells note0.toArray 81)).setCells wf.heap.size 0 (repL m da dc na nc)) (.pointer (some ⟨wf.heap.size, 0, none⟩)) := by
  obtain ⟨_, _, h3, h4⟩ := put_note (w := wf) (repL_len m da dc na nc) (repL_one m da dc na nc)
  exact ⟨_, m, da, dc, na, nc, rfl, hm, h4, h.size, Below.step h h3⟩
theorem newN_early {w wf : World} {x : Nat} {m : Int} {da : Option Addr} {dc : Nat} {na : Option Addr} {nc : Nat} (hm : 0 ≤ m ∧ m < 4) (hX : Blk wf x note0 81) (hx : w.heap.size ≤ x) (h : Below w.heap.size w wf) :
    NewN w (wf.setCells x 0 (repL m da dc na nc)) (.pointer (some ⟨x, 0, none⟩)) := by
  have hs := hX.sets (repL m da dc na nc) 0 (by rw [repL_len]; exact Nat.le_refl _)
  rw [spl_all (by rw [repL_len]; rfl)] at hs
  exact ⟨x, m, da, dc, na, nc, rfl, hm, hs, hx, below_sets hx _ 0 h⟩
theorem NewN.drw {w wx : World} {v : Value} (h : NewN w wx v) : NewN w wx.drew v := by
  obtain ⟨x, m, da, dc, na, nc, h1, h2, h3, h4, h5⟩ := h
  exact ⟨x, m, da, dc, na, nc, h1, h2, h3.below (Below.refl _ _).drew, h4, h5.drew⟩
theorem bring_to' {i n r : Int} (h : bringI i n = r) (w : World) (h0 : 0 < n) (h1 : n ≤ 4611686018427387904) : Calls Try.prog 32 #[.int .i64 i, .int .i64 n] w fun e w' => e = .returned (.int .i64 r) ∧ w = w' := by
  subst h; exact bring_any i n w h0 h1
theorem bring_in {n : Int} (i : Int) (h : 0 < n) : 0 ≤ bringI i n ∧ bringI i n < n := ⟨bringI_nonneg _ _, bringI_lt _ h⟩
theorem take_strange (B p N : Nat) (n : No) (da : Option Addr) (dc : Nat) (na : Option Addr) (nc : Nat) (w : World) (h : Sys B w p N (mapC 2 2 (ansQ (-1, -1, -1, -1)))) (hm : n.kind ≠ 2 ∨ n.node ≠ 31 ∨ n.fr ∉ fiveL ∨ n.stamp ≠ 2 ∨ n.group ≠ 1 ∨ n.epoch ≠ 2) :
    Calls Try.prog 52 #[.pointer (some ⟨p, 0, none⟩), .agg (noteOf n da dc na nc).toArray] w (GiveS B p N (mapC 2 2 (ansQ (-1, -1, -1, -1))) Ou.zero 0 w) := by
  have he : ansQ (-1, -1, -1, -1) = fun _ => none := ans4_none
  rw [he] at h ⊢
  obtain ⟨r1, r2, h1, h2⟩ := h
  exact Calls.mono (take_miss p r1 r2 N _ n da dc na nc w h1 (show ¬ (2 : Int) = 0 by decide) (not_heard 2 n hm) (show goodC 1 fiveL = true by decide)) fun e w' hg => GiveS.of1 h1 h2 hg
/-- One cell of a block has turned. -/
def SetB (w wx : World) (x i : Nat) (v : Value) : Prop := Only [x] w wx ∧ ∀ l, Blk w x l 81 → Blk wx x (l.set i v) 81
theorem setB_of {w w' : World} {x i : Nat} {v : Value} (h : Below w.heap.size w w') (hx : x < w.heap.size) : SetB w (w'.setCell ⟨x, i, none⟩ v) x i v :=
  ⟨(Only.of_below h).setCell (Or.inl (by simp)) i v, fun l hl => (hl.below h).set i v⟩
theorem SetB.drw {w wx : World} {x i : Nat} {v : Value} (h : SetB w wx x i v) : SetB w wx.drew x i v := ⟨h.1.drw, fun l hl => (h.2 l hl).below (Below.refl _ _).drew⟩
theorem Sys.only {B : Nat} {w wx : World} {p N : Nat} {c : Cl} (h : Sys B w p N c) {g : Nat} {l : List Value} {t : TypeId} (hb : Blk w g l t) (ht : t ≠ 3 ∧ t ≠ 5 ∧ t ≠ 88) (ht' : t ≠ 113) (ho : Only [g] w wx) : Sys B wx p N c := by
  obtain ⟨r1, r2, ⟨da, dc, la, lc, cf, cs, said, am, hP, hM⟩, h2⟩ := h
  exact ⟨r1, r2, ⟨da, dc, la, lc, cf, cs, said, am, (ho.block _ hP.lt (by simpa using hP.ne hb (Ne.symm ht'))).trans hP, hM.same (ho.block _ hM.lt.1 (by simpa using (hM.ne hb).1)) (fun hw => ho.block _ (hM.lt.2 hw) (by simpa using (hM.ne hb).2 hw)) (ho.keeps hb ht)⟩, h2⟩
/-- The law's client behind k replies. -/
def stQ : Nat → Cl
  | 0 => mapC 2 2 (ansQ (-1, -1, -1, -1))
  | 1 => mapC 2 2 (ansQ (1, -1, -1, -1))
  | 2 => mapC 2 2 (ansQ (1, 1, -1, -1))
  | _ => doneC (mapC 2 2 (ansQ (1, 1, 1, -1)))
def outQ (k : Nat) : Ou := if k = 2 then doneO (mapC 2 2 (ansQ (1, 1, 1, -1))) Ou.zero (readA 1) else Ou.zero
theorem take_stQ (B p N k : Nat) (hk : k < 3) (da : Option Addr) (dc : Nat) (na : Option Addr) (nc : Nat) (w : World) (hN1 : N + 1 < 1000000) (h : Sys B w p N (stQ k))
    (hD : BL w da (readA 1).data) (hDn : da = none → dc = 0) (hN : IL w na (readA 1).nodes) (hNn : na = none → nc = 0) :
    Calls Try.prog 52 #[.pointer (some ⟨p, 0, none⟩), .agg (noteL 2 (5 + (k : Int)) (lookW 2).group (lookW 2).epoch (.slice none 0 0) (ansL (readA 1) da dc na nc) (lookW 2).stamp (lookW 2).client).toArray] w (GiveS B p (N + 2) (stQ (k + 1)) (outQ k) 0 w) := by
  have hc : k = 0 ∨ k = 1 ∨ k = 2 := by omega
  rcases hc with rfl | rfl | rfl
  · have h1 := take_mapS B p N 2 2 (by decide) (-1, -1, -1, -1) 0 1 (5 + ((0 : Nat) : Int)) (by decide) rfl (by decide) da dc na nc w hN1 h hD hDn hN hNn
    rw [show set4 0 1 (-1, -1, -1, -1) = (1, -1, -1, -1) from rfl, (stepC_mid 2 2 (1, -1, -1, -1) 1 (by decide) (by decide)).1, (stepC_mid 2 2 (1, -1, -1, -1) 1 (by decide) (by decide)).2] at h1
    exact h1
  · have h1 := take_mapS B p N 2 2 (by decide) (1, -1, -1, -1) 1 1 (5 + ((1 : Nat) : Int)) (by decide) rfl (by decide) da dc na nc w hN1 h hD hDn hN hNn
    rw [show set4 1 1 (1, -1, -1, -1) = (1, 1, -1, -1) from rfl, (stepC_mid 2 2 (1, 1, -1, -1) 1 (by decide) (by decide)).1, (stepC_mid 2 2 (1, 1, -1, -1) 1 (by decide) (by decide)).2] at h1
    exact h1
  · have h1 := take_mapS B p N 2 2 (by decide) (1, 1, -1, -1) 2 1 (5 + ((2 : Nat) : Int)) (by decide) rfl (by decide) da dc na nc w hN1 h hD hDn hN hNn
    rw [show set4 2 1 (1, 1, -1, -1) = (1, 1, 1, -1) from rfl, (stepC_end 2 2 (1, 1, 1, -1) 1 (by decide)).1, (stepC_end 2 2 (1, 1, 1, -1) 1 (by decide)).2] at h1
    exact h1
set_option maxRecDepth 100000 in
set_option maxHeartbeats 400000000 in
theorem diskStrangers_walk (a : Option Addr) (len cap : Nat) (w : World) (hD : Pairs w a len) : Calls Try.prog 9 #[.slice a len cap] w fun e w' => e = .returned (.bool true) ∧ Below w.heap.size w w' := by
  have HD := Lib.hid hD
  have hlen := hD.1
  clear hD
  go_enter Try.func9, Try.ntmps9
  go_wp2_with fail
  refine Calls.mono (works_is w) ?_
  rintro en w1 ⟨rfl, hb1⟩
  have HB1 := Lib.hid hb1
  clear hb1
  go_wp2_with fail
  refine Calls.mono (mapped_is 2 w1) ?_
  rintro en w2 ⟨p, r1, r2, l, rfl, hN, hC, hb, hp, hr1, hr2⟩
  obtain ⟨g, wa, wq, rfl, hg, _⟩ := hN
  have hz := HB1.out.size
  have hS1 : Sys w.heap.size w2 p 4 (mapC 2 2 (ansQ (-1, -1, -1, -1))) := ⟨r1, r2, by rw [show ansQ (-1, -1, -1, -1) = fun _ => none from ans4_none]; exact hC, by omega, by omega, by omega⟩
  obtain ⟨e3, e4, hb2, hG⟩ := put_note (w := w2) (l := noteL 14 31 (lookW 2).group (lookW 2).epoch (.slice (some ⟨g, 0, none⟩) 1 1) zeroA 0 0) rfl (note_one zeroA_one)
  have HG := Lib.hid (hg.below hb2)
  have HC := Lib.hid (hS1.below hb2)
  have HP : Hid (Stp w.heap.size w _) := Lib.hid ((Stp.of_below (Below.step HB1.out hb) (Nat.le_refl _)).then hb2 (Nat.le_refl _))
  have HN := Lib.hid hG
  clear hb2 hG hg hS1 hC hb hp hr1 hr2 hz HB1
  go_upto_region 4 with (fail)
  obtain ⟨x2, hx2⟩ : ∃ x, x = w2.heap.size := ⟨_, rfl⟩
  obtain ⟨w3, hw3⟩ : ∃ x, x = (w2.alloc (.cells note0.toArray 81)).setCells w2.heap.size 0 (noteL 14 31 (lookW 2).group (lookW 2).epoch (.slice (some ⟨g, 0, none⟩) 1 1) zeroA 0 0) := ⟨_, rfl⟩
  rw [← hw3] at HG HC HP HN ⊢
  rw [← hx2] at HN ⊢
  clear hw3 hx2 e3 e4
  go_wp2_with fail
  go_loopw [5] (fun iv wr => ∃ k : Nat, k ≤ len ∧ k ≤ 20 ∧ iv = .int .i64 k ∧ Hid (Sys w.heap.size wr p 4 (mapC 2 2 (ansQ (-1, -1, -1, -1)))) ∧ Hid (Blk wr g (wishL (lookW 2) wa wq) 88) ∧ Hid (Blk wr x2 (noteL 14 31 (lookW 2).group (lookW 2).epoch (.slice (some ⟨g, 0, none⟩) 1 1) zeroA 0 0) 81) ∧ Hid (Below w.heap.size w wr)) (fun iv _ => 20 - (intOf iv).toNat)
  case atStart => exact ⟨0, by omega, by omega, rfl, HC, HG, HN, Lib.hid HP.out.low⟩
  case round =>
    clear HC HG HN HP
    obtain ⟨k, hk, hk20, rfl, HC, HG, HN, HB⟩ := hrel
    by_cases hlt : k < len
    · by_cases hl20 : k < 20
      · obtain ⟨_, h0 | ⟨b, off, rfl, hat⟩⟩ := HD.out.below HB.out
        · omega
        obtain ⟨y, z, c0, c1, _, _⟩ := hat k hlt
        have HY := Lib.hid (And.intro c0 c1)
        clear hat
        have hZ0 : Below wr.heap.size wr wr := Below.refl _ _
        obtain ⟨y0, y1⟩ := note81_at HN.out rfl hZ0
        obtain ⟨y2, y3⟩ := note81_at HN.out rfl (Below.new wr (.cells note0.toArray 81))
        obtain ⟨y4, y5⟩ := note81_at HN.out rfl (Below.step hZ0.drew (Below.new wr.drew (.cells note0.toArray 81)))
        have c2 := keepc (Below.new wr (.cells note0.toArray 81)) c1
        have c3 := keepc (Below.step hZ0.drew (Below.new wr.drew (.cells note0.toArray 81))) c1
        have hm0 : 0 ≤ bringI z 4 ∧ bringI z 4 < 4 := bring4' z
        obtain ⟨m, hm⟩ : ∃ m, m = bringI z 4 := ⟨_, rfl⟩
        rw [← hm] at hm0
        have hw5 : IntKind.i64.wrap (5 + m) = 5 + m := IntWalk.i64_in _ (by omega)
        have HM := Lib.hid hm.symm
        have HM0 := Lib.hid hm0
        clear hm hm0 c0
        go_upto_region 9 with (fail)
        go_cut [6] from 20 to 39 (fun v wx => NewN wr wx v)
        case first =>
          go_region_with
            (first
              | (go_at_call 32; go_loud ((with_reducible refine Calls.mono (bring_to' HM.out _ (by decide) (by decide)) ?_); rintro en wq1 ⟨rfl, rfl⟩))
              | (go_at_call 51; go_loud ((with_reducible refine Calls.mono (read_any 9 _ (by decide) (by decide)) ?_); rintro en wd ⟨v, rfl, ⟨da, dc, na, nc, hv, ⟨hX, hXn⟩, hY, hYn⟩, hb⟩; have hv : v = .agg (ansL (readA 9) da dc na nc).toArray := hv; subst hv; have hS : Below wr.heap.size wr wd := Below.step (by (first | with_reducible exact hZ0 | with_reducible exact Below.drew hZ0 | with_reducible exact Below.step hZ0 (Below.new _ _) | with_reducible exact Below.step (Below.drew hZ0) (Below.new _ _) | with_reducible exact Below.drew (Below.step hZ0 (Below.new _ _)))) hb; obtain ⟨g1, g2⟩ := note81_at HN.out rfl hS; obtain ⟨g3, g4⟩ := note81_at HN.out rfl (Below.step hS (Below.new wd (.cells note0.toArray 81))); obtain ⟨g5, g6⟩ := note81_at HN.out rfl (Below.step hS.drew (Below.new wd.drew (.cells note0.toArray 81))); have c1 := keepc hS HY.out.2; have c2 := keepc (Below.step hS (Below.new wd (.cells note0.toArray 81))) HY.out.2; have c3 := keepc (Below.step hS.drew (Below.new wd.drew (.cells note0.toArray 81))) HY.out.2; (first | (have hx8 : Blk wd wr.heap.size note0 81 := Blk.below (Blk.new wr note0 81) (by with_reducible exact hb)) | (have hx8 : Blk wd wr.heap.size note0 81 := Blk.below (Blk.new wr.drew note0 81) (by with_reducible exact hb)) | (have hx8 : Blk wd wr.heap.size note0 81 := Blk.below (Blk.below (Blk.new wr note0 81) (Below.refl _ _).drew) (by with_reducible exact hb)) | skip)))
              | (go_at_call 50; go_loud ((with_reducible refine Calls.mono (reply_any (5 + m) 14 31 (lookW 2) g wa wq (readA 9) da dc na nc _ ?_) ?_); (refine HG.out.below ?_; (first | with_reducible exact hS | with_reducible exact Below.drew hS | with_reducible exact Below.step hS (Below.new _ _) | with_reducible exact Below.step (Below.drew hS) (Below.new _ _) | with_reducible exact Below.drew (Below.step hS (Below.new _ _)))); rintro en we ⟨rfl, hb2⟩; have hT0 : Below wd.heap.size wd we := Below.step (by (first | with_reducible exact (Below.refl wd.heap.size wd) | with_reducible exact Below.drew (Below.refl wd.heap.size wd) | with_reducible exact Below.step (Below.refl wd.heap.size wd) (Below.new _ _) | with_reducible exact Below.step (Below.drew (Below.refl wd.heap.size wd)) (Below.new _ _) | with_reducible exact Below.drew (Below.step (Below.refl wd.heap.size wd) (Below.new _ _)))) hb2; have hT : Below wr.heap.size wr we := Below.step hS hT0; (first | (have hx8 := Blk.below hx8 hT0) | (have hx8 : Blk we wd.heap.size note0 81 := Blk.below (Blk.new wd note0 81) (by with_reducible exact hb2)) | (have hx8 : Blk we wd.heap.size note0 81 := Blk.below (Blk.new wd.drew note0 81) (by with_reducible exact hb2)) | (have hx8 : Blk we wd.heap.size note0 81 := Blk.below (Blk.below (Blk.new wd note0 81) (Below.refl _ _).drew) (by with_reducible exact hb2)) | skip); (first | (have m0 := hx8.room (o := 0) (n := 58) (Nat.le_refl _)) | skip); obtain ⟨m1, m2, _⟩ := put_note (w := we) (repL_len m da dc na nc) (repL_one m da dc na nc); obtain ⟨m3, _⟩ := put_note (w := we.drew) (repL_len m da dc na nc) (repL_one m da dc na nc))))
          all_goals
            have T1 := Lib.hid (newN_of (da := da) (dc := dc) (na := na) (nc := nc) HM0.out hT)
            have T3 := Lib.hid (newN_of (da := da) (dc := dc) (na := na) (nc := nc) HM0.out hT.drew)
            (first
              | (have T2 := Lib.hid (newN_early (da := da) (dc := dc) (na := na) (nc := nc) HM0.out hx8 (by first | exact Nat.le_refl _ | exact hS.size | exact hT.size) hT)
                 have T4 := Lib.hid (newN_early (da := da) (dc := dc) (na := na) (nc := nc) HM0.out (hx8.below (Below.refl _ _).drew) (by first | exact Nat.le_refl _ | exact hS.size | exact hT.size) hT.drew))
              | skip)
            go_wp2_with fail
            go_meet
            first
              | with_reducible exact T1.out
              | with_reducible exact T2.out
              | with_reducible exact T3.out
              | with_reducible exact T4.out
              | with_reducible exact T1.out.drw
              | with_reducible exact T2.out.drw
        case rest =>
          obtain ⟨xN, m', da, dc, na, nc, rfl, hm', hX, hxn, hS⟩ := hcut
          have HC1 := Lib.hid (HC.out.below hS)
          have HG1 := Lib.hid (HG.out.below hS)
          have HN1 := Lib.hid (HN.out.below hS)
          have HB1 := Lib.hid (HB.out.trans (hS.mono HB.out.size))
          have HX1 := Lib.hid hX
          have HXN : Hid (w.heap.size ≤ xN ∧ g < xN ∧ x2 < xN) := Lib.hid (by have := HB.out.size; have := HG.out.lt; have := HN.out.lt; omega)
          have c0 := keepc hS HY.out.1
          have c1 := keepc hS HY.out.2
          have HY1 := Lib.hid (And.intro c0 c1)
          clear HC HG HN HB hX hxn hS y0 y1 y2 y3 y4 y5 c2 c3 hw5 HM HM0 HY c1 hZ0
          go_wp2_with fail
          refine Calls.mono (bring_any y 6 _ (by decide) (by decide)) ?_
          rintro en wq1 ⟨rfl, rfl⟩
          obtain ⟨s, hs⟩ : ∃ s, s = bringI y 6 := ⟨_, rfl⟩
          have hs6 : 0 ≤ s ∧ s < 6 := by rw [hs]; exact bring_in _ (by decide)
          rw [← hs]
          clear hs c0
          have c1 := HY1.out.2
          have hcs : s = 0 ∨ s = 1 ∨ s = 2 ∨ s = 3 ∨ s = 4 ∨ s = 5 := by omega
          clear hs6
          rcases hcs with rfl | rfl | rfl | rfl | rfl | rfl
          · go_wp2_with fail
            refine Calls.mono (bring_any z 90 _ (by decide) (by decide)) ?_
            rintro en wq2 ⟨rfl, rfl⟩
            obtain ⟨r, hr⟩ : ∃ r, r = bringI z 90 := ⟨_, rfl⟩
            have hr9 : 0 ≤ r ∧ r < 90 := by rw [hr]; exact bring_in _ (by decide)
            rw [← hr]
            clear hr c1
            have hw1 : IntKind.i64.wrap (9 + r) = 9 + r := IntWalk.i64_in _ (by omega)
            have cx : ∃ v, wc.cell? ⟨xN, 1, none⟩ = some v := ⟨_, HX1.out.cell (i := 1) rfl⟩
            obtain ⟨vx, cx⟩ := cx
            have fz := HX1.out.free 1
            go_upto_region 22 with (fail)
            obtain ⟨w6, hw6⟩ : ∃ q, q = wc.setCell ⟨xN, 1, none⟩ (.int .i64 (9 + r)) := ⟨_, rfl⟩
            have hxn := HXN.out
            have hX6 : Blk w6 xN (noteOf (⟨2, (9 + r), 1, 2, (readA 9), 2, 31⟩ : No) da dc na nc) 81 := by rw [hw6]; exact HX1.out.set 1 (.int .i64 (9 + r))
            have HX6 := Lib.hid hX6
            have HC6 : Hid (Sys w.heap.size w6 p 4 (mapC 2 2 (ansQ (-1, -1, -1, -1)))) := Lib.hid (by rw [hw6]; exact Sys.setCell HC1.out HX1.out (by decide) (by decide) _ _)
            have HG6 : Hid (Blk w6 g (wishL (lookW 2) wa wq) 88) := Lib.hid (by rw [hw6]; exact HG1.out.other (by omega) _ _)
            have HN6 : Hid (Blk w6 x2 (noteL 14 31 (lookW 2).group (lookW 2).epoch (.slice (some ⟨g, 0, none⟩) 1 1) zeroA 0 0) 81) := Lib.hid (by rw [hw6]; exact HN1.out.other (by omega) _ _)
            have HB6 : Hid (Below w.heap.size w w6) := Lib.hid (by rw [hw6]; exact HB1.out.setCell (by simp; omega) _)
            rw [← hw6]
            obtain ⟨g1, g2⟩ := note81_at hX6 (noteOf_len _ _ _ _ _) (Below.refl _ _)
            clear hw6 hX6 HC1 HG1 HN1 HB1 HX1 hxn
            go_wp2_with fail
            refine Calls.mono (take_strange w.heap.size p 4 (⟨2, (9 + r), 1, 2, (readA 9), 2, 31⟩ : No) da dc na nc w6 HC6.out (.inr (.inr (.inl (by show (9 + r) ∉ fiveL; simp [fiveL]; omega))))) ?_
            rintro en w7 ⟨l7, rfl, q1, q2, q3⟩
            obtain ⟨e1, e2, hb8, hG8, hV8⟩ := put_out q2
            have HT8 := Lib.hid (q3.then hb8 HC6.out.low)
            have HC8 := Lib.hid (q1.below hb8)
            have HX8 := Lib.hid hG8
            have HV8 := Lib.hid hV8
            clear hb8 hG8 hV8 q1 q2 q3 g1 g2
            go_upto_region 23 with (fail)
            obtain ⟨w8, hw8⟩ : ∃ x, x = (w7.alloc (.cells out0.toArray 90)).setCells w7.heap.size 0 l7 := ⟨_, rfl⟩
            obtain ⟨x8, hx8⟩ : ∃ x, x = w7.heap.size := ⟨_, rfl⟩
            rw [← hw8] at HT8 HC8 HX8 HV8 ⊢
            rw [← hx8] at HX8 ⊢
            clear hw8 hx8 e1 e2
            obtain ⟨g1, g2⟩ := out_at HX8.out HV8.out.len (Below.refl _ _)
            go_wp2_with fail
            refine Calls.mono (quiet_is l7 Ou.zero w8 HV8.out rfl rfl rfl) ?_
            rintro en w9 ⟨rfl, hb9⟩
            have HC9 := Lib.hid (HC8.out.below hb9)
            have HT9 := Lib.hid (HT8.out.then hb9 HC6.out.low)
            have HG9 := Lib.hid (HT9.out.blk HG6.out (by decide))
            have HN9 := Lib.hid (HT9.out.blk HN6.out (by decide))
            have HB9 := Lib.hid (HB6.out.trans HT9.out.low)
            clear hb9 g1 g2
            go_wp2_with fail
            go_roundw
            case rel => exact ⟨k + 1, by omega, by omega, by go_num, HC9, HG9, HN9, HB9⟩
            case measure => simp [intOf]; omega
          · go_wp2_with fail
            refine Calls.mono (bring_any z 90 _ (by decide) (by decide)) ?_
            rintro en wq2 ⟨rfl, rfl⟩
            obtain ⟨r, hr⟩ : ∃ r, r = bringI z 90 := ⟨_, rfl⟩
            have hr9 : 0 ≤ r ∧ r < 90 := by rw [hr]; exact bring_in _ (by decide)
            rw [← hr]
            clear hr c1
            have hw1 : IntKind.i64.wrap (32 + r) = 32 + r := IntWalk.i64_in _ (by omega)
            have cx : ∃ v, wc.cell? ⟨xN, 44, none⟩ = some v := ⟨_, HX1.out.cell (i := 44) rfl⟩
            obtain ⟨vx, cx⟩ := cx
            have fz := HX1.out.free 44
            go_upto_region 22 with (fail)
            obtain ⟨w6, hw6⟩ : ∃ q, q = wc.setCell ⟨xN, 44, none⟩ (.int .i64 (32 + r)) := ⟨_, rfl⟩
            have hxn := HXN.out
            have hX6 : Blk w6 xN (noteOf (⟨2, (5 + m'), 1, 2, (readA 9), 2, (32 + r)⟩ : No) da dc na nc) 81 := by rw [hw6]; exact HX1.out.set 44 (.int .i64 (32 + r))
            have HX6 := Lib.hid hX6
            have HC6 : Hid (Sys w.heap.size w6 p 4 (mapC 2 2 (ansQ (-1, -1, -1, -1)))) := Lib.hid (by rw [hw6]; exact Sys.setCell HC1.out HX1.out (by decide) (by decide) _ _)
            have HG6 : Hid (Blk w6 g (wishL (lookW 2) wa wq) 88) := Lib.hid (by rw [hw6]; exact HG1.out.other (by omega) _ _)
            have HN6 : Hid (Blk w6 x2 (noteL 14 31 (lookW 2).group (lookW 2).epoch (.slice (some ⟨g, 0, none⟩) 1 1) zeroA 0 0) 81) := Lib.hid (by rw [hw6]; exact HN1.out.other (by omega) _ _)
            have HB6 : Hid (Below w.heap.size w w6) := Lib.hid (by rw [hw6]; exact HB1.out.setCell (by simp; omega) _)
            rw [← hw6]
            obtain ⟨g1, g2⟩ := note81_at hX6 (noteOf_len _ _ _ _ _) (Below.refl _ _)
            clear hw6 hX6 HC1 HG1 HN1 HB1 HX1 hxn
            go_wp2_with fail
            refine Calls.mono (take_strange w.heap.size p 4 (⟨2, (5 + m'), 1, 2, (readA 9), 2, (32 + r)⟩ : No) da dc na nc w6 HC6.out (.inr (.inl (by show ¬ (32 + r) = 31; omega)))) ?_
            rintro en w7 ⟨l7, rfl, q1, q2, q3⟩
            obtain ⟨e1, e2, hb8, hG8, hV8⟩ := put_out q2
            have HT8 := Lib.hid (q3.then hb8 HC6.out.low)
            have HC8 := Lib.hid (q1.below hb8)
            have HX8 := Lib.hid hG8
            have HV8 := Lib.hid hV8
            clear hb8 hG8 hV8 q1 q2 q3 g1 g2
            go_upto_region 23 with (fail)
            obtain ⟨w8, hw8⟩ : ∃ x, x = (w7.alloc (.cells out0.toArray 90)).setCells w7.heap.size 0 l7 := ⟨_, rfl⟩
            obtain ⟨x8, hx8⟩ : ∃ x, x = w7.heap.size := ⟨_, rfl⟩
            rw [← hw8] at HT8 HC8 HX8 HV8 ⊢
            rw [← hx8] at HX8 ⊢
            clear hw8 hx8 e1 e2
            obtain ⟨g1, g2⟩ := out_at HX8.out HV8.out.len (Below.refl _ _)
            go_wp2_with fail
            refine Calls.mono (quiet_is l7 Ou.zero w8 HV8.out rfl rfl rfl) ?_
            rintro en w9 ⟨rfl, hb9⟩
            have HC9 := Lib.hid (HC8.out.below hb9)
            have HT9 := Lib.hid (HT8.out.then hb9 HC6.out.low)
            have HG9 := Lib.hid (HT9.out.blk HG6.out (by decide))
            have HN9 := Lib.hid (HT9.out.blk HN6.out (by decide))
            have HB9 := Lib.hid (HB6.out.trans HT9.out.low)
            clear hb9 g1 g2
            go_wp2_with fail
            go_roundw
            case rel => exact ⟨k + 1, by omega, by omega, by go_num, HC9, HG9, HN9, HB9⟩
            case measure => simp [intOf]; omega
          · obtain ⟨r, hr⟩ : ∃ r, r = bringI z 90 := ⟨_, rfl⟩
            have hr9 : 0 ≤ r ∧ r < 90 := by rw [hr]; exact bring_in _ (by decide)
            have HR := Lib.hid hr.symm
            have c43 : wc.cell? ⟨xN, 43, none⟩ = some (.int .i64 2) := HX1.out.cell (i := 43) rfl
            have fz := HX1.out.free 43
            have hw1 : IntKind.i64.wrap (3 + r) = 3 + r := IntWalk.i64_in _ (by omega)
            have hw3 : IntKind.i64.wrap 3 = 3 := rfl
            clear hr
            go_upto_region 17 with (fail)
            have hxl := HX1.out.lt
            first
              | (go_region_with
                (go_at_call 32; go_loud ((with_reducible refine Calls.mono (bring_to' HR.out _ (by decide) (by decide)) ?_); rintro en wq2 ⟨rfl, rfl⟩)))
              | fail
            all_goals
              clear c1 c43 fz hw1 hw3
              go_upto_region 22 with (fail)
              (first
                | (obtain ⟨w6, hw6⟩ : ∃ q, q = (wc.setCell ⟨xN, 43, none⟩ (.int .i64 (3 + r))).drew := ⟨_, rfl⟩; rw [← hw6]; have hSB : SetB wc w6 xN 43 (.int .i64 (3 + r)) := (by rw [hw6]; exact (setB_of (Below.refl _ _) hxl).drw))
                | (obtain ⟨w6, hw6⟩ : ∃ q, q = (wc.drew.setCell ⟨xN, 43, none⟩ (.int .i64 (3 + r))).drew := ⟨_, rfl⟩; rw [← hw6]; have hSB : SetB wc w6 xN 43 (.int .i64 (3 + r)) := (by rw [hw6]; exact (setB_of (Below.refl _ _).drew hxl).drw))
                | (obtain ⟨w6, hw6⟩ : ∃ q, q = wc.setCell ⟨xN, 43, none⟩ (.int .i64 (3 + r)) := ⟨_, rfl⟩; rw [← hw6]; have hSB : SetB wc w6 xN 43 (.int .i64 (3 + r)) := (by rw [hw6]; exact setB_of (Below.refl _ _) hxl))
                | (obtain ⟨w6, hw6⟩ : ∃ q, q = wc.drew.setCell ⟨xN, 43, none⟩ (.int .i64 (3 + r)) := ⟨_, rfl⟩; rw [← hw6]; have hSB : SetB wc w6 xN 43 (.int .i64 (3 + r)) := (by rw [hw6]; exact setB_of (Below.refl _ _).drew hxl)))
              obtain ⟨hO7, hB7⟩ := hSB
              have hxn := HXN.out
              have hX6 : Blk w6 xN (noteOf (⟨2, (5 + m'), 1, 2, (readA 9), (3 + r), 31⟩ : No) da dc na nc) 81 := hB7 _ HX1.out
              have HX6 := Lib.hid hX6
              have HC6 : Hid (Sys w.heap.size w6 p 4 (mapC 2 2 (ansQ (-1, -1, -1, -1)))) := Lib.hid (Sys.only HC1.out HX1.out (by decide) (by decide) hO7)
              have HG6 : Hid (Blk w6 g (wishL (lookW 2) wa wq) 88) := Lib.hid (hO7.blk HG1.out (by simp; omega))
              have HN6 : Hid (Blk w6 x2 (noteL 14 31 (lookW 2).group (lookW 2).epoch (.slice (some ⟨g, 0, none⟩) 1 1) zeroA 0 0) 81) := Lib.hid (hO7.blk HN1.out (by simp; omega))
              have HB6 : Hid (Below w.heap.size w w6) := Lib.hid (Only.below HB1.out hO7 (by simp; omega) (Nat.le_refl _))
              obtain ⟨g1, g2⟩ := note81_at hX6 (noteOf_len _ _ _ _ _) (Below.refl _ _)
              clear hw6 hO7 hB7 hX6 HC1 HG1 HN1 HB1 HX1 hxn
              go_wp2_with fail
              refine Calls.mono (take_strange w.heap.size p 4 (⟨2, (5 + m'), 1, 2, (readA 9), (3 + r), 31⟩ : No) da dc na nc w6 HC6.out (.inr (.inr (.inr (.inl (by show ¬ (3 + r) = 2; omega)))))) ?_
              rintro en w7 ⟨l7, rfl, q1, q2, q3⟩
              obtain ⟨e1, e2, hb8, hG8, hV8⟩ := put_out q2
              have HT8 := Lib.hid (q3.then hb8 HC6.out.low)
              have HC8 := Lib.hid (q1.below hb8)
              have HX8 := Lib.hid hG8
              have HV8 := Lib.hid hV8
              clear hb8 hG8 hV8 q1 q2 q3 g1 g2
              go_upto_region 23 with (fail)
              obtain ⟨w8, hw8⟩ : ∃ x, x = (w7.alloc (.cells out0.toArray 90)).setCells w7.heap.size 0 l7 := ⟨_, rfl⟩
              obtain ⟨x8, hx8⟩ : ∃ x, x = w7.heap.size := ⟨_, rfl⟩
              rw [← hw8] at HT8 HC8 HX8 HV8 ⊢
              rw [← hx8] at HX8 ⊢
              clear hw8 hx8 e1 e2
              obtain ⟨g1, g2⟩ := out_at HX8.out HV8.out.len (Below.refl _ _)
              go_wp2_with fail
              refine Calls.mono (quiet_is l7 Ou.zero w8 HV8.out rfl rfl rfl) ?_
              rintro en w9 ⟨rfl, hb9⟩
              have HC9 := Lib.hid (HC8.out.below hb9)
              have HT9 := Lib.hid (HT8.out.then hb9 HC6.out.low)
              have HG9 := Lib.hid (HT9.out.blk HG6.out (by decide))
              have HN9 := Lib.hid (HT9.out.blk HN6.out (by decide))
              have HB9 := Lib.hid (HB6.out.trans HT9.out.low)
              clear hb9 g1 g2
              go_wp2_with fail
              go_roundw
              case rel => exact ⟨k + 1, by omega, by omega, by go_num, HC9, HG9, HN9, HB9⟩
              case measure => simp [intOf]; omega
          · have cx : ∃ v, wc.cell? ⟨xN, 2, none⟩ = some v := ⟨_, HX1.out.cell (i := 2) rfl⟩
            obtain ⟨vx, cx⟩ := cx
            have fz := HX1.out.free 2
            go_upto_region 22 with (fail)
            obtain ⟨w6, hw6⟩ : ∃ q, q = wc.setCell ⟨xN, 2, none⟩ (.int .i64 2) := ⟨_, rfl⟩
            have hxn := HXN.out
            have hX6 : Blk w6 xN (noteOf (⟨2, (5 + m'), 2, 2, (readA 9), 2, 31⟩ : No) da dc na nc) 81 := by rw [hw6]; exact HX1.out.set 2 (.int .i64 2)
            have HX6 := Lib.hid hX6
            have HC6 : Hid (Sys w.heap.size w6 p 4 (mapC 2 2 (ansQ (-1, -1, -1, -1)))) := Lib.hid (by rw [hw6]; exact Sys.setCell HC1.out HX1.out (by decide) (by decide) _ _)
            have HG6 : Hid (Blk w6 g (wishL (lookW 2) wa wq) 88) := Lib.hid (by rw [hw6]; exact HG1.out.other (by omega) _ _)
            have HN6 : Hid (Blk w6 x2 (noteL 14 31 (lookW 2).group (lookW 2).epoch (.slice (some ⟨g, 0, none⟩) 1 1) zeroA 0 0) 81) := Lib.hid (by rw [hw6]; exact HN1.out.other (by omega) _ _)
            have HB6 : Hid (Below w.heap.size w w6) := Lib.hid (by rw [hw6]; exact HB1.out.setCell (by simp; omega) _)
            rw [← hw6]
            obtain ⟨g1, g2⟩ := note81_at hX6 (noteOf_len _ _ _ _ _) (Below.refl _ _)
            clear hw6 hX6 HC1 HG1 HN1 HB1 HX1 hxn
            go_wp2_with fail
            refine Calls.mono (take_strange w.heap.size p 4 (⟨2, (5 + m'), 2, 2, (readA 9), 2, 31⟩ : No) da dc na nc w6 HC6.out (.inr (.inr (.inr (.inr (.inl (by show ¬ (2 : Int) = 1; decide))))))) ?_
            rintro en w7 ⟨l7, rfl, q1, q2, q3⟩
            obtain ⟨e1, e2, hb8, hG8, hV8⟩ := put_out q2
            have HT8 := Lib.hid (q3.then hb8 HC6.out.low)
            have HC8 := Lib.hid (q1.below hb8)
            have HX8 := Lib.hid hG8
            have HV8 := Lib.hid hV8
            clear hb8 hG8 hV8 q1 q2 q3 g1 g2
            go_upto_region 23 with (fail)
            obtain ⟨w8, hw8⟩ : ∃ x, x = (w7.alloc (.cells out0.toArray 90)).setCells w7.heap.size 0 l7 := ⟨_, rfl⟩
            obtain ⟨x8, hx8⟩ : ∃ x, x = w7.heap.size := ⟨_, rfl⟩
            rw [← hw8] at HT8 HC8 HX8 HV8 ⊢
            rw [← hx8] at HX8 ⊢
            clear hw8 hx8 e1 e2
            obtain ⟨g1, g2⟩ := out_at HX8.out HV8.out.len (Below.refl _ _)
            go_wp2_with fail
            refine Calls.mono (quiet_is l7 Ou.zero w8 HV8.out rfl rfl rfl) ?_
            rintro en w9 ⟨rfl, hb9⟩
            have HC9 := Lib.hid (HC8.out.below hb9)
            have HT9 := Lib.hid (HT8.out.then hb9 HC6.out.low)
            have HG9 := Lib.hid (HT9.out.blk HG6.out (by decide))
            have HN9 := Lib.hid (HT9.out.blk HN6.out (by decide))
            have HB9 := Lib.hid (HB6.out.trans HT9.out.low)
            clear hb9 g1 g2
            go_wp2_with fail
            go_roundw
            case rel => exact ⟨k + 1, by omega, by omega, by go_num, HC9, HG9, HN9, HB9⟩
            case measure => simp [intOf]; omega
          · go_wp2_with fail
            refine Calls.mono (bring_any z 90 _ (by decide) (by decide)) ?_
            rintro en wq2 ⟨rfl, rfl⟩
            obtain ⟨r, hr⟩ : ∃ r, r = bringI z 90 := ⟨_, rfl⟩
            have hr9 : 0 ≤ r ∧ r < 90 := by rw [hr]; exact bring_in _ (by decide)
            rw [← hr]
            clear hr c1
            have hw1 : IntKind.i64.wrap (3 + r) = 3 + r := IntWalk.i64_in _ (by omega)
            have cx : ∃ v, wc.cell? ⟨xN, 3, none⟩ = some v := ⟨_, HX1.out.cell (i := 3) rfl⟩
            obtain ⟨vx, cx⟩ := cx
            have fz := HX1.out.free 3
            go_upto_region 22 with (fail)
            obtain ⟨w6, hw6⟩ : ∃ q, q = wc.setCell ⟨xN, 3, none⟩ (.int .i64 (3 + r)) := ⟨_, rfl⟩
            have hxn := HXN.out
            have hX6 : Blk w6 xN (noteOf (⟨2, (5 + m'), 1, (3 + r), (readA 9), 2, 31⟩ : No) da dc na nc) 81 := by rw [hw6]; exact HX1.out.set 3 (.int .i64 (3 + r))
            have HX6 := Lib.hid hX6
            have HC6 : Hid (Sys w.heap.size w6 p 4 (mapC 2 2 (ansQ (-1, -1, -1, -1)))) := Lib.hid (by rw [hw6]; exact Sys.setCell HC1.out HX1.out (by decide) (by decide) _ _)
            have HG6 : Hid (Blk w6 g (wishL (lookW 2) wa wq) 88) := Lib.hid (by rw [hw6]; exact HG1.out.other (by omega) _ _)
            have HN6 : Hid (Blk w6 x2 (noteL 14 31 (lookW 2).group (lookW 2).epoch (.slice (some ⟨g, 0, none⟩) 1 1) zeroA 0 0) 81) := Lib.hid (by rw [hw6]; exact HN1.out.other (by omega) _ _)
            have HB6 : Hid (Below w.heap.size w w6) := Lib.hid (by rw [hw6]; exact HB1.out.setCell (by simp; omega) _)
            rw [← hw6]
            obtain ⟨g1, g2⟩ := note81_at hX6 (noteOf_len _ _ _ _ _) (Below.refl _ _)
            clear hw6 hX6 HC1 HG1 HN1 HB1 HX1 hxn
            go_wp2_with fail
            refine Calls.mono (take_strange w.heap.size p 4 (⟨2, (5 + m'), 1, (3 + r), (readA 9), 2, 31⟩ : No) da dc na nc w6 HC6.out (.inr (.inr (.inr (.inr (.inr (by show ¬ (3 + r) = 2; omega))))))) ?_
            rintro en w7 ⟨l7, rfl, q1, q2, q3⟩
            obtain ⟨e1, e2, hb8, hG8, hV8⟩ := put_out q2
            have HT8 := Lib.hid (q3.then hb8 HC6.out.low)
            have HC8 := Lib.hid (q1.below hb8)
            have HX8 := Lib.hid hG8
            have HV8 := Lib.hid hV8
            clear hb8 hG8 hV8 q1 q2 q3 g1 g2
            go_upto_region 23 with (fail)
            obtain ⟨w8, hw8⟩ : ∃ x, x = (w7.alloc (.cells out0.toArray 90)).setCells w7.heap.size 0 l7 := ⟨_, rfl⟩
            obtain ⟨x8, hx8⟩ : ∃ x, x = w7.heap.size := ⟨_, rfl⟩
            rw [← hw8] at HT8 HC8 HX8 HV8 ⊢
            rw [← hx8] at HX8 ⊢
            clear hw8 hx8 e1 e2
            obtain ⟨g1, g2⟩ := out_at HX8.out HV8.out.len (Below.refl _ _)
            go_wp2_with fail
            refine Calls.mono (quiet_is l7 Ou.zero w8 HV8.out rfl rfl rfl) ?_
            rintro en w9 ⟨rfl, hb9⟩
            have HC9 := Lib.hid (HC8.out.below hb9)
            have HT9 := Lib.hid (HT8.out.then hb9 HC6.out.low)
            have HG9 := Lib.hid (HT9.out.blk HG6.out (by decide))
            have HN9 := Lib.hid (HT9.out.blk HN6.out (by decide))
            have HB9 := Lib.hid (HB6.out.trans HT9.out.low)
            clear hb9 g1 g2
            go_wp2_with fail
            go_roundw
            case rel => exact ⟨k + 1, by omega, by omega, by go_num, HC9, HG9, HN9, HB9⟩
            case measure => simp [intOf]; omega
          · go_wp2_with fail
            refine Calls.mono (bring_any z 90 _ (by decide) (by decide)) ?_
            rintro en wq2 ⟨rfl, rfl⟩
            obtain ⟨r, hr⟩ : ∃ r, r = bringI z 90 := ⟨_, rfl⟩
            have hr9 : 0 ≤ r ∧ r < 90 := by rw [hr]; exact bring_in _ (by decide)
            rw [← hr]
            clear hr c1
            have hw1 : IntKind.i64.wrap (3 + r) = 3 + r := IntWalk.i64_in _ (by omega)
            have cx : ∃ v, wc.cell? ⟨xN, 0, none⟩ = some v := ⟨_, HX1.out.cell (i := 0) rfl⟩
            obtain ⟨vx, cx⟩ := cx
            have fz := HX1.out.free 0
            go_upto_region 22 with (fail)
            obtain ⟨w6, hw6⟩ : ∃ q, q = wc.setCell ⟨xN, 0, none⟩ (.int .i64 (3 + r)) := ⟨_, rfl⟩
            have hxn := HXN.out
            have hX6 : Blk w6 xN (noteOf (⟨(3 + r), (5 + m'), 1, 2, (readA 9), 2, 31⟩ : No) da dc na nc) 81 := by rw [hw6]; exact HX1.out.set 0 (.int .i64 (3 + r))
            have HX6 := Lib.hid hX6
            have HC6 : Hid (Sys w.heap.size w6 p 4 (mapC 2 2 (ansQ (-1, -1, -1, -1)))) := Lib.hid (by rw [hw6]; exact Sys.setCell HC1.out HX1.out (by decide) (by decide) _ _)
            have HG6 : Hid (Blk w6 g (wishL (lookW 2) wa wq) 88) := Lib.hid (by rw [hw6]; exact HG1.out.other (by omega) _ _)
            have HN6 : Hid (Blk w6 x2 (noteL 14 31 (lookW 2).group (lookW 2).epoch (.slice (some ⟨g, 0, none⟩) 1 1) zeroA 0 0) 81) := Lib.hid (by rw [hw6]; exact HN1.out.other (by omega) _ _)
            have HB6 : Hid (Below w.heap.size w w6) := Lib.hid (by rw [hw6]; exact HB1.out.setCell (by simp; omega) _)
            rw [← hw6]
            obtain ⟨g1, g2⟩ := note81_at hX6 (noteOf_len _ _ _ _ _) (Below.refl _ _)
            clear hw6 hX6 HC1 HG1 HN1 HB1 HX1 hxn
            go_wp2_with fail
            refine Calls.mono (take_strange w.heap.size p 4 (⟨(3 + r), (5 + m'), 1, 2, (readA 9), 2, 31⟩ : No) da dc na nc w6 HC6.out (.inl (by show ¬ (3 + r) = 2; omega))) ?_
            rintro en w7 ⟨l7, rfl, q1, q2, q3⟩
            obtain ⟨e1, e2, hb8, hG8, hV8⟩ := put_out q2
            have HT8 := Lib.hid (q3.then hb8 HC6.out.low)
            have HC8 := Lib.hid (q1.below hb8)
            have HX8 := Lib.hid hG8
            have HV8 := Lib.hid hV8
            clear hb8 hG8 hV8 q1 q2 q3 g1 g2
            go_upto_region 23 with (fail)
            obtain ⟨w8, hw8⟩ : ∃ x, x = (w7.alloc (.cells out0.toArray 90)).setCells w7.heap.size 0 l7 := ⟨_, rfl⟩
            obtain ⟨x8, hx8⟩ : ∃ x, x = w7.heap.size := ⟨_, rfl⟩
            rw [← hw8] at HT8 HC8 HX8 HV8 ⊢
            rw [← hx8] at HX8 ⊢
            clear hw8 hx8 e1 e2
            obtain ⟨g1, g2⟩ := out_at HX8.out HV8.out.len (Below.refl _ _)
            go_wp2_with fail
            refine Calls.mono (quiet_is l7 Ou.zero w8 HV8.out rfl rfl rfl) ?_
            rintro en w9 ⟨rfl, hb9⟩
            have HC9 := Lib.hid (HC8.out.below hb9)
            have HT9 := Lib.hid (HT8.out.then hb9 HC6.out.low)
            have HG9 := Lib.hid (HT9.out.blk HG6.out (by decide))
            have HN9 := Lib.hid (HT9.out.blk HN6.out (by decide))
            have HB9 := Lib.hid (HB6.out.trans HT9.out.low)
            clear hb9 g1 g2
            go_wp2_with fail
            go_roundw
            case rel => exact ⟨k + 1, by omega, by omega, by go_num, HC9, HG9, HN9, HB9⟩
            case measure => simp [intOf]; omega
      · have HCx : Hid (Sys w.heap.size wr p (4 + 2 * 0) (stQ 0)) := Lib.hid HC.out
        go_wp2_with fail
        go_loopw [9] (fun iv wz => ∃ k : Nat, k ≤ 3 ∧ iv = .int .i64 (5 + (k : Int)) ∧ Hid (Sys w.heap.size wz p (4 + 2 * k) (stQ k)) ∧ Hid (Blk wz g (wishL (lookW 2) wa wq) 88) ∧ Hid (Blk wz x2 (noteL 14 31 (lookW 2).group (lookW 2).epoch (.slice (some ⟨g, 0, none⟩) 1 1) zeroA 0 0) 81) ∧ Hid (Below w.heap.size w wz)) (fun iv _ => 8 - (intOf iv).toNat)
        case atStart => exact ⟨0, by omega, rfl, HCx, HG, HN, HB⟩
        case round =>
          clear HC HG HN HB HCx
          obtain ⟨j, hj, rfl, HC, HG, HN, HB⟩ := hrel
          by_cases hj3 : j < 3
          · have hj8 : (5 + (j : Int)) < 8 := by omega
            have HL : Hid (w.heap.size ≤ wr.heap.size) := Lib.hid HB.out.size
            go_upto_region 28 with (fail)
            have hZ0 : Below wr.heap.size wr wr := Below.refl _ _
            obtain ⟨y0, y1⟩ := note81_at HN.out rfl hZ0
            obtain ⟨y2, y3⟩ := note81_at HN.out rfl (Below.new wr (.cells out0.toArray 90))
            obtain ⟨y4, y5⟩ := note81_at HN.out rfl (Below.step hZ0.drew (Below.new wr.drew (.cells out0.toArray 90)))
            go_upto_region 28 with (fail)
            go_cut [10, 11] from 114 to 122 (fun v8 v9 wx => TookS w.heap.size wr wx p (4 + 2 * j + 2) (stQ (j + 1)) (outQ j) v8 v9)
            case first =>
              go_region_with
                (first
                  | (go_at_call 51; go_loud ((with_reducible refine Calls.mono (read_any 1 _ (by decide) (by decide)) ?_); rintro en wd ⟨v, rfl, ⟨da, dc, na, nc, hv, ⟨hX, hXn⟩, hY, hYn⟩, hb⟩; have hv : v = .agg (ansL (readA 1) da dc na nc).toArray := hv; subst hv; have hS : Below wr.heap.size wr wd := Below.step (by (first | with_reducible exact hZ0 | with_reducible exact Below.drew hZ0 | with_reducible exact Below.step hZ0 (Below.new _ _) | with_reducible exact Below.step (Below.drew hZ0) (Below.new _ _) | with_reducible exact Below.drew (Below.step hZ0 (Below.new _ _)))) hb; obtain ⟨g1, g2⟩ := note81_at HN.out rfl hS; obtain ⟨g3, g4⟩ := note81_at HN.out rfl (Below.step hS (Below.new wd (.cells out0.toArray 90))); obtain ⟨g5, g6⟩ := note81_at HN.out rfl (Below.step hS.drew (Below.new wd.drew (.cells out0.toArray 90))); (first | (have hx8 : Blk wd wr.heap.size out0 90 := Blk.below (Blk.new wr out0 90) (by with_reducible exact hb)) | (have hx8 : Blk wd wr.heap.size out0 90 := Blk.below (Blk.new wr.drew out0 90) (by with_reducible exact hb)) | (have hx8 : Blk wd wr.heap.size out0 90 := Blk.below (Blk.below (Blk.new wr out0 90) (Below.refl _ _).drew) (by with_reducible exact hb)) | skip)))
                  | (go_at_call 50; go_loud ((with_reducible refine Calls.mono (reply_any (5 + (j : Int)) 14 31 (lookW 2) g wa wq (readA 1) da dc na nc _ ?_) ?_); (refine HG.out.below ?_; (first | with_reducible exact hS | with_reducible exact Below.drew hS | with_reducible exact Below.step hS (Below.new _ _) | with_reducible exact Below.step (Below.drew hS) (Below.new _ _) | with_reducible exact Below.drew (Below.step hS (Below.new _ _)))); rintro en we ⟨rfl, hb2⟩; have hT0 : Below wd.heap.size wd we := Below.step (by (first | with_reducible exact (Below.refl wd.heap.size wd) | with_reducible exact Below.drew (Below.refl wd.heap.size wd) | with_reducible exact Below.step (Below.refl wd.heap.size wd) (Below.new _ _) | with_reducible exact Below.step (Below.drew (Below.refl wd.heap.size wd)) (Below.new _ _) | with_reducible exact Below.drew (Below.step (Below.refl wd.heap.size wd) (Below.new _ _)))) hb2; have hT : Below wr.heap.size wr we := Below.step hS hT0; have hX' : BL we da (readA 1).data := hX.below hT0; have hY' : IL we na (readA 1).nodes := TL.below hY hT0; (first | (have hx8 := Blk.below hx8 hT0) | (have hx8 : Blk we wd.heap.size out0 90 := Blk.below (Blk.new wd out0 90) (by with_reducible exact hb2)) | (have hx8 : Blk we wd.heap.size out0 90 := Blk.below (Blk.new wd.drew out0 90) (by with_reducible exact hb2)) | (have hx8 : Blk we wd.heap.size out0 90 := Blk.below (Blk.below (Blk.new wd out0 90) (Below.refl _ _).drew) (by with_reducible exact hb2)) | skip)))
                  | (go_at_call 52; go_loud ((with_reducible refine Calls.mono (take_stQ w.heap.size p (4 + 2 * j) j hj3 da dc na nc _ ?_ ?_ ?_ hXn ?_ hYn) ?_); (omega); (refine Sys.below HC.out ?_; (first | with_reducible exact hT | with_reducible exact Below.drew hT | with_reducible exact Below.step hT (Below.new _ _) | with_reducible exact Below.step (Below.drew hT) (Below.new _ _) | with_reducible exact Below.drew (Below.step hT (Below.new _ _)))); (refine hX'.below ?_; (first | with_reducible exact (Below.refl we.heap.size we) | with_reducible exact Below.drew (Below.refl we.heap.size we) | with_reducible exact Below.step (Below.refl we.heap.size we) (Below.new _ _) | with_reducible exact Below.step (Below.drew (Below.refl we.heap.size we)) (Below.new _ _) | with_reducible exact Below.drew (Below.step (Below.refl we.heap.size we) (Below.new _ _)))); (refine TL.below hY' ?_; (first | with_reducible exact (Below.refl we.heap.size we) | with_reducible exact Below.drew (Below.refl we.heap.size we) | with_reducible exact Below.step (Below.refl we.heap.size we) (Below.new _ _) | with_reducible exact Below.step (Below.drew (Below.refl we.heap.size we)) (Below.new _ _) | with_reducible exact Below.drew (Below.step (Below.refl we.heap.size we) (Below.new _ _)))); rintro en wf ⟨l', rfl, q1, q2, q3⟩; have p3 : Stp w.heap.size wr wf := Stp.trans (Stp.of_below (by (first | with_reducible exact hT | with_reducible exact Below.drew hT | with_reducible exact Below.step hT (Below.new _ _) | with_reducible exact Below.step (Below.drew hT) (Below.new _ _) | with_reducible exact Below.drew (Below.step hT (Below.new _ _)))) HL.out) q3; (first | (have hx8 := q3.blk (Blk.below hx8 (by (first | with_reducible exact (Below.refl we.heap.size we) | with_reducible exact Below.drew (Below.refl we.heap.size we) | with_reducible exact Below.step (Below.refl we.heap.size we) (Below.new _ _) | with_reducible exact Below.step (Below.drew (Below.refl we.heap.size we)) (Below.new _ _) | with_reducible exact Below.drew (Below.step (Below.refl we.heap.size we) (Below.new _ _))))) (by decide)) | (have hx8 : Blk wf we.heap.size out0 90 := q3.blk (Blk.new we out0 90) (by decide)) | (have hx8 : Blk wf we.heap.size out0 90 := q3.blk (Blk.new we.drew out0 90) (by decide)) | (have hx8 : Blk wf we.heap.size out0 90 := q3.blk (Blk.below (Blk.new we out0 90) (Below.refl _ _).drew) (by decide)) | skip); (first | (have m0 := hx8.room (o := 0) (n := 75) (by rw [out0_len]; exact Nat.le_refl _)) | skip); obtain ⟨m1, m2, _⟩ := put_out q2; obtain ⟨m3, _⟩ := put_out (q2.below (Below.refl _ _).drew))))
              all_goals
                have T1 := Lib.hid (tookS_of (Stp.refl _ _) HL.out q1 q2 p3)
                have T3 := Lib.hid (tookS_of (Stp.refl _ _) HL.out q1.drw (q2.below (Below.refl _ _).drew) (p3.drw HL.out))
                (first
                  | (have T2 := Lib.hid (tookS_early HL.out q1 q2 p3 hx8 (by first | exact Nat.le_refl _ | exact hS.size | exact hT.size))
                     have T4 := Lib.hid (tookS_early HL.out q1.drw (q2.below (Below.refl _ _).drew) (p3.drw HL.out) (hx8.below (Below.refl _ _).drew) (by first | exact Nat.le_refl _ | exact hS.size | exact hT.size)))
                  | skip)
                go_wp2_with fail
                go_meet
                first
                  | with_reducible exact T1.out
                  | with_reducible exact T2.out
                  | with_reducible exact T3.out
                  | with_reducible exact T4.out
                  | with_reducible exact T1.out.drw HL.out
                  | with_reducible exact T2.out.drw HL.out
            case rest =>
              obtain ⟨x9, l9, rfl, rfl, hG, hV, hC, hS⟩ := hcut
              obtain ⟨w9, hw⟩ : ∃ x, x = wc := ⟨_, rfl⟩
              rw [← hw] at hG hV hC hS ⊢
              clear hw
              have HG9 := Lib.hid (hS.blk HG.out (by decide))
              have HN9 := Lib.hid (hS.blk HN.out (by decide))
              have HB9 := Lib.hid (HB.out.trans hS.low)
              have HC9 := Lib.hid hC
              have HX9 := Lib.hid hG
              clear HG HN HB HC hC hS hZ0 y0 y1 y2 y3 y4 y5
              by_cases hj2 : j = 2
              · subst hj2
                obtain ⟨da0, dc0, na0, nc0, ⟨P60, P62, P66, _, _⟩, ⟨P71, P72, P73, P74⟩, hX0, hY0⟩ := hV.parts
                have HX0 : Hid (BL w9 da0 (readA 1).data) := Lib.hid hX0
                have HY0 : Hid (IL w9 na0 (readA 1).nodes) := Lib.hid hY0
                have HPP : Hid (l9[60]? = some (.bool true) ∧ l9[62]? = some (.int .i64 1) ∧ l9[66]? = some (.int .i64 3) ∧ l9[71]? = some (.int .i64 0) ∧ l9[72]? = some (.slice da0 1 dc0) ∧ l9[73]? = some (.int .i64 0) ∧ l9[74]? = some (.slice na0 0 nc0)) := Lib.hid ⟨P60, P62, P66, P71, P72, P73, P74⟩
                obtain ⟨k60, _, _, k71, k72, k73, k74⟩ := cells7 HX9.out HPP.out (Below.refl _ _)
                clear hV hG hX0 hY0 P60 P62 P66 P71 P72 P73 P74
                go_upto_region 29 with (fail)
                go_cut [142] from 123 to 142 (fun v wx => FlagB w9 wx false v)
                case first =>
                  go_region_with
                    (first
                      | (go_at_call 51; go_loud ((with_reducible refine Calls.mono (read_any 1 _ (by decide) (by decide)) ?_); rintro en wf ⟨v, rfl, ⟨da, dc, na, nc, hv, ⟨hX, hXn⟩, hY, hYn⟩, hb3⟩; have hv : v = .agg #[.int .i64 0, .slice da 1 dc, .int .i64 0, .slice na 0 nc] := hv; subst hv; have hU : Below w9.heap.size w9 wf := Below.step (by (first | with_reducible exact (Below.refl w9.heap.size w9) | with_reducible exact Below.drew (Below.refl w9.heap.size w9) | with_reducible exact Below.step (Below.refl w9.heap.size w9) (Below.new _ _) | with_reducible exact Below.step (Below.drew (Below.refl w9.heap.size w9)) (Below.new _ _) | with_reducible exact Below.drew (Below.step (Below.refl w9.heap.size w9) (Below.new _ _)))) hb3; obtain ⟨j60, _, _, j71, j72, j73, j74⟩ := cells7 HX9.out HPP.out hU))
                      | (go_at_call 54; go_loud ((with_reducible refine Calls.mono (sameRead_is 1 da0 dc0 na0 nc0 da dc na nc _ ?_ ?_ ?_ ?_) ?_); (refine HX0.out.below ?_; (first | with_reducible exact hU | with_reducible exact Below.drew hU | with_reducible exact Below.step hU (Below.new _ _) | with_reducible exact Below.step (Below.drew hU) (Below.new _ _) | with_reducible exact Below.drew (Below.step hU (Below.new _ _)))); (refine TL.below HY0.out ?_; (first | with_reducible exact hU | with_reducible exact Below.drew hU | with_reducible exact Below.step hU (Below.new _ _) | with_reducible exact Below.step (Below.drew hU) (Below.new _ _) | with_reducible exact Below.drew (Below.step hU (Below.new _ _)))); (refine BL.below hX ?_; (first | with_reducible exact (Below.refl wf.heap.size wf) | with_reducible exact Below.drew (Below.refl wf.heap.size wf) | with_reducible exact Below.step (Below.refl wf.heap.size wf) (Below.new _ _) | with_reducible exact Below.step (Below.drew (Below.refl wf.heap.size wf)) (Below.new _ _) | with_reducible exact Below.drew (Below.step (Below.refl wf.heap.size wf) (Below.new _ _)))); (refine TL.below hY ?_; (first | with_reducible exact (Below.refl wf.heap.size wf) | with_reducible exact Below.drew (Below.refl wf.heap.size wf) | with_reducible exact Below.step (Below.refl wf.heap.size wf) (Below.new _ _) | with_reducible exact Below.step (Below.drew (Below.refl wf.heap.size wf)) (Below.new _ _) | with_reducible exact Below.drew (Below.step (Below.refl wf.heap.size wf) (Below.new _ _)))); rintro en wg ⟨rfl, hb4⟩; have hV : Below w9.heap.size w9 wg := Below.step (by (first | with_reducible exact hU | with_reducible exact Below.drew hU | with_reducible exact Below.step hU (Below.new _ _) | with_reducible exact Below.step (Below.drew hU) (Below.new _ _) | with_reducible exact Below.drew (Below.step hU (Below.new _ _)))) hb4)))
                  all_goals
                    go_wp2_with fail
                    go_meet
                    first
                      | exact ⟨rfl, hV⟩
                      | exact ⟨rfl, hV.drew⟩
                case rest =>
                  obtain ⟨rfl, hS⟩ := hcut
                  have HCA := Lib.hid (HC9.out.below hS)
                  have HGA := Lib.hid (HG9.out.below hS)
                  have HNA := Lib.hid (HN9.out.below hS)
                  have HBA := Lib.hid (Below.step HB9.out hS)
                  clear hS k60 k71 k72 k73 k74
                  go_wp2_with fail
                  go_roundw
                  case rel => exact ⟨3, by omega, by first | rfl | go_num, HCA, HGA, HNA, HBA⟩
                  case measure => simp [intOf]
              · have h7 : ((5 + (j : Int)) == 7) = false := by simpa using (show ¬ (5 + (j : Int)) = 7 by omega)
                have hq : outQ j = Ou.zero := by unfold outQ; rw [if_neg hj2]
                rw [hq] at hV
                obtain ⟨da0, dc0, na0, nc0, ⟨P60, _⟩, _⟩ := hV.parts
                replace P60 : l9[60]? = some (.bool false) := P60
                have k60 := hG.cell P60
                have HP60 := Lib.hid P60
                have hw6 : IntKind.i64.wrap (5 + (j : Int) + 1) = 5 + (j : Int) + 1 := IntWalk.i64_in _ (by omega)
                clear hV hG P60 hq
                go_upto_region 29 with (fail)
                go_cut [142] from 110 to 142 (fun v wx => FlagB w9 wx false v)
                case first =>
                  first | (go_quiet (fail)) | (go_region_with (fail)) | fail
                  all_goals
                    go_wp2_with fail
                    go_meet
                    first
                      | exact ⟨rfl, below_drewN (Below.refl _ _) _⟩
                      | exact ⟨rfl, Below.refl _ _⟩
                      | exact ⟨rfl, (Below.refl _ _).drew⟩
                case rest =>
                  obtain ⟨rfl, hS⟩ := hcut
                  have HCA := Lib.hid (HC9.out.below hS)
                  have HGA := Lib.hid (HG9.out.below hS)
                  have HNA := Lib.hid (HN9.out.below hS)
                  have HBA := Lib.hid (Below.step HB9.out hS)
                  clear hS k60
                  go_wp2_with fail
                  go_roundw
                  case rel => exact ⟨j + 1, by omega, by first | rfl | go_num | (congr 1; push_cast; omega), HCA, HGA, HNA, HBA⟩
                  case measure => simp [intOf]; omega
          · have hj4 : j = 3 := by omega
            subst hj4
            go_wp2_with fail
            go_ret
            exact ⟨rfl, HB.out⟩
    · have HCx : Hid (Sys w.heap.size wr p (4 + 2 * 0) (stQ 0)) := Lib.hid HC.out
      go_wp2_with fail
      go_loopw [9] (fun iv wz => ∃ k : Nat, k ≤ 3 ∧ iv = .int .i64 (5 + (k : Int)) ∧ Hid (Sys w.heap.size wz p (4 + 2 * k) (stQ k)) ∧ Hid (Blk wz g (wishL (lookW 2) wa wq) 88) ∧ Hid (Blk wz x2 (noteL 14 31 (lookW 2).group (lookW 2).epoch (.slice (some ⟨g, 0, none⟩) 1 1) zeroA 0 0) 81) ∧ Hid (Below w.heap.size w wz)) (fun iv _ => 8 - (intOf iv).toNat)
      case atStart => exact ⟨0, by omega, rfl, HCx, HG, HN, HB⟩
      case round =>
        clear HC HG HN HB HCx
        obtain ⟨j, hj, rfl, HC, HG, HN, HB⟩ := hrel
        by_cases hj3 : j < 3
        · have hj8 : (5 + (j : Int)) < 8 := by omega
          have HL : Hid (w.heap.size ≤ wr.heap.size) := Lib.hid HB.out.size
          go_upto_region 28 with (fail)
          have hZ0 : Below wr.heap.size wr wr := Below.refl _ _
          obtain ⟨y0, y1⟩ := note81_at HN.out rfl hZ0
          obtain ⟨y2, y3⟩ := note81_at HN.out rfl (Below.new wr (.cells out0.toArray 90))
          obtain ⟨y4, y5⟩ := note81_at HN.out rfl (Below.step hZ0.drew (Below.new wr.drew (.cells out0.toArray 90)))
          go_upto_region 28 with (fail)
          go_cut [10, 11] from 114 to 122 (fun v8 v9 wx => TookS w.heap.size wr wx p (4 + 2 * j + 2) (stQ (j + 1)) (outQ j) v8 v9)
          case first =>
            go_region_with
              (first
                | (go_at_call 51; go_loud ((with_reducible refine Calls.mono (read_any 1 _ (by decide) (by decide)) ?_); rintro en wd ⟨v, rfl, ⟨da, dc, na, nc, hv, ⟨hX, hXn⟩, hY, hYn⟩, hb⟩; have hv : v = .agg (ansL (readA 1) da dc na nc).toArray := hv; subst hv; have hS : Below wr.heap.size wr wd := Below.step (by (first | with_reducible exact hZ0 | with_reducible exact Below.drew hZ0 | with_reducible exact Below.step hZ0 (Below.new _ _) | with_reducible exact Below.step (Below.drew hZ0) (Below.new _ _) | with_reducible exact Below.drew (Below.step hZ0 (Below.new _ _)))) hb; obtain ⟨g1, g2⟩ := note81_at HN.out rfl hS; obtain ⟨g3, g4⟩ := note81_at HN.out rfl (Below.step hS (Below.new wd (.cells out0.toArray 90))); obtain ⟨g5, g6⟩ := note81_at HN.out rfl (Below.step hS.drew (Below.new wd.drew (.cells out0.toArray 90))); (first | (have hx8 : Blk wd wr.heap.size out0 90 := Blk.below (Blk.new wr out0 90) (by with_reducible exact hb)) | (have hx8 : Blk wd wr.heap.size out0 90 := Blk.below (Blk.new wr.drew out0 90) (by with_reducible exact hb)) | (have hx8 : Blk wd wr.heap.size out0 90 := Blk.below (Blk.below (Blk.new wr out0 90) (Below.refl _ _).drew) (by with_reducible exact hb)) | skip)))
                | (go_at_call 50; go_loud ((with_reducible refine Calls.mono (reply_any (5 + (j : Int)) 14 31 (lookW 2) g wa wq (readA 1) da dc na nc _ ?_) ?_); (refine HG.out.below ?_; (first | with_reducible exact hS | with_reducible exact Below.drew hS | with_reducible exact Below.step hS (Below.new _ _) | with_reducible exact Below.step (Below.drew hS) (Below.new _ _) | with_reducible exact Below.drew (Below.step hS (Below.new _ _)))); rintro en we ⟨rfl, hb2⟩; have hT0 : Below wd.heap.size wd we := Below.step (by (first | with_reducible exact (Below.refl wd.heap.size wd) | with_reducible exact Below.drew (Below.refl wd.heap.size wd) | with_reducible exact Below.step (Below.refl wd.heap.size wd) (Below.new _ _) | with_reducible exact Below.step (Below.drew (Below.refl wd.heap.size wd)) (Below.new _ _) | with_reducible exact Below.drew (Below.step (Below.refl wd.heap.size wd) (Below.new _ _)))) hb2; have hT : Below wr.heap.size wr we := Below.step hS hT0; have hX' : BL we da (readA 1).data := hX.below hT0; have hY' : IL we na (readA 1).nodes := TL.below hY hT0; (first | (have hx8 := Blk.below hx8 hT0) | (have hx8 : Blk we wd.heap.size out0 90 := Blk.below (Blk.new wd out0 90) (by with_reducible exact hb2)) | (have hx8 : Blk we wd.heap.size out0 90 := Blk.below (Blk.new wd.drew out0 90) (by with_reducible exact hb2)) | (have hx8 : Blk we wd.heap.size out0 90 := Blk.below (Blk.below (Blk.new wd out0 90) (Below.refl _ _).drew) (by with_reducible exact hb2)) | skip)))
                | (go_at_call 52; go_loud ((with_reducible refine Calls.mono (take_stQ w.heap.size p (4 + 2 * j) j hj3 da dc na nc _ ?_ ?_ ?_ hXn ?_ hYn) ?_); (omega); (refine Sys.below HC.out ?_; (first | with_reducible exact hT | with_reducible exact Below.drew hT | with_reducible exact Below.step hT (Below.new _ _) | with_reducible exact Below.step (Below.drew hT) (Below.new _ _) | with_reducible exact Below.drew (Below.step hT (Below.new _ _)))); (refine hX'.below ?_; (first | with_reducible exact (Below.refl we.heap.size we) | with_reducible exact Below.drew (Below.refl we.heap.size we) | with_reducible exact Below.step (Below.refl we.heap.size we) (Below.new _ _) | with_reducible exact Below.step (Below.drew (Below.refl we.heap.size we)) (Below.new _ _) | with_reducible exact Below.drew (Below.step (Below.refl we.heap.size we) (Below.new _ _)))); (refine TL.below hY' ?_; (first | with_reducible exact (Below.refl we.heap.size we) | with_reducible exact Below.drew (Below.refl we.heap.size we) | with_reducible exact Below.step (Below.refl we.heap.size we) (Below.new _ _) | with_reducible exact Below.step (Below.drew (Below.refl we.heap.size we)) (Below.new _ _) | with_reducible exact Below.drew (Below.step (Below.refl we.heap.size we) (Below.new _ _)))); rintro en wf ⟨l', rfl, q1, q2, q3⟩; have p3 : Stp w.heap.size wr wf := Stp.trans (Stp.of_below (by (first | with_reducible exact hT | with_reducible exact Below.drew hT | with_reducible exact Below.step hT (Below.new _ _) | with_reducible exact Below.step (Below.drew hT) (Below.new _ _) | with_reducible exact Below.drew (Below.step hT (Below.new _ _)))) HL.out) q3; (first | (have hx8 := q3.blk (Blk.below hx8 (by (first | with_reducible exact (Below.refl we.heap.size we) | with_reducible exact Below.drew (Below.refl we.heap.size we) | with_reducible exact Below.step (Below.refl we.heap.size we) (Below.new _ _) | with_reducible exact Below.step (Below.drew (Below.refl we.heap.size we)) (Below.new _ _) | with_reducible exact Below.drew (Below.step (Below.refl we.heap.size we) (Below.new _ _))))) (by decide)) | (have hx8 : Blk wf we.heap.size out0 90 := q3.blk (Blk.new we out0 90) (by decide)) | (have hx8 : Blk wf we.heap.size out0 90 := q3.blk (Blk.new we.drew out0 90) (by decide)) | (have hx8 : Blk wf we.heap.size out0 90 := q3.blk (Blk.below (Blk.new we out0 90) (Below.refl _ _).drew) (by decide)) | skip); (first | (have m0 := hx8.room (o := 0) (n := 75) (by rw [out0_len]; exact Nat.le_refl _)) | skip); obtain ⟨m1, m2, _⟩ := put_out q2; obtain ⟨m3, _⟩ := put_out (q2.below (Below.refl _ _).drew))))
            all_goals
              have T1 := Lib.hid (tookS_of (Stp.refl _ _) HL.out q1 q2 p3)
              have T3 := Lib.hid (tookS_of (Stp.refl _ _) HL.out q1.drw (q2.below (Below.refl _ _).drew) (p3.drw HL.out))
              (first
                | (have T2 := Lib.hid (tookS_early HL.out q1 q2 p3 hx8 (by first | exact Nat.le_refl _ | exact hS.size | exact hT.size))
                   have T4 := Lib.hid (tookS_early HL.out q1.drw (q2.below (Below.refl _ _).drew) (p3.drw HL.out) (hx8.below (Below.refl _ _).drew) (by first | exact Nat.le_refl _ | exact hS.size | exact hT.size)))
                | skip)
              go_wp2_with fail
              go_meet
              first
                | with_reducible exact T1.out
                | with_reducible exact T2.out
                | with_reducible exact T3.out
                | with_reducible exact T4.out
                | with_reducible exact T1.out.drw HL.out
                | with_reducible exact T2.out.drw HL.out
          case rest =>
            obtain ⟨x9, l9, rfl, rfl, hG, hV, hC, hS⟩ := hcut
            obtain ⟨w9, hw⟩ : ∃ x, x = wc := ⟨_, rfl⟩
            rw [← hw] at hG hV hC hS ⊢
            clear hw
            have HG9 := Lib.hid (hS.blk HG.out (by decide))
            have HN9 := Lib.hid (hS.blk HN.out (by decide))
            have HB9 := Lib.hid (HB.out.trans hS.low)
            have HC9 := Lib.hid hC
            have HX9 := Lib.hid hG
            clear HG HN HB HC hC hS hZ0 y0 y1 y2 y3 y4 y5
            by_cases hj2 : j = 2
            · subst hj2
              obtain ⟨da0, dc0, na0, nc0, ⟨P60, P62, P66, _, _⟩, ⟨P71, P72, P73, P74⟩, hX0, hY0⟩ := hV.parts
              have HX0 : Hid (BL w9 da0 (readA 1).data) := Lib.hid hX0
              have HY0 : Hid (IL w9 na0 (readA 1).nodes) := Lib.hid hY0
              have HPP : Hid (l9[60]? = some (.bool true) ∧ l9[62]? = some (.int .i64 1) ∧ l9[66]? = some (.int .i64 3) ∧ l9[71]? = some (.int .i64 0) ∧ l9[72]? = some (.slice da0 1 dc0) ∧ l9[73]? = some (.int .i64 0) ∧ l9[74]? = some (.slice na0 0 nc0)) := Lib.hid ⟨P60, P62, P66, P71, P72, P73, P74⟩
              obtain ⟨k60, _, _, k71, k72, k73, k74⟩ := cells7 HX9.out HPP.out (Below.refl _ _)
              clear hV hG hX0 hY0 P60 P62 P66 P71 P72 P73 P74
              go_upto_region 29 with (fail)
              go_cut [142] from 123 to 142 (fun v wx => FlagB w9 wx false v)
              case first =>
                go_region_with
                  (first
                    | (go_at_call 51; go_loud ((with_reducible refine Calls.mono (read_any 1 _ (by decide) (by decide)) ?_); rintro en wf ⟨v, rfl, ⟨da, dc, na, nc, hv, ⟨hX, hXn⟩, hY, hYn⟩, hb3⟩; have hv : v = .agg #[.int .i64 0, .slice da 1 dc, .int .i64 0, .slice na 0 nc] := hv; subst hv; have hU : Below w9.heap.size w9 wf := Below.step (by (first | with_reducible exact (Below.refl w9.heap.size w9) | with_reducible exact Below.drew (Below.refl w9.heap.size w9) | with_reducible exact Below.step (Below.refl w9.heap.size w9) (Below.new _ _) | with_reducible exact Below.step (Below.drew (Below.refl w9.heap.size w9)) (Below.new _ _) | with_reducible exact Below.drew (Below.step (Below.refl w9.heap.size w9) (Below.new _ _)))) hb3; obtain ⟨j60, _, _, j71, j72, j73, j74⟩ := cells7 HX9.out HPP.out hU))
                    | (go_at_call 54; go_loud ((with_reducible refine Calls.mono (sameRead_is 1 da0 dc0 na0 nc0 da dc na nc _ ?_ ?_ ?_ ?_) ?_); (refine HX0.out.below ?_; (first | with_reducible exact hU | with_reducible exact Below.drew hU | with_reducible exact Below.step hU (Below.new _ _) | with_reducible exact Below.step (Below.drew hU) (Below.new _ _) | with_reducible exact Below.drew (Below.step hU (Below.new _ _)))); (refine TL.below HY0.out ?_; (first | with_reducible exact hU | with_reducible exact Below.drew hU | with_reducible exact Below.step hU (Below.new _ _) | with_reducible exact Below.step (Below.drew hU) (Below.new _ _) | with_reducible exact Below.drew (Below.step hU (Below.new _ _)))); (refine BL.below hX ?_; (first | with_reducible exact (Below.refl wf.heap.size wf) | with_reducible exact Below.drew (Below.refl wf.heap.size wf) | with_reducible exact Below.step (Below.refl wf.heap.size wf) (Below.new _ _) | with_reducible exact Below.step (Below.drew (Below.refl wf.heap.size wf)) (Below.new _ _) | with_reducible exact Below.drew (Below.step (Below.refl wf.heap.size wf) (Below.new _ _)))); (refine TL.below hY ?_; (first | with_reducible exact (Below.refl wf.heap.size wf) | with_reducible exact Below.drew (Below.refl wf.heap.size wf) | with_reducible exact Below.step (Below.refl wf.heap.size wf) (Below.new _ _) | with_reducible exact Below.step (Below.drew (Below.refl wf.heap.size wf)) (Below.new _ _) | with_reducible exact Below.drew (Below.step (Below.refl wf.heap.size wf) (Below.new _ _)))); rintro en wg ⟨rfl, hb4⟩; have hV : Below w9.heap.size w9 wg := Below.step (by (first | with_reducible exact hU | with_reducible exact Below.drew hU | with_reducible exact Below.step hU (Below.new _ _) | with_reducible exact Below.step (Below.drew hU) (Below.new _ _) | with_reducible exact Below.drew (Below.step hU (Below.new _ _)))) hb4)))
                all_goals
                  go_wp2_with fail
                  go_meet
                  first
                    | exact ⟨rfl, hV⟩
                    | exact ⟨rfl, hV.drew⟩
              case rest =>
                obtain ⟨rfl, hS⟩ := hcut
                have HCA := Lib.hid (HC9.out.below hS)
                have HGA := Lib.hid (HG9.out.below hS)
                have HNA := Lib.hid (HN9.out.below hS)
                have HBA := Lib.hid (Below.step HB9.out hS)
                clear hS k60 k71 k72 k73 k74
                go_wp2_with fail
                go_roundw
                case rel => exact ⟨3, by omega, by first | rfl | go_num, HCA, HGA, HNA, HBA⟩
                case measure => simp [intOf]
            · have h7 : ((5 + (j : Int)) == 7) = false := by simpa using (show ¬ (5 + (j : Int)) = 7 by omega)
              have hq : outQ j = Ou.zero := by unfold outQ; rw [if_neg hj2]
              rw [hq] at hV
              obtain ⟨da0, dc0, na0, nc0, ⟨P60, _⟩, _⟩ := hV.parts
              replace P60 : l9[60]? = some (.bool false) := P60
              have k60 := hG.cell P60
              have HP60 := Lib.hid P60
              have hw6 : IntKind.i64.wrap (5 + (j : Int) + 1) = 5 + (j : Int) + 1 := IntWalk.i64_in _ (by omega)
              clear hV hG P60 hq
              go_upto_region 29 with (fail)
              go_cut [142] from 110 to 142 (fun v wx => FlagB w9 wx false v)
              case first =>
                first | (go_quiet (fail)) | (go_region_with (fail)) | fail
                all_goals
                  go_wp2_with fail
                  go_meet
                  first
                    | exact ⟨rfl, below_drewN (Below.refl _ _) _⟩
                    | exact ⟨rfl, Below.refl _ _⟩
                    | exact ⟨rfl, (Below.refl _ _).drew⟩
              case rest =>
                obtain ⟨rfl, hS⟩ := hcut
                have HCA := Lib.hid (HC9.out.below hS)
                have HGA := Lib.hid (HG9.out.below hS)
                have HNA := Lib.hid (HN9.out.below hS)
                have HBA := Lib.hid (Below.step HB9.out hS)
                clear hS k60
                go_wp2_with fail
                go_roundw
                case rel => exact ⟨j + 1, by omega, by first | rfl | go_num | (congr 1; push_cast; omega), HCA, HGA, HNA, HBA⟩
                case measure => simp [intOf]; omega
        · have hj4 : j = 3 := by omega
          subst hj4
          go_wp2_with fail
          go_ret
          exact ⟨rfl, HB.out⟩
end Go.Proofs.Ytldcpnabgpjgiaa.Walks
