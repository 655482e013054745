/-
  The walk of the law's mapped.
-/
import Derived.Test.YtldcpnabgpjgiaaDiskW
namespace Go.Proofs.Ytldcpnabgpjgiaa.Walks
open Go.RowKit Plain
set_option linter.unusedVariables false
attribute [local go_sem] isPV_mk adV_mk cells_agg cells_agg' held_drew room_drew cellsAt_drew isA4_mk isSl_mk isI_mk intOf_mk
attribute [local go_sem ↓] exec_load88 exec_store88 exec_load81 exec_store81 exec_load90 exec_store90 Go.wp_at_zero Go.wp_at_succ exec_alloc81 exec_build81r exec_build81s exec_bs69 exec_alloc90 exec_build90n
attribute [local irreducible] out0

theorem take_askC (p r1 r2 N : Nat) (ans : Int → Option An) (fr : Int) (A : An) (da : Option Addr) (dc : Nat) (na : Option Addr) (nc : Nat) (w : World) (h : CliAt w p r1 r2 N (askS ans)) (hfr : fr = 1 ∨ fr = 2) (hN1 : N + 1 < 1000000) (hkeys : ∀ k a, ans k = some a → k ∈ dirL)
    (hD : BL w da A.data) (hDn : da = none → dc = 0) (hN : IL w na A.nodes) (hNn : na = none → nc = 0) :
    Calls Try.prog 52 #[.pointer (some ⟨p, 0, none⟩), .agg (noteL 2 fr askW.group askW.epoch (.slice none 0 0) (ansL A da dc na nc) askW.stamp askW.client).toArray] w (GiveP [p, r1, r2] p r1 r2 (N + 2) (takeC (askS ans) (replyN fr askW A)) (takeO (askS ans) (replyN fr askW A)) 0 w) :=
  take_is p r1 r2 N (askS ans) (replyN fr askW A) da dc na nc w h (heard_ask ans fr A hfr) (show goodC 1 dirL = true by decide) (show (0 : Int) ≤ 1 ∧ (1 : Int) ≤ 1000000 by decide) (show Wf 1 from Wf.of (by decide) (by decide)) (show Wf 3 from Wf.of (by decide) (by decide)) hN1 hkeys (fun m hm => by cases hm) (fun h2 => by cases h2) hD hDn hN hNn
theorem take_mapC (p r1 r2 N : Nat) (e way : Int) (hw : way = 2 ∨ way = 3) (ans : Int → Option An) (fr : Int) (A : An) (da : Option Addr) (dc : Nat) (na : Option Addr) (nc : Nat) (w : World) (h : CliAt w p r1 r2 N (mapC e way ans)) (hfr : fr ∈ fiveL) (hN1 : N + 1 < 1000000) (hkeys : ∀ k a, ans k = some a → k ∈ fiveL)
    (hD : BL w da A.data) (hDn : da = none → dc = 0) (hN : IL w na A.nodes) (hNn : na = none → nc = 0) :
    Calls Try.prog 52 #[.pointer (some ⟨p, 0, none⟩), .agg (noteL 2 fr (lookW e).group (lookW e).epoch (.slice none 0 0) (ansL A da dc na nc) (lookW e).stamp (lookW e).client).toArray] w (GiveP [p, r1, r2] p r1 r2 (N + 2) (takeC (mapC e way ans) (replyN fr (lookW e) A)) (takeO (mapC e way ans) (replyN fr (lookW e) A)) 0 w) :=
  take_is p r1 r2 N (mapC e way ans) (replyN fr (lookW e) A) da dc na nc w h (heard_map e way hw ans fr A hfr) (by decide : goodC 1 fiveL = true) (by decide : (0 : Int) ≤ 2 ∧ (2 : Int) ≤ 1000000) (Wf.of (by decide) (by decide) : Wf 1) (Wf.of (by decide) (by decide) : Wf 3) hN1 hkeys
    (fun m hm => by
      have hm' : some (fiveL, e) = some m := hm
      cases hm'; exact (show goodC 1 fiveL = true by decide)) (fun _ _ => rfl) hD hDn hN hNn
theorem take_mid {l1 l2 l3 : List Value} {a n : Nat} (h1 : l1.length = a) (h2 : l2.length = n) : ((l1 ++ (l2 ++ l3)).drop a).take n = l2 := by
  subst h1; subst h2; simp
/-- What a heap Out's cells hold. -/
theorem out_open {w : World} {g : Nat} {l : List Value} {o : Ou} (hG : Blk w g l 90) (hV : OutV w l o) : ∃ nl ca cc, NoteV w nl o.note ∧ (w.cell? ⟨g, 59, none⟩ = some (.bool o.began) ∧ w.cell? ⟨g, 60, none⟩ = some (.bool o.done)) ∧
    (cellsAt w ⟨g, 61, none⟩ 10 = wishL o.call ca cc ∧ Held w ⟨g, 61, none⟩ 10 ∧ BL w ca o.call.data ∧ (ca = none → cc = 0)) ∧ (cellsAt w ⟨g, 1, none⟩ 58 = nl ∧ Held w ⟨g, 1, none⟩ 58) ∧ (cellsAt w ⟨g, 0, none⟩ 75 = l ∧ Held w ⟨g, 0, none⟩ 75 ∧ isAgg 75 (.agg l.toArray)) := by
  have hl := hV.len
  have ha := hV.agg
  obtain ⟨ta, tc, nl, ca, cc, da, dc, na, nc, e, _, hn, ⟨hq, hqn⟩, _⟩ := hV
  have hnl := hn.len
  refine ⟨nl, ca, cc, hn, ⟨hG.cell (by rw [e, outL_rest hnl 0]; rfl), hG.cell (by rw [e, outL_rest hnl 1]; rfl)⟩, ⟨?_, hG.held (by omega), hq, hqn⟩, ⟨?_, hG.held (by omega)⟩, ?_, hG.held (by omega), ha⟩
  · rw [hG.cells (by omega), e]
    have : outL (.slice ta o.to.length tc) nl o.began o.done (wishL o.call ca cc) (ansL o.ans da dc na nc) = (.slice ta o.to.length tc :: (nl ++ [.bool o.began, .bool o.done])) ++ (wishL o.call ca cc ++ ansL o.ans da dc na nc) := by simp [outL]
    rw [this]; exact take_mid (by simp [hnl]) rfl
  · rw [hG.cells (by omega), e]
    exact take_mid (l1 := [.slice ta o.to.length tc]) rfl hnl
  · rw [hG.cells (by omega), List.drop_zero, List.take_of_length_le (by omega)]
/-- What comes of something is laid into a fresh block. -/
theorem put_out {w : World} {l : List Value} {o : Ou} (hV : OutV w l o) : Room (w.alloc (.cells out0.toArray 90)) ⟨w.heap.size, 0, none⟩ 75 ∧ isAgg 75 (.agg l.toArray) ∧ Below w.heap.size w ((w.alloc (.cells out0.toArray 90)).setCells w.heap.size 0 l) ∧
    Blk ((w.alloc (.cells out0.toArray 90)).setCells w.heap.size 0 l) w.heap.size l 90 ∧ OutV ((w.alloc (.cells out0.toArray 90)).setCells w.heap.size 0 l) l o := by
  have hN := Blk.new w out0 90
  have hb := below_sets (Nat.le_refl _) l 0 (Below.new w (.cells out0.toArray 90))
  have hs := hN.sets l 0 (by rw [out0_len, hV.len]; exact Nat.le_refl _)
  rw [spl_all (by rw [out0_len, hV.len])] at hs
  exact ⟨hN.room (by rw [out0_len]; exact Nat.le_refl _), hV.agg, hb, hs, hV.below hb⟩
theorem note_at {w w' : World} {g : Nat} {l nl : List Value} (hG : Blk w g l 90) (hL : 1 + 58 ≤ l.length) (h1 : cellsAt w ⟨g, 1, none⟩ 58 = nl) (hS : Below w.heap.size w w') : cellsAt w' ⟨g, 1, none⟩ 58 = nl ∧ Held w' ⟨g, 1, none⟩ 58 :=
  ⟨by rw [(hG.below hS).cells hL, ← hG.cells hL]; exact h1, (hG.below hS).held hL⟩
theorem below_le {B : Nat} {a b : World} (h : Below B a b) : a.heap.size ≤ b.heap.size := h.size
def TookB (w0 wx : World) (p r1 r2 N : Nat) (c : Cl) (o : Ou) (v8 v9 : Value) : Prop := ∃ x l r2', v8 = .pointer (some ⟨x, 0, none⟩) ∧ v9 = .int .i64 0 ∧ w0.heap.size ≤ x ∧ (r2' = r2 ∨ w0.heap.size ≤ r2') ∧ Blk wx x l 90 ∧ OutV wx l o ∧ CliAt wx p r1 r2' N c ∧ Only [p, r1, r2] w0 wx
theorem took_of {w0 we wf : World} {p r1 r2 r2' N : Nat} {c : Cl} {o : Ou} {l : List Value} (hT : Below w0.heap.size w0 we) (q0 : r2' = r2 ∨ we.heap.size ≤ r2') (q1 : CliAt wf p r1 r2' N c) (q2 : OutV wf l o) (q3 : Only [p, r1, r2] we wf) :
    TookB w0 ((wf.alloc (.cells out0.toArray 90)).setCells wf.heap.size 0 l) p r1 r2 N c o (.pointer (some ⟨wf.heap.size, 0, none⟩)) (.int .i64 0) := by
  obtain ⟨_, _, m3, m4, m5⟩ := put_out q2
  exact ⟨_, l, r2', rfl, rfl, Nat.le_trans hT.size q3.size, q0.imp id (Nat.le_trans hT.size), m4, m5, q1.below m3, ((Only.of_below hT).trans q3).trans (Only.of_below m3)⟩
theorem took_early {w0 we wf : World} {p r1 r2 r2' N x : Nat} {c : Cl} {o : Ou} {l : List Value} (hT : Below w0.heap.size w0 we) (q0 : r2' = r2 ∨ we.heap.size ≤ r2') (q1 : CliAt wf p r1 r2' N c) (q2 : OutV wf l o) (q3 : Only [p, r1, r2] we wf) (hX : Blk wf x out0 90) (hx : w0.heap.size ≤ x) :
    TookB w0 (wf.setCells x 0 l) p r1 r2 N c o (.pointer (some ⟨x, 0, none⟩)) (.int .i64 0) := by
  obtain ⟨k1, k2, k3, k4⟩ := give_end q1 q2 hX hx ((Only.of_below hT).trans q3)
  exact ⟨x, l, r2', rfl, rfl, hx, q0.imp id (Nat.le_trans hT.size), k3, k2, k1, k4⟩
theorem TookB.drw {w0 wx : World} {p r1 r2 N : Nat} {c : Cl} {o : Ou} {v8 v9 : Value} (h : TookB w0 wx p r1 r2 N c o v8 v9) : TookB w0 wx.drew p r1 r2 N c o v8 v9 := by
  obtain ⟨x, l, r2', e1, e2, e3, e4, e5, e6, e7, e8⟩ := h
  exact ⟨x, l, r2', e1, e2, e3, e4, e5.below (Below.refl _ _).drew, e6.below (Below.refl _ _).drew, e7.drw, e8.drw⟩
def MappedP (e : Int) (w : World) (en : Ending) (w' : World) : Prop :=
  ∃ p r1 r2 l, en = .returned (.tuple #[.pointer (some ⟨p, 0, none⟩), .agg l.toArray]) ∧ NoteV w' l (some (14, 31, lookW e)) ∧ CliAt w' p r1 r2 4 (mapC e 2 (fun _ => none)) ∧ Below w.heap.size w w' ∧ w.heap.size ≤ p ∧ w.heap.size ≤ r1 ∧ w.heap.size ≤ r2
set_option maxRecDepth 100000 in
set_option maxHeartbeats 4000000 in
theorem mapped_is (e : Int) (w : World) : Calls Try.prog 49 #[.int .i64 e] w (MappedP e w) := by
  go_enter Try.func49, Try.ntmps49
  go_upto_region 1 with (fail)
  obtain ⟨w1, hw1⟩ : ∃ x, x = w.alloc (.cells note0.toArray 81) := ⟨_, rfl⟩
  have hR : Blk w1 w.heap.size note0 81 := by rw [hw1]; exact Blk.new _ _ _
  have hb1 : Below w.heap.size w w1 := by rw [hw1]; exact Below.new _ _
  rw [← hw1]
  clear hw1
  have HR := Lib.hid hR
  have HB1 := Lib.hid hb1
  clear hR hb1
  go_wp2_with fail
  refine Calls.mono (directory_any _) ?_
  rintro en w2 ⟨a, rfl, hI, hb⟩
  have HR2 := Lib.hid (HR.out.below hb)
  have HB2 := Lib.hid (Below.step HB1.out hb)
  have HI := Lib.hid hI
  clear hI hb
  go_wp2_with fail
  refine Calls.mono (new_is 31 1 (some a) 4 w2 HI.out (fun h => by cases h) (by decide) (by decide)) ?_
  rintro en w3 ⟨p, r1, rfl, hp, hr1, hC, hb⟩
  have HC3 := Lib.hid (hC r1)
  have HR3 := Lib.hid (HR2.out.below hb)
  have HB3 := Lib.hid (Below.step HB2.out hb)
  have HP : Hid (w.heap.size < p ∧ w.heap.size < r1) := Lib.hid ⟨Nat.lt_of_lt_of_le HR2.out.lt hp, Nat.lt_of_lt_of_le HR2.out.lt hr1⟩
  clear hp hr1 hC hb
  go_wp2_with fail
  refine Calls.mono (read_is p r1 r1 0 (newC 31 1) 3 w3 HC3.out (by decide) (by decide) rfl (by decide) (by decide) (fun m hm => by cases hm)) ?_
  rintro en w4 ⟨l, r2, rfl, hr2, q1, q2, q3⟩
  rw [begin_ask.1] at q1
  rw [begin_ask.2] at q2
  obtain ⟨e1, e2, hb5, hG5, hV5⟩ := put_out q2
  have HO4 : Hid (Only [p] w3 w4) := Lib.hid q3
  have HR5 := Lib.hid ((q3.blk HR3.out (by have := HP.out; simp; omega)).below hb5)
  have HC5 := Lib.hid (q1.below hb5)
  have HB5 := Lib.hid (Below.step (Only.below HB3.out q3 (by have := HP.out; simp; omega) (Nat.le_refl _)) hb5)
  have HP5 : Hid (w.heap.size < p ∧ w.heap.size < r1 ∧ w.heap.size < r2 ∧ w4.heap.size > w.heap.size) := Lib.hid ⟨HP.out.1, HP.out.2, by have := HP.out; have := HB3.out.size; have := HR3.out.lt; omega, by have := HR3.out.lt; have := q3.size; omega⟩
  have HG5 := Lib.hid hG5
  have HV5 := Lib.hid hV5
  clear hb5 hG5 hV5 q1 q2 q3 hr2
  go_upto_region 5 with (fail)
  obtain ⟨w5, hw5⟩ : ∃ x, x = (w4.alloc (.cells out0.toArray 90)).setCells w4.heap.size 0 l := ⟨_, rfl⟩
  rw [← hw5] at HR5 HC5 HB5 HG5 HV5 ⊢
  obtain ⟨x6, hx6⟩ : ∃ x, x = w4.heap.size := ⟨_, rfl⟩
  rw [← hx6] at HP5 HG5 ⊢
  clear hw5 hx6 e1 e2
  obtain ⟨nl, ca, cc, hN, ⟨c59, c60⟩, ⟨f1, f2, f3, f4⟩, ⟨g1, g2⟩, k1, k2, k3⟩ := out_open HG5.out HV5.out
  go_wp2_with fail
  clear c59 c60 f1 f2 f3 f4 g1 g2 hN k1 k2 k3 nl ca cc
  refine Calls.mono (says_is l (againO (askS fun _ => none) (beganO callW)) 1 askW dirL (some ⟨w5.heap.size, 0, none⟩) 4 4 none 0 _ (HV5.out.below (Below.new _ _)) rfl rfl rfl rfl (il_four _ _ _ _ _) (BL.nil _ _)) ?_
  rintro en w6 ⟨rfl, hb6⟩
  have hS := Below.step (Below.new w5 (.cells #[.int .i64 1, .int .i64 2, .int .i64 3, .int .i64 4] 3)) hb6
  have HR6 := Lib.hid (HR5.out.below hS)
  have HC6 := Lib.hid (HC5.out.below hS)
  have HB6 := Lib.hid (Below.step HB5.out hS)
  have HG6 := Lib.hid (HG5.out.below hS)
  have HV6 := Lib.hid (HV5.out.below hS)
  clear hb6 hS HR5 HC5 HB5 HG5 HV5
  obtain ⟨nl, ca, cc, hN, ⟨c59, c60⟩, ⟨f1, f2, f3, f4⟩, ⟨g1, g2⟩, k1, k2, k3⟩ := out_open HG6.out HV6.out
  replace c59 : w6.cell? ⟨x6, 59, none⟩ = some (.bool true) := c59
  replace f1 : cellsAt w6 ⟨x6, 61, none⟩ 10 = wishL callW ca cc := f1
  have F3 : Hid (BL w6 ca callW.data) := Lib.hid f3
  clear c60 g1 g2 k1 k2 k3 hN f3 f4
  go_wp2_with fail
  refine Calls.mono (sameW_is callW ca cc none 0 w6 F3.out (BL.nil _ _)) ?_
  rintro en w7 ⟨rfl, hS⟩
  have HR7 := Lib.hid (HR6.out.below hS)
  have HC7 := Lib.hid (HC6.out.below hS)
  have HB7 := Lib.hid (Below.step HB6.out hS)
  have HG7 := Lib.hid (HG6.out.below hS)
  have HV7 := Lib.hid (HV6.out.below hS)
  clear hS HR6 HC6 HB6 HG6 HV6 F3 c59 f1 f2
  obtain ⟨nl2, ca2, cc2, hN, _, _, ⟨g1, g2⟩, _⟩ := out_open HG7.out HV7.out
  obtain ⟨b, ba, bc, rfl, hbb, _⟩ := hN
  replace hbb : Blk w7 b (wishL askW ba bc) 88 := hbb
  replace g1 : cellsAt w7 ⟨x6, 1, none⟩ 58 = noteL 1 31 askW.group askW.epoch (.slice (some ⟨b, 0, none⟩) 1 1) zeroA 0 0 := g1
  have HBB := Lib.hid hbb
  have G1 := Lib.hid g1
  have G2 := Lib.hid g2
  have HLT7 : Hid (p < w7.heap.size ∧ r1 < w7.heap.size ∧ r2 < w7.heap.size) := Lib.hid ⟨HC7.out.lt.1, HC7.out.lt.2.1, HC7.out.lt.2.2 (by decide)⟩
  have hS0 : Below w7.heap.size w7 w7 := Below.refl _ _
  have HL : Hid (1 + 58 ≤ l.length) := Lib.hid (by rw [HV7.out.len]; omega)
  clear hbb
  obtain ⟨y1, y2⟩ := note_at HG7.out HL.out G1.out (Below.new w7 (.cells out0.toArray 90))
  obtain ⟨y3, y4⟩ := note_at HG7.out HL.out G1.out (Below.step hS0.drew (Below.new w7.drew (.cells out0.toArray 90)))
  go_upto_region 7 with (fail)
  go_cut [8, 9] from 44 to 53 (fun v8 v9 wx => TookB w7 wx p r1 r2 2 (askS (upF (fun _ => none) 1 (some (servesA e)))) Ou.zero v8 v9)
  case first =>
    go_region_with
      (first
        | (go_at_call 64; go_loud ((with_reducible refine Calls.mono (serves_any e _) ?_); rintro en wd ⟨v, rfl, ⟨da, dc, na, nc, hv, ⟨hX, hXn⟩, hY, hYn⟩, hb⟩; have hv : v = .agg (ansL (servesA e) da dc na nc).toArray := hv; subst hv; have hS : Below w7.heap.size w7 wd := Below.step (by (first | with_reducible exact hS0 | with_reducible exact Below.drew hS0 | with_reducible exact Below.step hS0 (Below.new _ _) | with_reducible exact Below.step (Below.drew hS0) (Below.new _ _) | with_reducible exact Below.drew (Below.step hS0 (Below.new _ _)))) hb; obtain ⟨g1, g2⟩ := note_at HG7.out HL.out G1.out hS; obtain ⟨g3, g4⟩ := note_at HG7.out HL.out G1.out (Below.step hS (Below.new wd (.cells out0.toArray 90))); obtain ⟨g5, g6⟩ := note_at HG7.out HL.out G1.out (Below.step hS.drew (Below.new wd.drew (.cells out0.toArray 90))); (first | (have hx8 : Blk wd w7.heap.size out0 90 := Blk.below (Blk.new w7 out0 90) (by with_reducible exact hb)) | (have hx8 : Blk wd w7.heap.size out0 90 := Blk.below (Blk.new w7.drew out0 90) (by with_reducible exact hb)) | (have hx8 : Blk wd w7.heap.size out0 90 := Blk.below (Blk.below (Blk.new w7 out0 90) (Below.refl _ _).drew) (by with_reducible exact hb)) | skip)))
        | (go_at_call 50; go_loud ((with_reducible refine Calls.mono (reply_any 1 1 31 askW b ba bc (servesA e) da dc na nc _ ?_) ?_); (refine HBB.out.below ?_; (first | with_reducible exact hS | with_reducible exact Below.drew hS | with_reducible exact Below.step hS (Below.new _ _) | with_reducible exact Below.step (Below.drew hS) (Below.new _ _) | with_reducible exact Below.drew (Below.step hS (Below.new _ _)))); rintro en we ⟨rfl, hb2⟩; have hT0 : Below wd.heap.size wd we := Below.step (by (first | with_reducible exact (Below.refl wd.heap.size wd) | with_reducible exact Below.drew (Below.refl wd.heap.size wd) | with_reducible exact Below.step (Below.refl wd.heap.size wd) (Below.new _ _) | with_reducible exact Below.step (Below.drew (Below.refl wd.heap.size wd)) (Below.new _ _) | with_reducible exact Below.drew (Below.step (Below.refl wd.heap.size wd) (Below.new _ _)))) hb2; have hT : Below w7.heap.size w7 we := Below.step hS hT0; have hX' : BL we da (servesA e).data := hX.below hT0; have hY' : IL we na (servesA e).nodes := TL.below hY hT0; (first | (have hx8 := Blk.below hx8 hT0) | (have hx8 : Blk we wd.heap.size out0 90 := Blk.below (Blk.new wd out0 90) (by with_reducible exact hb2)) | (have hx8 : Blk we wd.heap.size out0 90 := Blk.below (Blk.new wd.drew out0 90) (by with_reducible exact hb2)) | (have hx8 : Blk we wd.heap.size out0 90 := Blk.below (Blk.below (Blk.new wd out0 90) (Below.refl _ _).drew) (by with_reducible exact hb2)) | skip)))
        | (go_at_call 52; go_loud ((with_reducible refine Calls.mono (take_askC p r1 r2 0 (fun _ => none) 1 (servesA e) da dc na nc _ ?_ (.inl rfl) (by decide) (fun k a h => by cases h) ?_ hXn ?_ hYn) ?_); (refine HC7.out.below ?_; (first | with_reducible exact hT | with_reducible exact Below.drew hT | with_reducible exact Below.step hT (Below.new _ _) | with_reducible exact Below.step (Below.drew hT) (Below.new _ _) | with_reducible exact Below.drew (Below.step hT (Below.new _ _)))); (refine hX'.below ?_; (first | with_reducible exact (Below.refl we.heap.size we) | with_reducible exact Below.drew (Below.refl we.heap.size we) | with_reducible exact Below.step (Below.refl we.heap.size we) (Below.new _ _) | with_reducible exact Below.step (Below.drew (Below.refl we.heap.size we)) (Below.new _ _) | with_reducible exact Below.drew (Below.step (Below.refl we.heap.size we) (Below.new _ _)))); (refine TL.below hY' ?_; (first | with_reducible exact (Below.refl we.heap.size we) | with_reducible exact Below.drew (Below.refl we.heap.size we) | with_reducible exact Below.step (Below.refl we.heap.size we) (Below.new _ _) | with_reducible exact Below.step (Below.drew (Below.refl we.heap.size we)) (Below.new _ _) | with_reducible exact Below.drew (Below.step (Below.refl we.heap.size we) (Below.new _ _)))); rintro en wf ⟨l', r2', rfl, q0, q1, q2, q3⟩; rw [(take_ask1 e).1] at q1; rw [(take_ask1 e).2] at q2; have p3 : Only [p, r1, r2] w7 wf := Only.trans (Only.of_below (by (first | with_reducible exact hT | with_reducible exact Below.drew hT | with_reducible exact Below.step hT (Below.new _ _) | with_reducible exact Below.step (Below.drew hT) (Below.new _ _) | with_reducible exact Below.drew (Below.step hT (Below.new _ _))))) q3; have p0 : r2' = r2 ∨ w7.heap.size ≤ r2' := q0.imp id (Nat.le_trans (below_le (B := w7.heap.size) (a := w7) (by (first | with_reducible exact hT | with_reducible exact Below.drew hT | with_reducible exact Below.step hT (Below.new _ _) | with_reducible exact Below.step (Below.drew hT) (Below.new _ _) | with_reducible exact Below.drew (Below.step hT (Below.new _ _)))))); (first | (have hx8 := Only.blk q3 (Blk.below hx8 (by (first | with_reducible exact (Below.refl we.heap.size we) | with_reducible exact Below.drew (Below.refl we.heap.size we) | with_reducible exact Below.step (Below.refl we.heap.size we) (Below.new _ _) | with_reducible exact Below.step (Below.drew (Below.refl we.heap.size we)) (Below.new _ _) | with_reducible exact Below.drew (Below.step (Below.refl we.heap.size we) (Below.new _ _))))) (by have := HLT7.out; have := hS.size; have := hT.size; simp; omega)) | (have hx8 : Blk wf we.heap.size out0 90 := Only.blk q3 (Blk.new we out0 90) (by have := HLT7.out; have := hT.size; simp; omega)) | (have hx8 : Blk wf we.heap.size out0 90 := Only.blk q3 (Blk.new we.drew out0 90) (by have := HLT7.out; have := hT.size; simp; omega)) | (have hx8 : Blk wf we.heap.size out0 90 := Only.blk q3 (Blk.below (Blk.new we out0 90) (Below.refl _ _).drew) (by have := HLT7.out; have := hT.size; simp; omega)) | skip); (first | (have m0 := hx8.room (o := 0) (n := 75) (by rw [out0_len]; exact Nat.le_refl _)) | skip); obtain ⟨m1, m2, _⟩ := put_out q2; obtain ⟨m3, _⟩ := put_out (q2.below (Below.refl _ _).drew))))
    all_goals
      have T1 := Lib.hid (took_of hS0 p0 q1 q2 p3)
      have T3 := Lib.hid (took_of hS0 p0 q1.drw (q2.below (Below.refl _ _).drew) p3.drw)
      (first
        | (have T2 := Lib.hid (took_early hS0 p0 q1 q2 p3 hx8 (by first | exact Nat.le_refl _ | exact hS.size | exact hT.size))
           have T4 := Lib.hid (took_early hS0 p0 q1.drw (q2.below (Below.refl _ _).drew) p3.drw (hx8.below (Below.refl _ _).drew) (by first | exact Nat.le_refl _ | exact hS.size | exact hT.size)))
        | skip)
      go_wp2_with fail
      go_meet
      first
        | with_reducible exact T1.out
        | with_reducible exact T2.out
        | with_reducible exact T3.out
        | with_reducible exact T4.out
        | with_reducible exact T1.out.drw
        | with_reducible exact T2.out.drw
  case rest =>
    obtain ⟨x8, l8, r3, rfl, rfl, hx8, hr3, hG8, hV8, hC8, hO8⟩ := hcut
    obtain ⟨hG6, hV6⟩ := hO8.out3 HC7.out (by decide) HG7.out HV7.out
    obtain ⟨w9, hw9⟩ : ∃ x, x = wc := ⟨_, rfl⟩
    rw [← hw9] at hG8 hV8 hC8 hO8 hG6 hV6 ⊢
    clear hw9
    have HG9 := Lib.hid hG6
    have HV9 := Lib.hid hV6
    have HC9 := Lib.hid hC8
    have HGQ := Lib.hid hG8
    have HVQ := Lib.hid hV8
    have HBC := Lib.hid ((hO8.keeps3 HC7.out (by decide)).blk HBB.out)
    have HR9 := Lib.hid (hO8.blk HR7.out (by have := HP5.out; simp; omega))
    have HB9 := Lib.hid (Only.below HB7.out hO8 (by have := HP5.out; simp; omega) (Nat.le_refl _))
    have HP9 : Hid (w.heap.size < r3) := Lib.hid (by have := HP5.out; have := HB7.out.size; have := HR7.out.lt; omega)
    have G1' : Hid (cellsAt w9 ⟨x6, 1, none⟩ 58 = noteL 1 31 askW.group askW.epoch (.slice (some ⟨b, 0, none⟩) 1 1) zeroA 0 0) := Lib.hid (by rw [HG9.out.cells HL.out, ← HG7.out.cells HL.out]; exact G1.out)
    have HLT9 : Hid (p < w9.heap.size ∧ r1 < w9.heap.size ∧ r3 < w9.heap.size) := Lib.hid ⟨HC9.out.lt.1, HC9.out.lt.2.1, HC9.out.lt.2.2 (show (1 : Int) ≠ 0 by decide)⟩
    have hZ0 : Below w9.heap.size w9 w9 := Below.refl _ _
    have HKY : Hid (∀ k a, upF (fun _ => none) 1 (some (servesA e)) k = some a → k ∈ dirL) := Lib.hid (fun k a h => by
      unfold upF at h
      split at h
      · rename_i hk; rw [hk]; decide
      · cases h)
    clear hG8 hV8 hC8 hO8 hG6 hV6 hx8 hr3 y1 y2 y3 y4 hS0 g1 g2
    replace G1' := G1'
    obtain ⟨g1, g2⟩ := note_at HG9.out HL.out G1'.out hZ0
    obtain ⟨y1, y2⟩ := note_at HG9.out HL.out G1'.out (Below.new w9 (.cells out0.toArray 90))
    obtain ⟨y3, y4⟩ := note_at HG9.out HL.out G1'.out (Below.step hZ0.drew (Below.new w9.drew (.cells out0.toArray 90)))
    go_upto_region 8 with (fail)
    go_cut [10, 11] from 54 to 63 (fun v8 v9 wx => TookB w9 wx p r1 r3 4 (mapC e 2 (fun _ => none)) (againO (mapC e 2 (fun _ => none)) Ou.zero) v8 v9)
    case first =>
      go_region_with
        (first
          | (go_at_call 64; go_loud ((with_reducible refine Calls.mono (serves_any e _) ?_); rintro en wd ⟨v, rfl, ⟨da, dc, na, nc, hv, ⟨hX, hXn⟩, hY, hYn⟩, hb⟩; have hv : v = .agg (ansL (servesA e) da dc na nc).toArray := hv; subst hv; have hS : Below w9.heap.size w9 wd := Below.step (by (first | with_reducible exact hZ0 | with_reducible exact Below.drew hZ0 | with_reducible exact Below.step hZ0 (Below.new _ _) | with_reducible exact Below.step (Below.drew hZ0) (Below.new _ _) | with_reducible exact Below.drew (Below.step hZ0 (Below.new _ _)))) hb; obtain ⟨g1, g2⟩ := note_at HG9.out HL.out G1'.out hS; obtain ⟨g3, g4⟩ := note_at HG9.out HL.out G1'.out (Below.step hS (Below.new wd (.cells out0.toArray 90))); obtain ⟨g5, g6⟩ := note_at HG9.out HL.out G1'.out (Below.step hS.drew (Below.new wd.drew (.cells out0.toArray 90))); (first | (have hx8 : Blk wd w9.heap.size out0 90 := Blk.below (Blk.new w9 out0 90) (by with_reducible exact hb)) | (have hx8 : Blk wd w9.heap.size out0 90 := Blk.below (Blk.new w9.drew out0 90) (by with_reducible exact hb)) | (have hx8 : Blk wd w9.heap.size out0 90 := Blk.below (Blk.below (Blk.new w9 out0 90) (Below.refl _ _).drew) (by with_reducible exact hb)) | skip)))
          | (go_at_call 50; go_loud ((with_reducible refine Calls.mono (reply_any 2 1 31 askW b ba bc (servesA e) da dc na nc _ ?_) ?_); (refine HBC.out.below ?_; (first | with_reducible exact hS | with_reducible exact Below.drew hS | with_reducible exact Below.step hS (Below.new _ _) | with_reducible exact Below.step (Below.drew hS) (Below.new _ _) | with_reducible exact Below.drew (Below.step hS (Below.new _ _)))); rintro en we ⟨rfl, hb2⟩; have hT0 : Below wd.heap.size wd we := Below.step (by (first | with_reducible exact (Below.refl wd.heap.size wd) | with_reducible exact Below.drew (Below.refl wd.heap.size wd) | with_reducible exact Below.step (Below.refl wd.heap.size wd) (Below.new _ _) | with_reducible exact Below.step (Below.drew (Below.refl wd.heap.size wd)) (Below.new _ _) | with_reducible exact Below.drew (Below.step (Below.refl wd.heap.size wd) (Below.new _ _)))) hb2; have hT : Below w9.heap.size w9 we := Below.step hS hT0; have hX' : BL we da (servesA e).data := hX.below hT0; have hY' : IL we na (servesA e).nodes := TL.below hY hT0; (first | (have hx8 := Blk.below hx8 hT0) | (have hx8 : Blk we wd.heap.size out0 90 := Blk.below (Blk.new wd out0 90) (by with_reducible exact hb2)) | (have hx8 : Blk we wd.heap.size out0 90 := Blk.below (Blk.new wd.drew out0 90) (by with_reducible exact hb2)) | (have hx8 : Blk we wd.heap.size out0 90 := Blk.below (Blk.below (Blk.new wd out0 90) (Below.refl _ _).drew) (by with_reducible exact hb2)) | skip)))
          | (go_at_call 52; go_loud ((with_reducible refine Calls.mono (take_askC p r1 r3 2 (upF (fun _ => none) 1 (some (servesA e))) 2 (servesA e) da dc na nc _ ?_ (.inr rfl) (by decide) HKY.out ?_ hXn ?_ hYn) ?_); (refine HC9.out.below ?_; (first | with_reducible exact hT | with_reducible exact Below.drew hT | with_reducible exact Below.step hT (Below.new _ _) | with_reducible exact Below.step (Below.drew hT) (Below.new _ _) | with_reducible exact Below.drew (Below.step hT (Below.new _ _)))); (refine hX'.below ?_; (first | with_reducible exact (Below.refl we.heap.size we) | with_reducible exact Below.drew (Below.refl we.heap.size we) | with_reducible exact Below.step (Below.refl we.heap.size we) (Below.new _ _) | with_reducible exact Below.step (Below.drew (Below.refl we.heap.size we)) (Below.new _ _) | with_reducible exact Below.drew (Below.step (Below.refl we.heap.size we) (Below.new _ _)))); (refine TL.below hY' ?_; (first | with_reducible exact (Below.refl we.heap.size we) | with_reducible exact Below.drew (Below.refl we.heap.size we) | with_reducible exact Below.step (Below.refl we.heap.size we) (Below.new _ _) | with_reducible exact Below.step (Below.drew (Below.refl we.heap.size we)) (Below.new _ _) | with_reducible exact Below.drew (Below.step (Below.refl we.heap.size we) (Below.new _ _)))); rintro en wf ⟨l', r2', rfl, q0, q1, q2, q3⟩; rw [(take_ask2 e).1] at q1; rw [(take_ask2 e).2] at q2; have p3 : Only [p, r1, r3] w9 wf := Only.trans (Only.of_below (by (first | with_reducible exact hT | with_reducible exact Below.drew hT | with_reducible exact Below.step hT (Below.new _ _) | with_reducible exact Below.step (Below.drew hT) (Below.new _ _) | with_reducible exact Below.drew (Below.step hT (Below.new _ _))))) q3; have p0 : r2' = r3 ∨ w9.heap.size ≤ r2' := q0.imp id (Nat.le_trans (below_le (B := w9.heap.size) (a := w9) (by (first | with_reducible exact hT | with_reducible exact Below.drew hT | with_reducible exact Below.step hT (Below.new _ _) | with_reducible exact Below.step (Below.drew hT) (Below.new _ _) | with_reducible exact Below.drew (Below.step hT (Below.new _ _)))))); (first | (have hx8 := Only.blk q3 (Blk.below hx8 (by (first | with_reducible exact (Below.refl we.heap.size we) | with_reducible exact Below.drew (Below.refl we.heap.size we) | with_reducible exact Below.step (Below.refl we.heap.size we) (Below.new _ _) | with_reducible exact Below.step (Below.drew (Below.refl we.heap.size we)) (Below.new _ _) | with_reducible exact Below.drew (Below.step (Below.refl we.heap.size we) (Below.new _ _))))) (by have := HLT9.out; have := hS.size; have := hT.size; simp; omega)) | (have hx8 : Blk wf we.heap.size out0 90 := Only.blk q3 (Blk.new we out0 90) (by have := HLT9.out; have := hT.size; simp; omega)) | (have hx8 : Blk wf we.heap.size out0 90 := Only.blk q3 (Blk.new we.drew out0 90) (by have := HLT9.out; have := hT.size; simp; omega)) | (have hx8 : Blk wf we.heap.size out0 90 := Only.blk q3 (Blk.below (Blk.new we out0 90) (Below.refl _ _).drew) (by have := HLT9.out; have := hT.size; simp; omega)) | skip); (first | (have m0 := hx8.room (o := 0) (n := 75) (by rw [out0_len]; exact Nat.le_refl _)) | skip); obtain ⟨m1, m2, _⟩ := put_out q2; obtain ⟨m3, _⟩ := put_out (q2.below (Below.refl _ _).drew))))
      all_goals
        have T1 := Lib.hid (took_of hZ0 p0 q1 q2 p3)
        have T3 := Lib.hid (took_of hZ0 p0 q1.drw (q2.below (Below.refl _ _).drew) p3.drw)
        (first
          | (have T2 := Lib.hid (took_early hZ0 p0 q1 q2 p3 hx8 (by first | exact Nat.le_refl _ | exact hS.size | exact hT.size))
             have T4 := Lib.hid (took_early hZ0 p0 q1.drw (q2.below (Below.refl _ _).drew) p3.drw (hx8.below (Below.refl _ _).drew) (by first | exact Nat.le_refl _ | exact hS.size | exact hT.size)))
          | skip)
        go_wp2_with fail
        go_meet
        first
          | with_reducible exact T1.out
          | with_reducible exact T2.out
          | with_reducible exact T3.out
          | with_reducible exact T4.out
          | with_reducible exact T1.out.drw
          | with_reducible exact T2.out.drw
    case rest =>
      obtain ⟨x10, l10, r4, rfl, rfl, hx10, hr4, hG10, hV10, hC10, hO10⟩ := hcut
      obtain ⟨hG8, hV8⟩ := hO10.out3 HC9.out (show (1 : Int) ≠ 0 by decide) HGQ.out HVQ.out
      obtain ⟨w11, hw11⟩ : ∃ x, x = wc := ⟨_, rfl⟩
      rw [← hw11] at hG10 hV10 hC10 hO10 hG8 hV8 ⊢
      clear hw11
      have HGA := Lib.hid hG8
      have HVA := Lib.hid hV8
      have HGB := Lib.hid hG10
      have HVB := Lib.hid hV10
      have HCB := Lib.hid hC10
      have HRB := Lib.hid (hO10.blk HR9.out (by have := HP5.out; have := HP9.out; simp; omega))
      have HBB' := Lib.hid (Only.below HB9.out hO10 (by have := HP5.out; have := HP9.out; simp; omega) (Nat.le_refl _))
      have HPB : Hid (w.heap.size < r4) := Lib.hid (by have := HP9.out; have := HB9.out.size; have := HR9.out.lt; omega)
      clear hG8 hV8 hG10 hV10 hC10 hO10 hx10 hr4 g1 g2
      have HLA : Hid (l8.length = 75) := Lib.hid HVA.out.len
      have HLB : Hid (l10.length = 75) := Lib.hid HVB.out.len
      have hQ0 : Below w11.heap.size w11 w11 := Below.refl _ _
      obtain ⟨g1, g2⟩ := out_at HGA.out HLA.out hQ0
      go_upto_region 9 with (fail)
      go_cut [76] from 64 to 75 (fun v76 wx => FlagB w11 wx false v76)
      case first =>
        go_region_with
          (first
            | (go_at_call 53; go_loud ((with_reducible refine Calls.mono (quiet_is l8 Ou.zero _ ?_ rfl rfl rfl) ?_); (refine HVA.out.below ?_; (first | with_reducible exact hQ0 | with_reducible exact Below.drew hQ0 | with_reducible exact Below.step hQ0 (Below.new _ _) | with_reducible exact Below.step (Below.drew hQ0) (Below.new _ _) | with_reducible exact Below.drew (Below.step hQ0 (Below.new _ _)))); rintro en wd ⟨rfl, hb⟩; have hS : Below w11.heap.size w11 wd := Below.step (by (first | with_reducible exact hQ0 | with_reducible exact Below.drew hQ0 | with_reducible exact Below.step hQ0 (Below.new _ _) | with_reducible exact Below.step (Below.drew hQ0) (Below.new _ _) | with_reducible exact Below.drew (Below.step hQ0 (Below.new _ _)))) hb; obtain ⟨g3, g4⟩ := out_at HGB.out HLB.out hS))
            | (go_at_call 56; go_loud ((with_reducible refine Calls.mono (five_any _) ?_); rintro en we ⟨a5, rfl, hI5, hb5⟩; have hT : Below w11.heap.size w11 we := Below.step (by (first | with_reducible exact hS | with_reducible exact Below.drew hS | with_reducible exact Below.step hS (Below.new _ _) | with_reducible exact Below.step (Below.drew hS) (Below.new _ _) | with_reducible exact Below.drew (Below.step hS (Below.new _ _)))) hb5; obtain ⟨g5, g6⟩ := out_at HGB.out HLB.out hT))
            | (go_at_call 55; go_loud ((with_reducible refine Calls.mono (says_look e l10 a5 _ ?_ ?_) ?_); (refine HVB.out.below ?_; (first | with_reducible exact hT | with_reducible exact Below.drew hT | with_reducible exact Below.step hT (Below.new _ _) | with_reducible exact Below.step (Below.drew hT) (Below.new _ _) | with_reducible exact Below.drew (Below.step hT (Below.new _ _)))); (refine TL.below hI5 ?_; (first | with_reducible exact (Below.refl we.heap.size we) | with_reducible exact Below.drew (Below.refl we.heap.size we) | with_reducible exact Below.step (Below.refl we.heap.size we) (Below.new _ _) | with_reducible exact Below.step (Below.drew (Below.refl we.heap.size we)) (Below.new _ _) | with_reducible exact Below.drew (Below.step (Below.refl we.heap.size we) (Below.new _ _)))); rintro en wf ⟨rfl, hb6⟩; have hU : Below w11.heap.size w11 wf := Below.step (by (first | with_reducible exact hT | with_reducible exact Below.drew hT | with_reducible exact Below.step hT (Below.new _ _) | with_reducible exact Below.step (Below.drew hT) (Below.new _ _) | with_reducible exact Below.drew (Below.step hT (Below.new _ _)))) hb6)))
        all_goals
          go_wp2_with fail
          go_meet
          exact ⟨rfl, hU⟩
      case rest =>
        obtain ⟨rfl, hS⟩ := hcut
        have hGC := HGB.out.below hS
        have hVC := HVB.out.below hS
        obtain ⟨nl, ca3, cc3, hN, _, _, ⟨g3, g4⟩, _⟩ := out_open hGC hVC
        have hRC := HRB.out.below hS
        have e3 := hRC.room (o := 0) (n := 58) (Nat.le_refl _)
        have e4 : isAgg 58 (.agg nl.toArray) := agg_of hN.len hN.one
        have HCC := Lib.hid (HCB.out.below hS)
        have HBC' := Lib.hid (Below.step HBB'.out hS)
        have HN := Lib.hid hN
        have HRC := Lib.hid hRC
        clear hGC hVC hN hRC hS g1 g2
        have hD := Below.refl wc.heap.size wc
        have hRD := HRC.out.below hD.drew
        have hss := hRD.sets nl 0 (by rw [HN.out.len]; exact Nat.le_refl _)
        rw [spl_all (by rw [HN.out.len]; rfl)] at hss
        have hlow := HRC.out.lt
        have hbz : Below w.heap.size w (wc.drew.setCells w.heap.size 0 nl) := below_sets (Nat.le_refl _) nl 0 HBC'.out.drew
        have hkz : Keeps wc (wc.drew.setCells w.heap.size 0 nl) := (Keeps.of_below hD.drew).trans (Keeps.sets hRD (by decide) 0 nl)
        have hoz : Only [w.heap.size] wc (wc.drew.setCells w.heap.size 0 nl) := Only.setCells (.inl (by simp)) nl 0 (Only.of_below hD.drew)
        have hCz : CliAt (wc.drew.setCells w.heap.size 0 nl) p r1 r4 4 (mapC e 2 (fun _ => none)) := by
          have h0 := HCC.out
          have hn : p ≠ w.heap.size ∧ r1 ≠ w.heap.size ∧ r4 ≠ w.heap.size := by have := HP5.out; have := HPB.out; omega
          exact h0.same (hoz.block _ h0.lt.1 (by simpa using hn.1)) (hoz.block _ h0.lt.2.1 (by simpa using hn.2.1)) (fun hw => hoz.block _ (h0.lt.2.2 hw) (by simpa using hn.2.2)) hkz
        have R0 := Lib.hid (load_blk Try.underlying81 rfl z81 hss HN.out.len)
        have HE : Hid (MappedP e w (.returned (.tuple #[.pointer (some ⟨p, 0, none⟩), .agg nl.toArray])) (wc.drew.setCells w.heap.size 0 nl)) := Lib.hid ⟨p, r1, r4, nl, rfl, HN.out.keeps hkz, hCz, hbz, by have := HP5.out; omega, by have := HP5.out; omega, by have := HPB.out; omega⟩
        clear hD hRD hss hlow hbz hkz hoz hCz
        go_upto_region 11 with (fail)
        go_region
        go_wp2_with fail
        have r0 := R0.out
        refine bodyPost_ret (v := .tuple #[.pointer (some ⟨p, 0, none⟩), .agg nl.toArray]) (by simp [results, Try.results49, asAddr, r0]) rfl ?_
        exact HE.out
end Go.Proofs.Ytldcpnabgpjgiaa.Walks
