/-
  The document's journal: the log is cleared.
-/
import Derived.Test.YtdhidcoglioalaaGreatM36
namespace Go.Proofs.YtdhidcoglioalaaGreat.Walks
open Go.RowKit Plain Jn
set_option linter.unusedVariables false
theorem run_stop {l k : List Wk} {x : Wk} {P : Pl} (h : runE l P = 0) (hx : x.err (runP l P) ≠ 0) : runE (l ++ x :: k) P = x.err (runP l P) ∧ runP (l ++ x :: k) P = x.act (runP l P) := by
  rw [runE_append, runP_append]
  simp [h, runE, runP, hx]
theorem run_on {l : List Wk} {x : Wk} {P : Pl} (h : runE l P = 0) (hx : x.err (runP l P) = 0) : runE (l ++ [x]) P = 0 ∧ runP (l ++ [x]) P = x.act (runP l P) := by
  rw [runE_append, runP_append]
  simp [h, runE, runP, hx]
def homesW (L : Nat) (l : PL) : List Wk := l.map fun x => Wk.wr (2 + L + x.1) (packS (homeSct x.1 x.2))
theorem homesW_take (L : Nat) (l : PL) {k : Nat} (h : k < l.length) : homesW L (l.take (k + 1)) = homesW L (l.take k) ++ [Wk.wr (2 + L + l[k].1) (packS (homeSct l[k].1 l[k].2))] := by
  unfold homesW
  rw [List.take_succ_eq_append_getElem h, List.map_append]
  rfl
def headWk (J : Jn) : Wk := .wr (J.head % 2) (packS (headSct (J.head + 1) J.log J.at_ J.turn))
theorem clearW_eq (J : Jn) (n : Nat) : J.clearW n = homesW J.log (pendN J.pend (n - 2 - J.log)) ++ [.fl, headWk J, .fl] := by
  rw [← pendN_keys, homesW, List.map_map]
  rfl
theorem homesW_split (L : Nat) (l : PL) {k : Nat} (h : k < l.length) (r : List Wk) : homesW L l ++ r = homesW L (l.take k) ++ Wk.wr (2 + L + l[k].1) (packS (homeSct l[k].1 l[k].2)) :: (homesW L (l.drop (k + 1)) ++ r) := by
  have e : l = l.take k ++ l[k] :: l.drop (k + 1) := by rw [← List.drop_eq_getElem_cons h, List.take_append_drop]
  conv => lhs; rw [e]
  unfold homesW
  rw [List.map_append, List.map_cons, List.append_assoc, List.cons_append]
/-- What a clearing leaves. -/
def endJ (J : Jn) (z : Int) : Jn := if z ≠ 0 then J.brk else J.cleared
theorem endJ_brk {J : Jn} {z : Int} (h : (z != 0) = true) : endJ J z = J.brk := if_pos (by simpa using h)
theorem endJ_zero (J : Jn) : endJ J 0 = J.cleared := rfl
section
variable {w w' : World} {m : Nat} {r : RLoc} {J J' : Jn} {P P' : Pl}
theorem rj_clearBr (h : RJ w m r J P) (hb : J.broken = true) : Calls Tryz.prog 87 #[mv m] w fun e w' => e = .returned (.int .i64 50) ∧ w = w' := by
  have c7 := h.c7
  rw [hb] at c7
  clear h hb
  go_enter Tryz.func87, Tryz.ntmps87
  go_wp2
  go_ret
  exact ⟨rfl, rfl⟩
/-- A sector's bytes, written down in fresh memory. -/
theorem ry_pack (w : World) (r : RLoc) (P : Pl) (h : RefAt w r P) (k t n : Int) (d : List Byte) (da : Option Addr) (dn dc : Nat) (hdl : d.length = dn) (h48 : dn ≤ 48) (hB : Bys w da d) (hdc : da = none → dc = 0)
    (ht : -9223372036854775808 ≤ t ∧ t ≤ 9223372036854775807) (hn : -9223372036854775808 ≤ n ∧ n ≤ 9223372036854775807) (s : Sct) (hs : sctOf k t n d = s) :
    Calls Tryz.prog 112 #[.agg #[.int .i64 k, .int .i64 t, .int .i64 n, .slice da dn dc]] w fun e w' => ∃ gp cp, e = .returned (.slice (some ⟨gp, 0, none⟩) 64 cp) ∧ Bys w' (some ⟨gp, 0, none⟩) (packL s) ∧ gp ∉ r.R ∧ Below w.heap.size w w' := by
  subst hs
  refine Calls.mono (rj_pack w k t n da dc d dn hdl h48 hB hdc ht hn) ?_
  rintro e w'' ⟨u, rfl, ho, hb'⟩
  obtain ⟨gp, cp, rfl, _, _, hge, _, hBp, _⟩ := ho.at_ (by rw [packL_length]; omega) (by rw [packL_length]; omega)
  rw [packL_length]
  exact ⟨gp, cp, rfl, hBp, fun hm => by have := h.x.lt _ hm; omega, hb'⟩
theorem ry_head (w : World) (r : RLoc) (P : Pl) (h : RefAt w r P) (turn log at_ next : Nat) (ht : turn ≤ 9223372036854775807) (hl : log ≤ 9223372036854775807) (ha : at_ ≤ 9223372036854775807) (hn : next ≤ 9223372036854775807) :
    Calls Tryz.prog 110 #[.int .i64 turn, .int .i64 log, .int .i64 at_, .int .i64 next] w fun e w' => ∃ gp cp, e = .returned (.slice (some ⟨gp, 0, none⟩) 64 cp) ∧ Bys w' (some ⟨gp, 0, none⟩) (packL (headSct turn log at_ next)) ∧ gp ∉ r.R ∧ Below w.heap.size w w' := by
  refine Calls.mono (rj_head w turn log at_ next ht hl ha hn) ?_
  rintro e w'' ⟨u, rfl, ho, hb'⟩
  obtain ⟨gp, cp, rfl, _, _, hge, _, hBp, _⟩ := ho.at_ (by rw [packL_length]; omega) (by rw [packL_length]; omega)
  rw [packL_length]
  exact ⟨gp, cp, rfl, hBp, fun hm => by have := h.x.lt _ hm; omega, hb'⟩
/-- The journal's k-th that is pending, in memory. -/
theorem RJ.pend_at (h : RJ w m r J P) : ∃ a6 cp6, w.cell? ⟨m, 6, none⟩ = some (.slice a6 (pendN J.pend (P.n - 2 - J.log)).length cp6) ∧ ∀ k (hk : k < (pendN J.pend (P.n - 2 - J.log)).length), ∃ g6, a6 = some ⟨g6, 0, none⟩ ∧ g6 < w.heap.size ∧ g6 ∉ r.N ∧
    ∃ ya yc, w.cell? ⟨g6, k * 2, none⟩ = some (.int .i64 ((pendN J.pend (P.n - 2 - J.log))[k].1 : Int)) ∧ w.cell? ⟨g6, k * 2 + 1, none⟩ = some (.slice ya 48 yc) ∧ Dat w r.N (.slice ya 48 yc) (bytesB (pendN J.pend (P.n - 2 - J.log))[k].2) := by
  obtain ⟨v6, c6, hq, hn⟩ := h.c6
  unfold pendP at hq
  obtain ⟨l, hl⟩ : ∃ l, l = pendN J.pend (P.n - 2 - J.log) := ⟨_, rfl⟩
  rw [← hl] at hq ⊢
  obtain ⟨a6, cp6, e6, _⟩ := hq.slice
  rw [putsP_length] at e6
  subst e6
  refine ⟨a6, cp6, c6, fun k hk => ?_⟩
  rcases hq.form with ⟨e, _⟩ | ⟨g, c', e, _, _, hg, _, hc⟩
  · have := congrArg List.length e
    rw [putsP_length] at this
    simp at this
    rw [this] at hk
    simp at hk
  · simp only [Value.slice.injEq] at e
    obtain ⟨rfl, _, _⟩ := e
    obtain ⟨ya, yc, b1, b2, b3⟩ := hc k _ (putsP_get (List.getElem?_eq_getElem hk))
    simp only [bytesB_length] at b2 b3
    exact ⟨g, rfl, hg, hn g rfl, ya, yc, b1, b2, b3⟩
set_option maxRecDepth 10000 in
set_option maxHeartbeats 4000000 in
theorem rj_clearOn (h : RJ w m r J P) (hb : J.broken = false) (hh : J.head < 4611686018427387904) : Calls Tryz.prog 87 #[mv m] w fun e w' => e = .returned (.int .i64 (runE (J.clearW P.n) P)) ∧ RJ w' m r (endJ J (runE (J.clearW P.n) P)) (runP (J.clearW P.n) P) ∧ Only (m :: r.R) w w' := by
  have c7 := h.c7
  have c1 := h.c1
  rw [hb] at c7
  have hlog := h.ok.logn
  have hn4 := h.rf.ok.most
  obtain ⟨l, hl⟩ : ∃ l, l = pendN J.pend (P.n - 2 - J.log) := ⟨_, rfl⟩
  have hln : l.length ≤ 4096 := by rw [hl]; have := pendN_length J.pend (P.n - 2 - J.log); omega
  obtain ⟨n, hnn⟩ : ∃ n, n = l.length := ⟨_, rfl⟩
  have hnl : n ≤ 4096 := by omega
  obtain ⟨L, hL⟩ : ∃ L, L = J.log := ⟨_, rfl⟩
  rw [← hL] at c1
  have hL4 : L ≤ 4096 := by omega
  have HCW : Hid (J.clearW P.n = homesW L l ++ [.fl, headWk J, .fl]) := Lib.hid (by rw [clearW_eq, hl, hL])
  have HN := Lib.hid hnn
  have HLL := Lib.hid hL
  have HBr := Lib.hid hb
  have H := Lib.hid h
  have HPn : Hid (∀ P' : Pl, P'.n = P.n → pendN J.pend (P'.n - 2 - J.log) = l) := Lib.hid fun P' e => by rw [e, hl]
  have HMem : Hid (∀ y ∈ l, y.1 < 4096 ∧ Flat y.2) := Lib.hid fun y hy => by
    rw [hl] at hy
    obtain ⟨h1, h2⟩ := pendN_mem.1 hy
    exact ⟨by omega, h.ok.flat _ _ h2⟩
  have HHd := Lib.hid hh
  have hdist : ((2 : Int) + (L : Int)) = ((2 + L : Nat) : Int) := by omega
  obtain ⟨hm, hhm⟩ : ∃ hm : Nat, hm = 2 + L := ⟨_, rfl⟩
  rw [← hhm] at hdist
  have HHM := Lib.hid hhm
  have hm4 : hm ≤ 4098 := by omega
  clear h hl hln hnn hL hb hhm hh hlog hn4
  go_enter Tryz.func87, Tryz.ntmps87
  go_wp2_with fail
  clear hdist
  go_loopw [4] (fun vi wr => ∃ k : Nat, k ≤ n ∧ vi = .int .i64 k ∧ ∃ Q, Hid (runE (homesW L (l.take k)) P = 0 ∧ runP (homesW L (l.take k)) P = Q) ∧ Hid (RJ wr m r J Q) ∧ Hid (Only (m :: r.R) w wr)) (fun i _ => n - (RowKit.intOf i).toNat)
  case atStart => exact ⟨0, by omega, rfl, P, Lib.hid ⟨rfl, rfl⟩, H, Lib.hid (Only.refl _ _)⟩
  case round =>
    obtain ⟨k, hk, rfl, Q, HR, HJ, HO⟩ := hrel
    have hQn : Q.n = P.n := by rw [← HR.out.2]; exact runP_n _ _
    obtain ⟨a6, cp6, c6, hat⟩ := HJ.out.pend_at
    rw [HPn.out Q hQn] at c6 hat
    rw [← HN.out] at c6
    by_cases hlt : k < n
    · have hkl : k < l.length := by have := HN.out; omega
      obtain ⟨g6, rfl, hg6, hg6n, ya, yc, p0, p1, hd⟩ := hat k hkl
      have hts := homesW_take L l hkl
      have hsp := homesW_split L l hkl [.fl, headWk J, .fl]
      have hyb := HMem.out l[k] (List.getElem_mem hkl)
      obtain ⟨y, hy⟩ : ∃ y, y = l[k] := ⟨_, rfl⟩
      rw [← hy] at p0 hd hts hsp hyb
      obtain ⟨yk, yb⟩ := y
      simp only at p0 hd hts hsp hyb
      obtain ⟨hy4, hyf⟩ := hyb
      have HTs := Lib.hid hts
      have HSp := Lib.hid hsp
      have HQn := Lib.hid hQn
      have HD := Lib.hid hd
      have HFl := Lib.hid hyf
      clear hat hkl hy hts hsp hd hQn hyf hg6n
      go_upto_region 8 with (fail)
      obtain ⟨w3, hw3⟩ : ∃ x, x = wr.alloc (.cells #[.int .i64 (yk : Int), .slice ya 48 yc] 150) := ⟨_, rfl⟩
      obtain ⟨g5, hg5⟩ : ∃ x, x = wr.heap.size := ⟨_, rfl⟩
      rw [← hw3, ← hg5]
      have hb3 : Below wr.heap.size wr w3 := by rw [hw3]; exact Below.new _ _
      have q0 : w3.cell? ⟨g5, 0, none⟩ = some (.int .i64 (yk : Int)) := by rw [hw3, hg5, cell_new]; rfl
      have q1 : w3.cell? ⟨g5, 1, none⟩ = some (.slice ya 48 yc) := by rw [hw3, hg5, cell_new]; rfl
      have hg53 : g5 < w3.heap.size := by rw [hw3, hg5]; simp
      have HB3 := Lib.hid hb3
      have HJ3 := Lib.hid (HJ.out.below hb3)
      have HD3 := Lib.hid (HD.out.below hb3)
      have hm0 := HJ3.out.c0
      have hg5r : g5 ∉ r.R := fun hmm => by have := HJ.out.rf.x.lt _ hmm; rw [hg5] at this; omega
      obtain ⟨ha, hha⟩ : ∃ ha : Nat, ha = hm + yk := ⟨_, rfl⟩
      have hadd : (hm : Int) + (yk : Int) = (ha : Int) := by omega
      have hwA : IntKind.i64.wrap ((hm : Int) + (yk : Int)) = (ha : Int) := by rw [IntWalk.i64_in (n := (hm : Int) + (yk : Int)) (by omega)]; exact hadd
      have hwC := IntWalk.i64_in (n := (ha : Int)) (by omega)
      have hha2 : ha = 2 + L + yk := by rw [hha, HHM.out]
      obtain ⟨wk, hwk⟩ : ∃ wk, wk = Wk.wr ha (packS (homeSct yk yb)) := ⟨_, rfl⟩
      rw [← hha2, ← hwk] at HTs HSp
      obtain ⟨z, hz⟩ : ∃ z, z = wk.err Q := ⟨_, rfl⟩
      have MK : Hid (∀ w', Below w3.heap.size w3 w' → w'.cell? ⟨m, 0, none⟩ = some (rv r) ∧ w'.cell? ⟨g5, 0, none⟩ = some (.int .i64 (yk : Int)) ∧ w'.cell? ⟨g5, 1, none⟩ = some (.slice ya 48 yc)) := Lib.hid fun w' hb => ⟨keepc hb hm0, keepb hb hg53 q0, keepb hb hg53 q1⟩
      have HPk : Hid (∀ w', Below w3.heap.size w3 w' → Calls Tryz.prog 112 #[.agg #[.int .i64 4, .int .i64 0, .int .i64 (yk : Int), .slice ya 48 yc]] w' fun e w'' => ∃ gp cp, e = .returned (.slice (some ⟨gp, 0, none⟩) 64 cp) ∧ (Bys w'' (some ⟨gp, 0, none⟩) (packL (homeSct yk yb)) ∧ gp ∉ r.R) ∧ Below w'.heap.size w' w'') := Lib.hid fun w' hb => by
        obtain ⟨a9, c9, e9, hB9, _, hc9⟩ := (HD3.out.below hb).own.bys (by rw [bytesB_length]; omega)
        simp only [Value.slice.injEq] at e9
        obtain ⟨rfl, e48, rfl⟩ := e9
        refine Calls.mono (ry_pack w' r Q (HJ3.out.below hb).rf 4 0 yk (bytesB yb) ya 48 yc (bytesB_length _) (by omega) hB9 hc9 (by omega) (by omega) (homeSct yk yb) ?_) ?_
        · unfold sctOf homeSct
          rw [blk_bytes (HFl.out)]
        · rintro e w'' ⟨gp, cp, rfl, h1, h2, h3⟩
          exact ⟨gp, cp, rfl, ⟨h1, h2⟩, h3⟩
      have HWr : Hid (∀ w' gp cp, Below w3.heap.size w3 w' → (Bys w' (some ⟨gp, 0, none⟩) (packL (homeSct yk yb)) ∧ gp ∉ r.R) → Calls Tryz.prog 78 #[rv r, .int .i64 (ha : Int), .slice (some ⟨gp, 0, none⟩) 64 cp] w' fun e w'' => e = .returned (.int .i64 z) ∧ (w''.cell? ⟨m, 0, none⟩ = some (rv r) ∧ w''.cell? ⟨g5, 0, none⟩ = some (.int .i64 (yk : Int)) ∧ w''.cell? ⟨g5, 1, none⟩ = some (.slice ya 48 yc)) ∧ RJ w'' m r J (wk.act Q) ∧ Only (m :: r.R) wr w'') := Lib.hid fun w' gp cp hb hB => by
        have hj := HJ3.out.below hb
        refine Calls.mono (ry_wr hj.rf ha (homeSct yk yb) gp cp hB.1 hB.2) ?_
        rintro e w'' ⟨rfl, h1, h2⟩
        obtain ⟨x0, x1, x2⟩ := MK.out w' hb
        rw [← hwk] at h1
        refine ⟨by rw [hz, hwk], ⟨h2.cell hj.nm x0, h2.cell hg5r x1, h2.cell hg5r x2⟩, hj.plate h1 h2 (act_n Q wk), (Only.of_below (Below.step HB3.out hb)).trans (h2.mono fun b hb => List.mem_cons_of_mem _ hb)⟩
      have HZ := Lib.hid hz
      have HWk := Lib.hid hwk
      have hS : Below w3.heap.size w3 w3 := Below.refl _ _
      clear hw3 hg5 hb3 hm0 q0 q1 hha hha2 hz hwk hg53 hg5r hy4 p0 p1
      obtain ⟨x0, x1, x2⟩ := MK.out w3 hS
      go_cut [6] from 17 to 52 (fun v6 wx => v6 = .int .i64 z ∧ Hid (RJ wx m r J (wk.act Q)) ∧ Hid (Only (m :: r.R) wr wx))
      case first =>
        go_region_held3 (fun w' => w'.cell? ⟨m, 0, none⟩ = some (rv r) ∧ w'.cell? ⟨g5, 0, none⟩ = some (.int .i64 (yk : Int)) ∧ w'.cell? ⟨g5, 1, none⟩ = some (.slice ya 48 yc))
          (first | with_reducible exact hS6 | ((with_reducible refine MK.out _ ?_); (first | with_reducible exact hS | with_reducible exact Below.drew hS | with_reducible exact Below.step hS (Below.new _ _) | with_reducible exact Below.step (Below.drew hS) (Below.new _ _) | with_reducible exact Below.drew (Below.step hS (Below.new _ _)))))
          ((first
          | (go_at_call 112; go_loud ((with_reducible refine Calls.mono (HPk.out _ ?_) ?_); (first | with_reducible exact hS | with_reducible exact Below.drew hS | with_reducible exact Below.step hS (Below.new _ _) | with_reducible exact Below.step (Below.drew hS) (Below.new _ _) | with_reducible exact Below.drew (Below.step hS (Below.new _ _))); rintro e w5 ⟨gp, cp, rfl, hBp, hb⟩; have hS0 := hS; have hS : Below w3.heap.size w3 w5 := (by first | exact Below.step hS0 hb | exact Below.step hS0.drew hb); have HBp := Lib.hid hBp; clear hBp hb))
          | (go_at_call 78; go_loud ((with_reducible refine Calls.mono (HWr.out _ _ _ ?_ HBp.out) ?_); (first | with_reducible exact hS | with_reducible exact Below.drew hS | with_reducible exact Below.step hS (Below.new _ _) | with_reducible exact Below.step (Below.drew hS) (Below.new _ _) | with_reducible exact Below.drew (Below.step hS (Below.new _ _))); rintro e w6 ⟨rfl, hS6, hj6, ho6⟩; have HJ6 := Lib.hid hj6; have HO6 := Lib.hid ho6; clear hj6 ho6))))
        all_goals
          go_wp2_with fail
          go_meet
          exact ⟨rfl, HJ6, HO6⟩
      case rest =>
        obtain ⟨rfl, HJ6, HO6⟩ := hcut
        have HO7 := Lib.hid (HO.out.trans HO6.out)
        clear x0 x1 x2 hS hwA hwC hadd c6
        by_cases hz0 : z = 0
        · subst hz0
          have HR7 := Lib.hid (run_on HR.out.1 (by rw [HR.out.2, ← HZ.out]))
          go_wp2_with fail
          refine Calls.mono (rj_did0 HJ6.out HBr.out) ?_
          rintro e w8 ⟨rfl, hj8, ho8⟩
          have HJ8 := Lib.hid hj8
          have HO8 := Lib.hid (HO7.out.trans (ho8.mono fun b hb => by simp at hb; rw [hb]; simp))
          clear hj8 ho8
          go_wp2
          go_roundw
          case rel => exact ⟨k + 1, by omega, by go_num, wk.act Q, Lib.hid (by rw [HTs.out]; have h1 := HR7.out; rw [HR.out.2] at h1; exact h1), HJ8, HO8⟩
          case measure => simp [RowKit.intOf]; omega
        · have hzb : (z != 0) = true := by simpa using hz0
          have HR7 := Lib.hid (run_stop (k := homesW L (l.drop (k + 1)) ++ [.fl, headWk J, .fl]) HR.out.1 (x := wk) (by rw [HR.out.2, ← HZ.out]; exact hz0))
          clear hz0
          go_wp2_with fail
          refine Calls.mono (rj_did1 HJ6.out HBr.out z hzb) ?_
          rintro e w8 ⟨rfl, hj8, ho8⟩
          have HJ8 := Lib.hid hj8
          have HO8 := Lib.hid (HO7.out.trans (ho8.mono fun b hb => by simp at hb; rw [hb]; simp))
          clear hj8 ho8
          go_wp2
          go_ret
          obtain ⟨e1, e2⟩ := HR7.out
          rw [HR.out.2, ← HZ.out] at e1
          rw [HR.out.2] at e2
          rw [HCW.out, HSp.out, e1, e2]
          exact ⟨rfl, by rw [endJ_brk hzb]; exact HJ8.out, HO8.out⟩
    · obtain rfl : k = n := by omega
      have hfin : l.take k = l := List.take_of_length_le (by have := HN.out; omega)
      rw [hfin] at HR
      have HQn := Lib.hid hQn
      have c0 := HJ.out.c0
      obtain ⟨z1, hz1⟩ : ∃ z, z = Wk.fl.err Q := ⟨_, rfl⟩
      have hfl := ry_fl HJ.out.rf
      rw [← hz1] at hfl
      have HFl := Lib.hid hfl
      have HZ1 := Lib.hid hz1
      clear hfin hQn hat hz1 hfl c7 c1
      go_wp2_with fail
      refine Calls.mono HFl.out ?_
      rintro e w2 ⟨rfl, hr2, ho2⟩
      have HJ2 := Lib.hid (HJ.out.plate hr2 ho2 (act_n Q .fl))
      have HO2 := Lib.hid (HO.out.trans (ho2.mono fun b hb => List.mem_cons_of_mem _ hb))
      clear hr2 ho2 c0 c6
      by_cases hz : z1 = 0
      · have HR2 := Lib.hid (run_on (x := .fl) HR.out.1 (by rw [HR.out.2, ← HZ1.out]; exact hz))
        subst hz
        rw [HR.out.2] at HR2
        obtain ⟨Q1, hQ1⟩ : ∃ Q1, Q1 = Wk.fl.act Q := ⟨_, rfl⟩
        rw [← hQ1] at HJ2 HR2
        have c0 := HJ2.out.c0
        have c1 := HJ2.out.c1
        have c2 := HJ2.out.c2
        have c3 := HJ2.out.c3
        have c5 := HJ2.out.c5
        have hok := HJ2.out.ok
        have h1 := hok.logn
        have h2 := hok.at_
        have h3 := hok.turn
        have h4 := HHd.out
        have hn4 := HJ2.out.rf.ok.most
        have HWk : Hid (headWk J = Wk.wr (J.head % 2) (packS (headSct (J.head + 1) J.log J.at_ J.turn))) := Lib.hid rfl
        obtain ⟨wk, hwk⟩ : ∃ wk, wk = headWk J := ⟨_, rfl⟩
        rw [← hwk] at HWk HCW
        obtain ⟨z2, hz2⟩ : ∃ z, z = wk.err Q1 := ⟨_, rfl⟩
        obtain ⟨LG, hLG⟩ : ∃ x, x = J.log := ⟨_, rfl⟩
        obtain ⟨HD, hHD⟩ : ∃ x, x = J.head := ⟨_, rfl⟩
        obtain ⟨AT, hAT⟩ : ∃ x, x = J.at_ := ⟨_, rfl⟩
        obtain ⟨TN, hTN⟩ : ∃ x, x = J.turn := ⟨_, rfl⟩
        rw [← hLG] at c1 h1 h2 HWk
        rw [← hHD] at c2 h4 HWk
        rw [← hAT] at c3 h2 HWk
        rw [← hTN] at c5 h3 HWk
        have MK : Hid (∀ w', Below w2.heap.size w2 w' → w'.cell? ⟨m, 0, none⟩ = some (rv r) ∧ w'.cell? ⟨m, 1, none⟩ = some (.int .i64 (LG : Int)) ∧ w'.cell? ⟨m, 2, none⟩ = some (.int .i64 (HD : Int)) ∧ w'.cell? ⟨m, 3, none⟩ = some (.int .i64 (AT : Int)) ∧ w'.cell? ⟨m, 5, none⟩ = some (.int .i64 (TN : Int))) := Lib.hid fun w' hb => ⟨keepc hb c0, keepc hb c1, keepc hb c2, keepc hb c3, keepc hb c5⟩
        obtain ⟨pa, hpa⟩ : ∃ pa : Nat, pa = HD % 2 := ⟨_, rfl⟩
        rw [← hpa] at HWk
        obtain ⟨H1, hH1⟩ : ∃ x : Nat, x = HD + 1 := ⟨_, rfl⟩
        rw [← hH1] at HWk
        have HHe : Hid (∀ w', Below w2.heap.size w2 w' → Calls Tryz.prog 110 #[.int .i64 (H1 : Int), .int .i64 (LG : Int), .int .i64 (AT : Int), .int .i64 (TN : Int)] w' fun e w'' => ∃ gp cp, e = .returned (.slice (some ⟨gp, 0, none⟩) 64 cp) ∧ (Bys w'' (some ⟨gp, 0, none⟩) (packL (headSct H1 LG AT TN)) ∧ gp ∉ r.R) ∧ Below w'.heap.size w' w'') := Lib.hid fun w' hb => by
          refine Calls.mono (ry_head w' r Q1 (HJ2.out.below hb).rf H1 LG AT TN (by omega) (by omega) (by omega) (by omega)) ?_
          rintro e w'' ⟨gp, cp, rfl, h1, h2, h3⟩
          exact ⟨gp, cp, rfl, ⟨h1, h2⟩, h3⟩
        have HWr : Hid (∀ w' gp cp, Below w2.heap.size w2 w' → (Bys w' (some ⟨gp, 0, none⟩) (packL (headSct H1 LG AT TN)) ∧ gp ∉ r.R) → Calls Tryz.prog 78 #[rv r, .int .i64 (pa : Int), .slice (some ⟨gp, 0, none⟩) 64 cp] w' fun e w'' => e = .returned (.int .i64 z2) ∧ (w''.cell? ⟨m, 0, none⟩ = some (rv r) ∧ w''.cell? ⟨m, 1, none⟩ = some (.int .i64 (LG : Int)) ∧ w''.cell? ⟨m, 2, none⟩ = some (.int .i64 (HD : Int)) ∧ w''.cell? ⟨m, 3, none⟩ = some (.int .i64 (AT : Int)) ∧ w''.cell? ⟨m, 5, none⟩ = some (.int .i64 (TN : Int))) ∧ RJ w'' m r J (wk.act Q1) ∧ Only (m :: r.R) w2 w'') := Lib.hid fun w' gp cp hb hB => by
          have hj := HJ2.out.below hb
          refine Calls.mono (ry_wr hj.rf pa (headSct H1 LG AT TN) gp cp hB.1 hB.2) ?_
          rintro e w'' ⟨rfl, h1, h2⟩
          obtain ⟨x0, x1, x2, x3, x5⟩ := MK.out w' hb
          rw [← HWk.out] at h1
          exact ⟨by rw [hz2, HWk.out], ⟨h2.cell hj.nm x0, h2.cell hj.nm x1, h2.cell hj.nm x2, h2.cell hj.nm x3, h2.cell hj.nm x5⟩, hj.plate h1 h2 (act_n Q1 wk), (Only.of_below hb).trans (h2.mono fun b hb => List.mem_cons_of_mem _ hb)⟩
        have hwH : IntKind.i64.wrap ((HD : Int) + 1) = (H1 : Int) := by rw [IntWalk.i64_in (n := (HD : Int) + 1) (by omega)]; omega
        have hwC := IntWalk.i64_in (n := (H1 : Int)) (by omega)
        have hwD : (HD : Int) + 1 = (H1 : Int) := by omega
        have hrem : (HD : Int).tmod 2 = (pa : Int) := by rw [Int.tmod_eq_emod_of_nonneg (by omega)]; omega
        have hrem2 : (HD : Int) % 2 = (pa : Int) := by omega
        have hwP := IntWalk.i64_in (n := (pa : Int)) (by omega)
        have HZ2 := Lib.hid hz2
        have HLG := Lib.hid hLG
        have HHD := Lib.hid hHD
        have HAT := Lib.hid hAT
        have HTN := Lib.hid hTN
        have hS : Below w2.heap.size w2 w2 := Below.refl _ _
        clear hQ1 hok h1 h2 h3 hwk hz2 hLG hHD hAT hTN hpa hn4 hH1
        go_upto_region 13 with (fail)
        go_cut [7] from 60 to 87 (fun v7 wx => v7 = .int .i64 z2 ∧ Hid (RJ wx m r J (wk.act Q1)) ∧ Hid (Only (m :: r.R) w2 wx))
        case first =>
          go_region_held3 (fun w' => w'.cell? ⟨m, 0, none⟩ = some (rv r) ∧ w'.cell? ⟨m, 1, none⟩ = some (.int .i64 (LG : Int)) ∧ w'.cell? ⟨m, 2, none⟩ = some (.int .i64 (HD : Int)) ∧ w'.cell? ⟨m, 3, none⟩ = some (.int .i64 (AT : Int)) ∧ w'.cell? ⟨m, 5, none⟩ = some (.int .i64 (TN : Int)))
            (first | with_reducible exact hS6 | ((with_reducible refine MK.out _ ?_); (first | with_reducible exact hS | with_reducible exact Below.drew hS | with_reducible exact Below.step hS (Below.new _ _) | with_reducible exact Below.step (Below.drew hS) (Below.new _ _) | with_reducible exact Below.drew (Below.step hS (Below.new _ _)))))
            ((first
            | (go_at_call 110; go_loud ((with_reducible refine Calls.mono (HHe.out _ ?_) ?_); (first | with_reducible exact hS | with_reducible exact Below.drew hS | with_reducible exact Below.step hS (Below.new _ _) | with_reducible exact Below.step (Below.drew hS) (Below.new _ _) | with_reducible exact Below.drew (Below.step hS (Below.new _ _))); rintro e w5 ⟨gp, cp, rfl, hBp, hb⟩; have hS0 := hS; have hS : Below w2.heap.size w2 w5 := (by first | exact Below.step hS0 hb | exact Below.step hS0.drew hb); have HBp := Lib.hid hBp; clear hBp hb))
            | (go_at_call 78; go_loud ((with_reducible refine Calls.mono (HWr.out _ _ _ ?_ HBp.out) ?_); (first | with_reducible exact hS | with_reducible exact Below.drew hS | with_reducible exact Below.step hS (Below.new _ _) | with_reducible exact Below.step (Below.drew hS) (Below.new _ _) | with_reducible exact Below.drew (Below.step hS (Below.new _ _))); rintro e w6 ⟨rfl, hS6, hj6, ho6⟩; have HJ6 := Lib.hid hj6; have HO6 := Lib.hid ho6; clear hj6 ho6))))
          all_goals
            go_wp2_with fail
            go_meet
            exact ⟨rfl, HJ6, HO6⟩
        case rest =>
          obtain ⟨rfl, HJ6, HO6⟩ := hcut
          clear c0 c1 c2 c3 c5 hwH hwC hwD hrem hrem2 hwP hS h4
          by_cases hz0 : z2 = 0
          · subst hz0
            have HR3 := Lib.hid (run_on (x := wk) HR2.out.1 (by rw [HR2.out.2, ← HZ2.out]))
            rw [HR2.out.2] at HR3
            obtain ⟨Q2, hQ2⟩ : ∃ Q2, Q2 = wk.act Q1 := ⟨_, rfl⟩
            rw [← hQ2] at HJ6 HR3
            obtain ⟨z3, hz3⟩ : ∃ z, z = Wk.fl.err Q2 := ⟨_, rfl⟩
            have hfl := ry_fl HJ6.out.rf
            rw [← hz3] at hfl
            have HFl3 := Lib.hid hfl
            have HZ3 := Lib.hid hz3
            have c0 := HJ6.out.c0
            clear hz3 hfl hQ2
            go_wp2_with fail
            refine Calls.mono HFl3.out ?_
            rintro e w7 ⟨rfl, hr7, ho7⟩
            have HJX := Lib.hid (HJ6.out.plate hr7 ho7 (act_n Q2 .fl))
            have HOX := Lib.hid ((HO2.out.trans HO6.out).trans (ho7.mono fun b hb => List.mem_cons_of_mem _ hb))
            clear hr7 ho7 c0
            by_cases hz9 : z3 = 0
            · have HRE : Hid (runE (homesW L l ++ [.fl, wk, .fl]) P = 0 ∧ runP (homesW L l ++ [.fl, wk, .fl]) P = Wk.fl.act Q2) := Lib.hid (by
                have h1 := run_on (x := .fl) HR3.out.1 (by rw [HR3.out.2, ← HZ3.out]; exact hz9)
                rw [HR3.out.2] at h1
                simpa [List.append_assoc] using h1)
              subst hz9
              go_wp2_with fail
              refine Calls.mono (rj_did0 HJX.out HBr.out) ?_
              rintro e w8 ⟨rfl, hj8, ho8⟩
              have c2 := hj8.c2
              rw [← HHD.out] at c2
              have c4 := hj8.c4
              have c6 := hj8.c6
              obtain ⟨v6, c6, _, _⟩ := c6
              have f2 := hj8.fz 2
              have f4 := hj8.fz 4
              have f6 := hj8.fz 6
              have hh := HHd.out
              rw [← HHD.out] at hh
              have HJ8 := Lib.hid hj8
              have HO8 := Lib.hid (HOX.out.trans (ho8.mono fun b hb => by simp at hb; rw [hb]; simp))
              clear hj8 ho8
              go_wp2
              go_ret
              obtain ⟨e1, e2⟩ := HRE.out
              rw [HCW.out, e1, e2, endJ_zero]
              have hok := HJ8.out.ok
              have hlog := HLG.out
              have hj1 : ({ J with head := HD + 1 } : Jn).Ok (Wk.fl.act Q2).n := ⟨hok.log2, hok.logn, hok.at_, hok.used, hok.turn, hh, Nat.succ_pos _, hok.pend, hok.flat⟩
              have hj2 : ({ J with head := HD + 1, used := 0 } : Jn).Ok (Wk.fl.act Q2).n := ⟨hok.log2, hok.logn, hok.at_, Nat.zero_le _, hok.turn, hh, Nat.succ_pos _, hok.pend, hok.flat⟩
              have hj3 : ({ J with head := HD + 1, used := 0, pend := fun _ => none } : Jn).Ok (Wk.fl.act Q2).n := ⟨hok.log2, hok.logn, hok.at_, Nat.zero_le _, hok.turn, hh, Nat.succ_pos _, fun _ _ => rfl, fun _ _ h => by cases h⟩
              have k1 := HJ8.out.setCell (i := 2) (v := .int .i64 ((HD : Int) + 1)) hj1 rfl rfl (by simp) (by simp) (by simp) (by simp) (by simp) (by omega) (by omega) (by omega)
              have k2 := k1.setCell (i := 4) (v := .int .i64 0) hj2 rfl rfl (by simp) (by simp) (by simp) (by simp) (by simp) (by omega) (by omega) (by omega)
              have k3 := k2.setPend (v := .slice none 0 0) (f := fun _ => none) hj3 (by rw [pendN_none]; exact OwnQ.nil _ _ _ _) (fun g hg => by cases hg)
              refine ⟨rfl, ?_, (((HO8.out.setCell (by simp) _).setCell (by simp) _).setCell (by simp) _)⟩
              have ec : J.cleared = { J with head := HD + 1, used := 0, pend := fun _ => none } := by unfold Jn.cleared; rw [HHD.out]
              rw [ec]
              exact k3
            · have hzb : (z3 != 0) = true := by simpa using hz9
              have HRE : Hid (runE (homesW L l ++ [.fl, wk, .fl]) P = z3 ∧ runP (homesW L l ++ [.fl, wk, .fl]) P = Wk.fl.act Q2) := Lib.hid (by
                have h1 := run_stop (k := []) (x := .fl) HR3.out.1 (by rw [HR3.out.2, ← HZ3.out]; exact hz9)
                rw [HR3.out.2, ← HZ3.out] at h1
                simpa [List.append_assoc] using h1)
              clear hz9
              go_wp2_with fail
              refine Calls.mono (rj_did1 HJX.out HBr.out z3 hzb) ?_
              rintro e w8 ⟨rfl, hj8, ho8⟩
              have HJ8 := Lib.hid hj8
              have HO8 := Lib.hid (HOX.out.trans (ho8.mono fun b hb => by simp at hb; rw [hb]; simp))
              clear hj8 ho8
              go_wp2
              go_ret
              obtain ⟨e1, e2⟩ := HRE.out
              rw [HCW.out, e1, e2]
              exact ⟨rfl, by rw [endJ_brk hzb]; exact HJ8.out, HO8.out⟩
          · have hzb : (z2 != 0) = true := by simpa using hz0
            have HRE : Hid (runE (homesW L l ++ [.fl, wk, .fl]) P = z2 ∧ runP (homesW L l ++ [.fl, wk, .fl]) P = wk.act Q1) := Lib.hid (by
              have h1 := run_stop (k := [.fl]) (x := wk) HR2.out.1 (by rw [HR2.out.2, ← HZ2.out]; exact hz0)
              rw [HR2.out.2, ← HZ2.out] at h1
              simpa [List.append_assoc] using h1)
            have HJX := HJ6
            have HOX := Lib.hid (HO2.out.trans HO6.out)
            clear hz0
            go_wp2_with fail
            refine Calls.mono (rj_did1 HJX.out HBr.out z2 hzb) ?_
            rintro e w8 ⟨rfl, hj8, ho8⟩
            have HJ8 := Lib.hid hj8
            have HO8 := Lib.hid (HOX.out.trans (ho8.mono fun b hb => by simp at hb; rw [hb]; simp))
            clear hj8 ho8
            go_wp2
            go_ret
            obtain ⟨e1, e2⟩ := HRE.out
            rw [HCW.out, e1, e2]
            exact ⟨rfl, by rw [endJ_brk hzb]; exact HJ8.out, HO8.out⟩
      · have hzb : (z1 != 0) = true := by simpa using hz
        have HRE : Hid (runE (homesW L l ++ [.fl, headWk J, .fl]) P = z1 ∧ runP (homesW L l ++ [.fl, headWk J, .fl]) P = Wk.fl.act Q) := Lib.hid (by
          have h1 := run_stop (k := [headWk J, .fl]) (x := .fl) HR.out.1 (by rw [HR.out.2, ← HZ1.out]; exact hz)
          rw [HR.out.2, ← HZ1.out] at h1
          exact h1)
        have HJX := HJ2
        have HOX := HO2
        clear hz
        go_wp2_with fail
        refine Calls.mono (rj_did1 HJX.out HBr.out z1 hzb) ?_
        rintro e w8 ⟨rfl, hj8, ho8⟩
        have HJ8 := Lib.hid hj8
        have HO8 := Lib.hid (HOX.out.trans (ho8.mono fun b hb => by simp at hb; rw [hb]; simp))
        clear hj8 ho8
        go_wp2
        go_ret
        obtain ⟨e1, e2⟩ := HRE.out
        rw [HCW.out, e1, e2]
        exact ⟨rfl, by rw [endJ_brk hzb]; exact HJ8.out, HO8.out⟩
theorem rj_clear (h : RJ w m r J P) (hh : J.head < 4611686018427387904) : Calls Tryz.prog 87 #[mv m] w fun e w' => e = .returned (.int .i64 (clearE P J)) ∧ RJ w' m r (clearJ P J) (clearP P J) ∧ Only (m :: r.R) w w' := by
  cases hb : J.broken with
  | true =>
    have e1 : clearE P J = 50 := by unfold clearE; rw [hb]; rfl
    have e2 : clearJ P J = J := by unfold clearJ; rw [hb]; rfl
    have e3 : clearP P J = P := by unfold clearP; rw [hb]; rfl
    rw [e1, e2, e3]
    refine Calls.mono (rj_clearBr h hb) ?_
    rintro e w' ⟨rfl, rfl⟩
    exact ⟨rfl, h, Only.refl _ _⟩
  | false =>
    have e1 : clearE P J = runE (J.clearW P.n) P := by unfold clearE; rw [hb]; rfl
    have e2 : clearJ P J = endJ J (runE (J.clearW P.n) P) := by unfold clearJ; rw [hb]; rfl
    have e3 : clearP P J = runP (J.clearW P.n) P := by unfold clearP; rw [hb]; rfl
    rw [e1, e2, e3]
    exact rj_clearOn h hb hh
end
end Go.Proofs.YtdhidcoglioalaaGreat.Walks
