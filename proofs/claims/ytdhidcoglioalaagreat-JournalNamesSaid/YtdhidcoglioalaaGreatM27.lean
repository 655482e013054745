/-
  The document's journal: its small calls.
-/
import Derived.Test.YtdhidcoglioalaaGreatM26
namespace Go.Proofs.YtdhidcoglioalaaGreat.Walks
open Go.RowKit Plain Jn
set_option linter.unusedVariables false
section
variable {w w' : World} {m : Nat} {r : RLoc} {J J' : Jn} {P P' : Pl}
theorem rj_did0 (h : RJ w m r J P) (hb : J.broken = false) : Calls Tryz.prog 113 #[mv m, .int .i64 0] w fun e w' => e = .returned (.bool true) ∧ RJ w' m r J P ∧ Only [m] w w' := by
  have c7 := h.c7
  have f7 := h.fz 7
  have H := Lib.hid h
  have HBr := Lib.hid hb
  rw [hb] at c7
  clear h hb
  go_enter Tryz.func113, Tryz.ntmps113
  go_wp2
  go_ret
  exact ⟨rfl, H.out.setCell (J' := J) H.out.ok rfl rfl (by simp) (by simp) (by simp) (by simp) (by simp [HBr.out]) (by omega) (by omega) (by omega), (Only.refl _ _).setCell (by simp) _⟩
theorem brk_ok {n : Nat} (h : J.Ok n) : J.brk.Ok n := ⟨h.log2, h.logn, h.at_, h.used, h.turn, h.head, h.head0, h.pend, h.flat⟩
theorem rj_did1 (h : RJ w m r J P) (hb : J.broken = false) (z : Int) (hz : (z != 0) = true) : Calls Tryz.prog 113 #[mv m, .int .i64 z] w fun e w' => e = .returned (.bool false) ∧ RJ w' m r J.brk P ∧ Only [m] w w' := by
  have c7 := h.c7
  have f7 := h.fz 7
  have H := Lib.hid h
  rw [hb] at c7
  have hz2 : (z == 0) = false := by simpa using hz
  clear h hb
  go_enter Tryz.func113, Tryz.ntmps113
  go_wp2
  go_ret
  exact ⟨rfl, H.out.setCell (J' := J.brk) (brk_ok H.out.ok) rfl rfl (by simp [brk]) (by simp [brk]) (by simp [brk]) (by simp [brk]) (by simp [brk]) (by omega) (by omega) (by omega), (Only.refl _ _).setCell (by simp) _⟩
theorem rj_blocks (h : RJ w m r J P) : Calls Tryz.prog 61 #[mv m] w fun e w' => e = .returned (.int .i64 (J.blocks P.n)) ∧ ∃ n, w' = w.drewN n := by
  unfold Jn.blocks
  have c0 := h.c0
  have c1 := h.c1
  have c7 := h.c7
  have hl := h.ok.logn
  have hn4 := h.rf.ok.most
  have HSz := Lib.hid (fun k => rf_size (w.drewN k) r P ⟨h.rf.x.below (below_drewN (Below.refl _ _) k), h.rf.ok⟩)
  have H := Lib.hid h
  clear h
  obtain ⟨L, hL⟩ : ∃ L, L = J.log := ⟨_, rfl⟩
  obtain ⟨n, hn⟩ : ∃ n, n = P.n := ⟨_, rfl⟩
  rw [← hL] at c1 hl
  rw [← hn] at hl hn4 HSz
  rw [← hL, ← hn]
  cases hd : J.broken
  · rw [hd] at c7
    clear hd hL hn
    have e : ((n - 2 - L : Nat) : Int) = (n : Int) - 2 - (L : Int) := by omega
    simp only [Bool.false_eq_true, if_false]
    rw [e]
    clear e
    go_enter Tryz.func61, Tryz.ntmps61
    go_wp2_with fail
    go_quiet ((go_at_call 88; exact quiet_of_eq (HSz.out _)))
    go_wp2
    go_ret
    exact ⟨rfl, _, rfl⟩
  · rw [hd] at c7
    clear hd hL hn
    go_enter Tryz.func61, Tryz.ntmps61
    go_wp2
    go_ret
    exact ⟨by simp, 0, rfl⟩
theorem rj_free (h : RJ w m r J P) : Calls Tryz.prog 62 #[mv m] w fun e w' => e = .returned (.int .i64 (J.free)) ∧ ∃ n, w' = w.drewN n := by
  unfold Jn.free
  have c1 := h.c1
  have c4 := h.c4
  have c7 := h.c7
  have hl := h.ok.logn
  have hu := h.ok.used
  have hn4 := h.rf.ok.most
  clear h
  obtain ⟨L, hL⟩ : ∃ L, L = J.log := ⟨_, rfl⟩
  obtain ⟨U, hU⟩ : ∃ U, U = J.used := ⟨_, rfl⟩
  rw [← hL] at c1 hl hu
  rw [← hU] at c4 hu
  rw [← hL, ← hU]
  cases hd : J.broken
  · rw [hd] at c7
    clear hd hL hU
    simp only [Bool.false_eq_true, if_false]
    by_cases h0 : U + 1 ≤ L
    · have e : ((L - U - 1 : Nat) : Int) = (L : Int) - (U : Int) - 1 := by omega
      rw [e]
      clear e
      go_enter Tryz.func62, Tryz.ntmps62
      go_wp2_with fail
      go_region
      go_wp2
      go_ret
      exact ⟨by simp; omega, 1, rfl⟩
    · obtain rfl : U = L := by omega
      have e : ((U - U - 1 : Nat) : Int) = 0 := by omega
      rw [e]
      clear e h0
      go_enter Tryz.func62, Tryz.ntmps62
      go_wp2_with fail
      go_region
      go_wp2
      go_ret
      exact ⟨by simp; omega, 1, rfl⟩
  · rw [hd] at c7
    clear hd hL hU
    go_enter Tryz.func62, Tryz.ntmps62
    go_wp2
    go_ret
    exact ⟨by simp, 0, rfl⟩
/-- What the log's going on does. -/
def movedJ (J : Jn) (n : Nat) : Jn := { J with at_ := (J.at_ + n) % J.log, used := J.used + n, turn := J.turn + 1 }
theorem moved_ok {N n : Nat} (h : J.Ok N) (hu : J.used + n ≤ J.log) (ht : J.turn < 4611686018427387904) : (movedJ J n).Ok N :=
  ⟨h.log2, h.logn, Nat.mod_lt _ (by have := h.log2; show 0 < J.log; omega), hu, ht, h.head, h.head0, h.pend, h.flat⟩
set_option maxHeartbeats 1000000 in
theorem rj_moves (h : RJ w m r J P) (n : Nat) (hu : J.used + n ≤ J.log) (ht : J.turn < 4611686018427387904) : Calls Tryz.prog 115 #[mv m, .int .i64 n] w fun e w' => (∃ u, e = .returned u) ∧ RJ w' m r (movedJ J n) P ∧ Only [m] w w' := by
  have c1 := h.c1
  have c3 := h.c3
  have c4 := h.c4
  have c5 := h.c5
  have f3 := h.fz 3
  have f4 := h.fz 4
  have f5 := h.fz 5
  have hl := h.ok.logn
  have hl2 := h.ok.log2
  have ha := h.ok.at_
  have hn4 := h.rf.ok.most
  have hok := moved_ok h.ok hu ht
  have H := Lib.hid h
  have HOk := Lib.hid hok
  have hm : (((J.at_ + n) % J.log : Nat) : Int) = ((J.at_ : Int) + (n : Int)) % (J.log : Int) := by rw [Int.natCast_emod, Int.natCast_add]
  have HM := Lib.hid hm
  clear h hok hm
  obtain ⟨L, hL⟩ : ∃ L, L = J.log := ⟨_, rfl⟩
  obtain ⟨U, hU⟩ : ∃ U, U = J.used := ⟨_, rfl⟩
  obtain ⟨A, hA⟩ : ∃ A, A = J.at_ := ⟨_, rfl⟩
  obtain ⟨t, hT⟩ : ∃ t, t = J.turn := ⟨_, rfl⟩
  rw [← hL] at c1 hl hl2 ha hu HM
  rw [← hU] at c4 hu
  rw [← hA] at c3 ha HM
  rw [← hT] at c5 ht
  have HL := Lib.hid hL
  have HU := Lib.hid hU
  have HA := Lib.hid hA
  have HT := Lib.hid hT
  have hne : ¬ (L : Int) = 0 := by omega
  clear hL hU hA hT
  go_enter Tryz.func115, Tryz.ntmps115
  go_upto_region 0 with (fail)
  go_region
  go_wp2
  go_end0
  have hA1 : (⟨L, J.head, (A + n) % L, U, t, J.pend, J.broken⟩ : Jn).Ok P.n := by
    have h1 := H.out.ok
    rw [HL.out, HU.out, HT.out]
    exact ⟨h1.log2, h1.logn, Nat.mod_lt _ (by have := h1.log2; omega), h1.used, h1.turn, h1.head, h1.head0, h1.pend, h1.flat⟩
  have hA2 : (⟨L, J.head, (A + n) % L, U + n, t, J.pend, J.broken⟩ : Jn).Ok P.n := ⟨hA1.log2, hA1.logn, hA1.at_, hu, hA1.turn, hA1.head, hA1.head0, hA1.pend, hA1.flat⟩
  rw [← HM.out]
  have k1 := H.out.setCell (i := 3) (v := .int .i64 (((A + n) % L : Nat) : Int)) hA1 HL.out rfl (by simp) (by simp) (by simp; exact HU.out) (by simp; exact HT.out) (by simp) (by omega) (by omega) (by omega)
  have k2 := k1.setCell (i := 4) (v := .int .i64 ((U : Int) + (n : Int))) hA2 rfl rfl (by simp) (by simp) (by simp) (by simp) (by simp) (by omega) (by omega) (by omega)
  have k3 := k2.setCell (J' := movedJ J n) (i := 5) (v := .int .i64 ((t : Int) + 1)) HOk.out HL.out.symm rfl (by simp [movedJ]) (by simp [movedJ, HA.out, HL.out]) (by simp [movedJ, HU.out]) (by simp [movedJ, HT.out]) (by simp [movedJ]) (by omega) (by omega) (by omega)
  refine ⟨⟨_, rfl⟩, k3.below (Below.drew (Below.refl _ _)), ?_⟩
  exact (((((Only.refl _ _).setCell (by simp) _).setCell (by simp) _).setCell (by simp) _)).drew
theorem putsP_append (l k : PL) : putsP (l ++ k) = putsP l ++ putsP k := by unfold putsP; rw [List.map_append]
theorem putsP_length (l : PL) : (putsP l).length = l.length := by unfold putsP; rw [List.length_map]
theorem putsP_get {l : PL} {k : Nat} {x : Nat × Blk} (h : l[k]? = some x) : (putsP l)[k]? = some ((x.1 : Int), bytesB x.2) := by unfold putsP; rw [List.getElem?_map, h]; rfl
theorem foldH_len (x : Nat × Blk) (l : PL) : ∀ k, k ≤ l.length → (foldH x (l.take k)).1.length ≤ 2 * k
  | 0, _ => by simp [foldH]
  | k + 1, h => by
    have ih := foldH_len x l k (by omega)
    rw [foldH_take (by omega)]
    unfold stepH
    simp only [List.length_append]
    split <;> split <;> simp <;> omega
theorem bor_of {p q : Bool} (h : true = (!p && q)) : (p || q) = true := by cases p <;> cases q <;> simp_all
theorem bor_not {p q : Bool} (h : false = (!p && q)) : (p || q) = p := by cases p <;> cases q <;> simp_all
theorem below_mono1 {g1 : Nat} {w1 wx : World} (h : Below (g1 + 1) w1 wx) (hz : w1.heap.size = g1 + 1) : Below w1.heap.size w1 wx := by rw [hz]; exact h
def stepA (x : Nat × Blk) (s : PL × Bool) (y : Nat × Blk) : PL := if !s.2 && decide (x.1 ≤ y.1) then s.1 ++ [x] else s.1
theorem stepH_eq (x : Nat × Blk) (s : PL × Bool) (y : Nat × Blk) : stepH x s y = (stepA x s y ++ (if y.1 = x.1 then [] else [y]), s.2 || decide (x.1 ≤ y.1)) := rfl
theorem stepA_len (x : Nat × Blk) (s : PL × Bool) (y : Nat × Blk) : (stepA x s y).length ≤ s.1.length + 1 := by
  unfold stepA
  split <;> simp
/-- The list that grows. -/
structure OutH (wr w1 : World) (g1 : Nat) (N : List Nat) (a : Option Addr) (mm c : Nat) (l : PL) : Prop where
  len : mm = l.length
  own : OwnQ 150 wr (g1 + 1) N (.slice a mm c) (putsP l)
  be : Below (g1 + 1) w1 wr
  sz : g1 + 1 ≤ wr.heap.size
theorem OutH.step {wr w1 wx : World} {g1 : Nat} {N : List Nat} {a : Option Addr} {mm c : Nat} {l : PL} (h : OutH wr w1 g1 N a mm c l) (hb : Below wr.heap.size wr wx) : OutH wx w1 g1 N a mm c l :=
  ⟨h.len, h.own.below hb, h.be.trans (hb.mono h.sz), Nat.le_trans h.sz hb.size⟩
theorem putsP_snoc (l : PL) (x : Nat × Blk) : putsP l ++ [((x.1 : Int), bytesB x.2)] = putsP (l ++ [x]) := by rw [putsP_append]; rfl
set_option maxRecDepth 10000 in
set_option maxHeartbeats 4000000 in
theorem rj_has (h : RJ w m r J P) (x : Nat × Blk) (da : Option Addr) (dc : Nat) (hx : x.1 < P.n - 2 - J.log) (hd : Dat w r.N (.slice da 48 dc) (bytesB x.2)) (hf : Flat x.2) (hdc : da = none → dc = 0) :
    Calls Tryz.prog 114 #[mv m, .agg #[.int .i64 (x.1 : Int), .slice da 48 dc]] w fun e w' => (∃ u, e = .returned u) ∧ RJ w' m r { J with pend := upd J.pend x.1 (some x.2) } P ∧ Only [m] w w' := by
  obtain ⟨v6, c6, hq, hqn⟩ := h.c6
  have hn4 := h.rf.ok.most
  have hokU : ({ J with pend := upd J.pend x.1 (some x.2) } : Jn).Ok P.n := ⟨h.ok.log2, h.ok.logn, h.ok.at_, h.ok.used, h.ok.turn, h.ok.head, h.ok.head0, fun i hi => by
    show upd J.pend x.1 (some x.2) i = none
    have hi' : P.n - 2 - J.log ≤ i := hi
    rw [upd_other _ _ (by omega)]; exact h.ok.pend i hi', fun i b hb => by
    by_cases e : i = x.1
    · have hb' : upd J.pend x.1 (some x.2) i = some b := hb
      rw [e, upd_same] at hb'
      cases hb'
      exact hf
    · have hb' : upd J.pend x.1 (some x.2) i = some b := hb
      rw [upd_other _ _ e] at hb'
      exact h.ok.flat i b hb'⟩
  have hmlt := h.lt
  obtain ⟨l, hl⟩ : ∃ l, l = pendN J.pend (P.n - 2 - J.log) := ⟨_, rfl⟩
  have hln : l.length ≤ 4096 := by rw [hl]; have := pendN_length J.pend (P.n - 2 - J.log); omega
  have hend : hasH x l = pendN (upd J.pend x.1 (some x.2)) (P.n - 2 - J.log) := by rw [hl]; exact pend_has J.pend hx
  have hq' : OwnQ 150 w 0 r.N v6 (putsP l) := by rw [hl]; exact hq
  obtain ⟨n, hnn⟩ : ∃ n, n = l.length := ⟨_, rfl⟩
  obtain ⟨a6, cp6, e6, _⟩ := hq'.slice
  rw [putsP_length, ← hnn] at e6
  subst e6
  obtain ⟨xk, xb⟩ := x
  simp only at hx hd hf hokU hend ⊢
  have HQ := Lib.hid hq'
  have HQN := Lib.hid hqn
  have H := Lib.hid h
  have HOk := Lib.hid hokU
  have HE := Lib.hid hend
  have HD := Lib.hid hd
  have HDC := Lib.hid hdc
  have HN := Lib.hid hnn
  have HPN : Hid (∀ y ∈ l, y.1 < 4096) := Lib.hid fun y hy => by rw [hl] at hy; have := (pendN_mem.1 hy).1; omega
  have f6 := h.fz 6
  have hw63 : xk ≤ 4096 := by omega
  have hn4' : n ≤ 4096 := by omega
  clear h hq hq' hqn hokU hend hd hdc hl hf hx hnn
  go_enter Tryz.func114, Tryz.ntmps114
  go_wp2_with fail
  obtain ⟨w1, hw1⟩ : ∃ y, y = w.alloc (.cells #[.int .i64 (xk : Int), .slice da 48 dc] 150) := ⟨_, rfl⟩
  obtain ⟨g1, hg1⟩ : ∃ y, y = w.heap.size := ⟨_, rfl⟩
  have hb1 : Below w.heap.size w w1 := by rw [hw1]; exact Below.new _ _
  have r0 : w1.cell? ⟨g1, 0, none⟩ = some (.int .i64 (xk : Int)) := by rw [hw1, hg1, cell_new]; rfl
  have r1 : w1.cell? ⟨g1, 1, none⟩ = some (.slice da 48 dc) := by rw [hw1, hg1, cell_new]; rfl
  have hz1 : w1.heap.size = g1 + 1 := by rw [hw1, hg1]; simp
  rw [← hw1, ← hg1]
  rw [← hg1] at hmlt
  have HG1 := Lib.hid hg1
  have HB1 := Lib.hid hb1
  clear hw1 hb1 hg1
  have HFL := Lib.hid (foldH_len (xk, xb) l)
  go_loopw [4, 5, 6] (fun vo vp vi wr => ∃ k : Nat, k ≤ n ∧ vi = .int .i64 k ∧ vp = .bool (foldH (xk, xb) (l.take k)).2 ∧ ∃ a mm c, vo = .slice a mm c ∧ Hid (OutH wr w1 g1 r.N a mm c (foldH (xk, xb) (l.take k)).1)) (fun _ _ i _ => n - (RowKit.intOf i).toNat)
  case atStart => exact ⟨0, by omega, rfl, rfl, none, 0, 0, rfl, Lib.hid ⟨rfl, OwnQ.nil _ _ _ _, Below.refl _ _, by omega⟩⟩
  case round =>
    obtain ⟨k, hk, rfl, rfl, a, mm, c, rfl, HG⟩ := hrel
    have m6 := keepb HG.out.be (show m < g1 + 1 by omega) (keepc HB1.out c6)
    have q0 := keepb HG.out.be (show g1 < g1 + 1 by omega) r0
    have q1 := keepb HG.out.be (show g1 < g1 + 1 by omega) r1
    by_cases hlt : k < n
    · have hkl : k < l.length := by have := HN.out; omega
      have hlk : l[k]? = some l[k] := List.getElem?_eq_getElem hkl
      obtain ⟨g6, rfl, hg6, hcs⟩ : ∃ g6, a6 = some ⟨g6, 0, none⟩ ∧ g6 < w.heap.size ∧ ∃ ya yc, w.cell? ⟨g6, k * 2, none⟩ = some (.int .i64 (l[k].1 : Int)) ∧ w.cell? ⟨g6, k * 2 + 1, none⟩ = some (.slice ya 48 yc) ∧ Dat w r.N (.slice ya 48 yc) (bytesB l[k].2) := by
        rcases HQ.out.form with ⟨e, _⟩ | ⟨g, c', e, _, _, hg, _, hc⟩
        · have := congrArg List.length e
          rw [putsP_length] at this
          simp at this
          rw [this] at hkl
          simp at hkl
        · simp only [Value.slice.injEq] at e
          obtain ⟨rfl, _, _⟩ := e
          obtain ⟨ya, yc, b1, b2, b3⟩ := hc k _ (putsP_get hlk)
          simp only [bytesB_length] at b2 b3
          exact ⟨g, rfl, hg, ya, yc, b1, b2, b3⟩
      obtain ⟨ya, yc, b1, b2, b3⟩ := hcs
      have hft := foldH_take (x := (xk, xb)) hkl
      rw [stepH_eq] at hft
      have hfl := HFL.out k (by omega)
      obtain ⟨y, hy⟩ : ∃ y, y = l[k] := ⟨_, rfl⟩
      obtain ⟨s, hs⟩ : ∃ s, s = foldH (xk, xb) (l.take k) := ⟨_, rfl⟩
      rw [← hy] at b1 b3 hft
      rw [← hs] at hft hfl HG ⊢
      have HYB : y.1 ≤ 9223372036854775807 := by have := HPN.out y (by rw [hy]; exact List.getElem_mem hkl); omega
      obtain ⟨yk, yb⟩ := y
      simp only at b1 b2 b3 hft HYB
      have hg6' : g6 < g1 + 1 := by have := HG1.out; omega
      have p0 := keepb HG.out.be hg6' (keepc HB1.out b1)
      have p1 := keepb HG.out.be hg6' (keepc HB1.out b2)
      have HDY := Lib.hid b3
      have HFT := Lib.hid hft
      have HP0 := Lib.hid b1
      have HYK : Hid (yk ≤ 9223372036854775807) := Lib.hid HYB
      have HP1 := Lib.hid b2
      have hsl : s.1.length ≤ 8192 := by omega
      clear hft hs hy hlk hkl b1 b2 b3 hfl
      obtain ⟨so, sp⟩ := s
      simp only at hsl HG ⊢
      have hA := stepA_len (xk, xb) (so, sp) (yk, yb)
      have HA8 : Hid ((stepA (xk, xb) (so, sp) (yk, yb)).length ≤ 8193) := Lib.hid (by simp only at hA; omega)
      clear hA
      go_upto_region 6 with (fail)
      go_cut [30] from 7 to 55 (fun v30 wx => v30 = .bool (!sp && decide (xk ≤ yk)) ∧ Hid (OutH wx w1 g1 r.N a mm c so))
      case first =>
        by_cases hsp : sp = true
        · subst hsp
          go_quiet (fail)
          go_wp2
          go_meet
          exact ⟨by simp, Lib.hid (HG.out.step (below_drewN (Below.refl _ _) _))⟩
        · have hsp' : sp = false := by simpa using hsp
          subst hsp'
          clear hsp
          by_cases hle : xk ≤ yk
          · have hlei : (xk : Int) ≤ (yk : Int) := by omega
            go_quiet (fail)
            go_wp2
            go_meet
            exact ⟨by simp [hle], Lib.hid (HG.out.step (below_drewN (Below.refl _ _) _))⟩
          · have hlei : ¬ (xk : Int) ≤ (yk : Int) := by omega
            go_quiet (fail)
            go_wp2
            go_meet
            exact ⟨by simp [hle], Lib.hid (HG.out.step (below_drewN (Below.refl _ _) _))⟩
      case rest =>
      obtain ⟨rfl, HG1⟩ := hcut
      obtain ⟨bb, hbb⟩ : ∃ bb, bb = (!sp && decide (xk ≤ yk)) := ⟨_, rfl⟩
      rw [← hbb]
      have HBB := Lib.hid hbb
      clear hbb HG m6 q0 q1 p0 p1
      go_upto_if 30 with (fail)
      go_cut [4, 5] from 7 to 55 (fun v4 v5 wx => v5 = .bool (sp || decide (xk ≤ yk)) ∧ ∃ a mm c, v4 = .slice a mm c ∧ Hid (OutH wx w1 g1 r.N a mm c (stepA (xk, xb) (so, sp) (yk, yb))))
      case first =>
        cases bb
        · go_wp2
          go_meet
          exact ⟨by rw [bor_not HBB.out], a, mm, c, rfl, Lib.hid (by rw [show stepA (xk, xb) (so, sp) (yk, yb) = so by unfold stepA; rw [← HBB.out]; rfl]; exact HG1.out)⟩
        · have q0 := keepb HG1.out.be (show g1 < g1 + 1 by omega) r0
          have q1 := keepb HG1.out.be (show g1 < g1 + 1 by omega) r1
          have HGX := HG1
          have HDX := Lib.hid ((HD.out.below HB1.out).below (below_mono1 HGX.out.be hz1))
          have hmm : mm = so.length := HG1.out.len
          have HL8 : Hid (mm ≤ 10000) := Lib.hid (by omega)
          clear hmm
          go_wp2_with (first | (at_builtin; go_loud (refine wp_append_q 150 126 rfl (.tmp 31) (.tmp 33) rfl Tryz.underlying126 info150 (by decide) (g1 + 1) r.N _ (putsP so) rfl (HGX.out.step (Below.new _ _)).own _ 1 ((xk : Int), bytesB xb) da 48 dc (bytesB_length _) rfl (heap_alloc_new _ _) (HDX.out.below (Below.new _ _)) (HGX.out.step (Below.new _ _)).sz _ (by rw [putsP_length]; exact HGX.out.len.symm) HL8.out (putsP (so ++ [(xk, xb)])) (putsP_snoc so (xk, xb)) ?_)))
          intro a' c' w' hown hbe _
          have hlen' : mm + 1 = (so ++ [(xk, xb)]).length := by have := HGX.out.len; simp; omega
          have HG2 : Hid (OutH w' w1 g1 r.N a' (mm + 1) c' (so ++ [(xk, xb)])) := Lib.hid ⟨hlen', hown, (HGX.out.step (Below.new _ _)).be.trans hbe, Nat.le_trans (HGX.out.step (Below.new _ _)).sz hbe.size⟩
          clear hown hbe hlen'
          go_wp2
          go_meet
          exact ⟨by rw [bor_of HBB.out], a', mm + 1, c', rfl, Lib.hid (by rw [show stepA (xk, xb) (so, sp) (yk, yb) = so ++ [(xk, xb)] by unfold stepA; rw [← HBB.out]; rfl]; exact HG2.out)⟩
      case rest =>
        obtain ⟨rfl, a2, mm2, c2, rfl, HG2⟩ := hcut
        obtain ⟨sA, hsA⟩ : ∃ s, s = stepA (xk, xb) (so, sp) (yk, yb) := ⟨_, rfl⟩
        rw [← hsA] at HA8 HFT HG2
        have m6 := keepb HG2.out.be (show m < g1 + 1 by omega) (keepc HB1.out c6)
        have q0 := keepb HG2.out.be (show g1 < g1 + 1 by omega) r0
        have q1 := keepb HG2.out.be (show g1 < g1 + 1 by omega) r1
        have p0 := keepb HG2.out.be hg6' (keepc HB1.out HP0.out)
        have p1 := keepb HG2.out.be hg6' (keepc HB1.out HP1.out)
        clear HG1 hsA hsl
        have hw4 : yk ≤ 9223372036854775807 := HYK.out
        by_cases heq : yk = xk
        · have hqi : ((yk : Int) != (xk : Int)) = false := by simp [heq]
          rw [if_pos heq, List.append_nil] at HFT
          clear heq
          go_upto_region 9 with (fail)
          go_quiet (fail)
          go_wp2
          go_roundw
          case rel => exact ⟨k + 1, by omega, by go_num, by rw [HFT.out], a2, mm2, c2, rfl, Lib.hid (by rw [HFT.out]; exact HG2.out.step (below_drewN (Below.refl _ _) _))⟩
          case measure => simp [RowKit.intOf]; omega
        · have hqi : ((yk : Int) != (xk : Int)) = true := by simp; omega
          rw [if_neg heq] at HFT
          clear heq
          go_upto_region 9 with (fail)
          go_quiet (fail)
          generalize hwq : wc.drewN _ = wq
          have hbq : Below wc.heap.size wc wq := by rw [← hwq]; exact below_drewN (Below.refl _ _) _
          have HGX := Lib.hid (HG2.out.step hbq)
          have HDX := Lib.hid ((HDY.out.below HB1.out).below (below_mono1 HGX.out.be hz1))
          have HL8 : Hid (mm2 ≤ 10000) := Lib.hid (by have := HG2.out.len; have := HA8.out; omega)
          replace m6 := keepc hbq m6
          replace p0 := keepc hbq p0
          replace p1 := keepc hbq p1
          clear hwq hbq q0 q1
          go_wp2_with (first | (at_builtin; go_loud (refine wp_append_q 150 126 rfl (.tmp 46) (.tmp 54) rfl Tryz.underlying126 info150 (by decide) (g1 + 1) r.N _ (putsP sA) rfl (HGX.out.step (Below.new _ _)).own _ 1 ((yk : Int), bytesB yb) ya 48 yc (bytesB_length _) rfl (heap_alloc_new _ _) (HDX.out.below (Below.new _ _)) (HGX.out.step (Below.new _ _)).sz _ (by rw [putsP_length]; exact HGX.out.len.symm) HL8.out (putsP (sA ++ [(yk, yb)])) (putsP_snoc sA (yk, yb)) ?_)))
          intro a' c' w' hown hbe _
          have hlen' : mm2 + 1 = (sA ++ [(yk, yb)]).length := by have := HGX.out.len; simp; omega
          have HG3 : Hid (OutH w' w1 g1 r.N a' (mm2 + 1) c' (sA ++ [(yk, yb)])) := Lib.hid ⟨hlen', hown, (HGX.out.step (Below.new _ _)).be.trans hbe, Nat.le_trans (HGX.out.step (Below.new _ _)).sz hbe.size⟩
          clear hown hbe hlen'
          go_wp2
          go_roundw
          case rel => exact ⟨k + 1, by omega, by go_num, by rw [HFT.out], a', mm2 + 1, c', rfl, Lib.hid (by rw [HFT.out]; exact HG3.out)⟩
          case measure => simp [RowKit.intOf]; omega
    · obtain rfl : k = n := by omega
      have hfin : l.take k = l := List.take_of_length_le (by have := HN.out; omega)
      rw [hfin] at HG ⊢
      clear hfin
      have hE := HE.out
      have HBW := Lib.hid (HB1.out.trans (HG.out.be.mono (show w.heap.size ≤ g1 + 1 by have := HG1.out; omega)))
      have h8 := HFL.out k (by have := HN.out; omega)
      have hkn : k ≤ 4096 := by have := HN.out; omega
      obtain ⟨s, hs⟩ : ∃ s, s = foldH (xk, xb) l := ⟨_, rfl⟩
      unfold hasH at hE
      rw [← hs] at HG hE ⊢
      rw [show l.take k = l from List.take_of_length_le (by have := HN.out; omega), ← hs] at h8
      have HE2 := Lib.hid hE
      have hsl : s.1.length ≤ 8192 := by omega
      have f6' : wr.frozen? ⟨m, 6, none⟩ = false := (HBW.out.frozen (p := ⟨m, 6, none⟩) (by have := HG1.out; simp only; omega)).trans f6
      clear hs hE h8
      obtain ⟨so, sp⟩ := s
      simp only at hsl HG HE2 ⊢
      cases sp
      · have HDX := Lib.hid ((HD.out.below HB1.out).below (below_mono1 HG.out.be hz1))
        have HGX := HG
        have HL8 : Hid (mm ≤ 10000) := Lib.hid (by have := HG.out.len; omega)
        go_wp2_with (first | (at_builtin; go_loud (refine wp_append_q 150 126 rfl (.tmp 58) (.tmp 60) rfl Tryz.underlying126 info150 (by decide) (g1 + 1) r.N _ (putsP so) rfl (HGX.out.step (Below.new _ _)).own _ 1 ((xk : Int), bytesB xb) da 48 dc (bytesB_length _) rfl (heap_alloc_new _ _) (HDX.out.below (Below.new _ _)) (HGX.out.step (Below.new _ _)).sz _ (by rw [putsP_length]; exact HGX.out.len.symm) HL8.out (putsP (so ++ [(xk, xb)])) (putsP_snoc so (xk, xb)) ?_)))
        intro a' c' w' hown hbe _
        have HO := Lib.hid hown
        have HB' := Lib.hid (((HBW.out.trans (Below.mono (Below.new _ _) HBW.out.size))).trans (hbe.mono (show w.heap.size ≤ g1 + 1 by have := HG1.out; omega)))
        have m6' := keepb HB'.out (by have := HG1.out; simp only; omega) c6
        have f6'' : w'.frozen? ⟨m, 6, none⟩ = false := (HB'.out.frozen (p := ⟨m, 6, none⟩) (by have := HG1.out; simp only; omega)).trans f6
        clear hown hbe q0 q1 f6' m6
        go_wp2
        go_end0
        refine ⟨⟨_, rfl⟩, (H.out.below HB'.out).setPend HOk.out ?_ (fun g hg hm => ?_), (Only.of_below HB'.out).setCell (by simp) _⟩
        · have h2 := HE2.out
          simp only [Bool.false_eq_true, if_false] at h2
          rw [← h2]
          exact HO.out.mono (Nat.zero_le _)
        · have h1 := (HO.out.blk hg).1
          have h2 := H.out.rf.x.ltN g hm
          have := HG1.out
          omega
      · go_wp2
        go_end0
        refine ⟨⟨_, rfl⟩, (H.out.below HBW.out).setPend HOk.out ?_ (fun g hg hm => ?_), (Only.of_below HBW.out).setCell (by simp) _⟩
        · have h2 := HE2.out
          simp only [if_true] at h2
          rw [← h2]
          exact HG.out.own.mono (Nat.zero_le _)
        · have h1 := (HG.out.own.blk hg).1
          have h2 := H.out.rf.x.ltN g hm
          have := HG1.out
          omega
end
end Go.Proofs.YtdhidcoglioalaaGreat.Walks
