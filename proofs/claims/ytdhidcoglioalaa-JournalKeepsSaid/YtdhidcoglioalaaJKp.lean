/-
  A journal keeps what it was told, whenever the power goes.
-/
import Derived.Test.YtdhidcoglioalaaJLv
import Derived.Test.YtdhidcoglioalaaJOpen
namespace Go.Proofs.Ytdhidcoglioalaa.Walks
open Go.RowKit Plain Jn
set_option linter.unusedVariables false
attribute [local go_sem ↓] exec_load67 exec_store67 exec_alloc67 exec_alloc103 exec_load67T exec_store67T Go.wp_at_zero Go.wp_at_succ
attribute [local go_sem] isPt_mk adOf_mk cellsV_mk twL_length setCells_drew oneN_tw roomN_new isRow_new cellL_new alloc_setN roomN_past isRow_past cellL_past roomN_drew isRow_drew cellL_drew setCells_size setCells_past
/-- A journal, its plate and the law's box of blocks. -/
structure Kp (w wr : World) (j : JLoc) (Q q : PLoc) (g : Nat) (bx : Nat → Byte) (J : Jn) (P : Pl) : Prop where
  jp : JP wr j Q J P
  box : wr.heap[g]? = some (.cells (twL bx).toArray 67 (0, 0))
  be : Below w.heap.size w wr
  out : g ∉ j.R Q
  new : ∀ b ∈ j.R Q, w.heap.size ≤ b
  gb : g ∈ Q.ban
  pq : pv Q = pv q
  g0 : w.heap.size ≤ g
theorem JP.inBan {w w' : World} {j : JLoc} {Q : PLoc} {J : Jn} {P : Pl} {R : List Nat} (h : JP w j Q J P) (ho : Only R w w') (hR : ∀ b ∈ R, b ∈ Q.ban ∧ b ∉ j.R Q) : JP w' j Q J P :=
  ⟨h.pl.only ho (fun b hb hm => (hR b hm).2 (JLoc.inQ hb)) (fun a hd hB => Only.bools ho (fun h0 ad e hm => (hd h0 ad e).2 (hR _ hm).1) hB), h.jn.only ho (fun hm => (hR _ hm).2 JLoc.inP) (fun hm => (hR _ hm).2 JLoc.inM), h.ok, h.bp, h.bm, h.np, h.nm⟩
section
variable {w wr w' : World} {j : JLoc} {Q q : PLoc} {g n L c : Nat} {bx now : Nat → Byte} {J : Jn} {P P' : Pl}
theorem Kp.ix (h : Kp w wr j Q q g bx J P) : IsRow 12 wr ⟨g, 0, none⟩ := (row_of h.box).is (twL_length _)
theorem Kp.cl (h : Kp w wr j Q q g bx J P) : cellL 12 wr ⟨g, 0, none⟩ = twL bx := (row_of h.box).cells (twL_length _)
theorem Kp.below (h : Kp w wr j Q q g bx J P) (hb : Below wr.heap.size wr w') : Kp w w' j Q q g bx J P :=
  ⟨h.jp.below hb, (hb.block _ (lt_of_heap h.box)).trans h.box, Below.step h.be hb, h.out, h.new, h.gb, h.pq, h.g0⟩
theorem Kp.set (h : Kp w wr j Q q g bx J P) (f : Nat → Byte) : Kp w (wr.setCells g 0 (twL f)) j Q q g f J P := by
  have ho : Only [g] wr (wr.setCells g 0 (twL f)) := Only.setCells (R := [g]) (b := g) (by simp) (twL f) 0 (Only.refl _ _)
  exact ⟨h.jp.inBan ho (fun b hb => by simp only [List.mem_singleton] at hb; subst hb; exact ⟨h.gb, h.out⟩), heap_set_tw h.box, ho.below h.be (fun r hr => by simp only [List.mem_singleton] at hr; rw [hr]; exact h.g0) (Nat.le_refl _), h.out, h.new, h.gb, h.pq, h.g0⟩
theorem Kp.plate (h : Kp w wr j Q q g bx J P) (hp : PlateAt w' Q P') (ho : Only Q.R wr w') (hn : P'.n = P.n) : Kp w w' j Q q g bx J P' :=
  ⟨h.jp.plate hp ho hn, hkeepO ho (fun hm => h.out (JLoc.inQ hm)) h.box, R_fresh h.be ho (fun b hb => h.new b (JLoc.inQ hb)), h.out, h.new, h.gb, h.pq, h.g0⟩
theorem Kp.plt (h : Kp w wr j Q q g bx J P) : Plt w wr Q g bx P := ⟨h.jp.pl, h.box, h.be, fun hm => h.out (JLoc.inQ hm), fun b hb => h.new b (JLoc.inQ hb)⟩
theorem Kp.all (h : Kp w wr j Q q g bx J P) (hk : KS n L P J now c) (h12 : 12 + L + 2 ≤ n) (y : Nat → Byte) : Calls Try.prog 37 #[jv j, twV y] wr fun e w' => e = .returned (.bool (allB now y)) ∧ Below wr.heap.size wr w' :=
  Calls.mono (all_is h.jp hk.dead now y (fun i hi => by have := hk.read (i := i) (by omega); unfold nowF at this; rw [if_pos hi] at this; exact this)) fun e w' ⟨h1, h2, h3⟩ => ⟨h1, h3⟩
theorem Kp.fail (h : Kp w wr j Q q g bx J P) {k : Int} (hk : -9223372036854775808 ≤ k ∧ k ≤ 9223372036854775807) {a : Option Addr} {l : List Bool} {cap : Nat} (hB : Bools wr a l) (hc : a = none → cap = 0) :
    Calls Try.prog 22 #[pv q, .int .i64 k, .slice a l.length cap] wr fun e w' => e = .returned (.int .i64 P.may) ∧ Kp w w' j Q q g bx J (P.fail k l) ∧ Only Q.R wr w' := by
  have := fail_any wr Q P h.jp.pl k hk a l cap hB hc
  rw [h.pq] at this
  exact Calls.mono this fun e w' ⟨h1, h2, h3⟩ => ⟨h1, h.plate h2 h3 (by unfold Pl.fail; split <;> rfl), h3⟩
theorem Kp.does (h : Kp w wr j Q q g bx J P) (hk : KS n L P J now c) (hc : c ≤ 1000) (ba : Option Addr) (bn bc : Nat) (l : List Int) (hn : l.length = bn) (hI : Ints wr ba l) (B : Byte) (clr : Bool) (fail : Int) (ka : Option Addr) (kn kc : Nat) :
    Calls Try.prog 35 #[jv j, twV bx, .agg #[.slice ba bn bc, .int .u8 (B.toNat : Int), .bool clr, .int .i64 fail, .slice ka kn kc]] wr fun e w' => e = .returned (.tuple #[twV (deedN bx ⟨l, B, clr⟩), .int .i64 (deedE P J ⟨l, B, clr⟩)]) ∧ Kp w w' j Q q g bx (deedJ P J ⟨l, B, clr⟩) (deedP P J ⟨l, B, clr⟩) := by
  refine Calls.mono (does_any h.jp (by have := hk.head; omega) (by have := hk.turn; omega) bx ba bn bc l hn hI B clr fail ka kn kc) ?_
  rintro e w' ⟨rfl, hj, ho⟩
  exact ⟨rfl, hj, hkeepO ho h.out h.box, R_fresh h.be ho h.new, h.out, h.new, h.gb, h.pq, h.g0⟩
theorem Kp.dead (h : Kp w wr j Q q g bx J P) : Calls Try.prog 25 #[pv q] wr fun e w' => e = .returned (.bool P.dead) ∧ wr = w' := by
  have := dead_any wr Q P h.jp.pl
  rw [h.pq] at this
  exact this
theorem Kp.boot (h : Kp w wr j Q q g bx J P) : Calls Try.prog 18 #[pv q] wr fun e w' => e = .returned (.int .i64 0) ∧ Plt w w' Q g bx P.boot ∧ Only Q.R wr w' := by
  have := boot_any wr Q P h.jp.pl
  rw [h.pq] at this
  exact Calls.mono this fun e w' ⟨h1, h2, h3⟩ => ⟨h1, h.plt.only h3 h2, h3⟩
theorem Plt.openK (h : Plt w wr Q g bx P) (h1 : P.flushE = 0) (h2 : openJ P.flush = some J) (hq : pv Q = pv q) (hgb : g ∈ Q.ban) (h0 : w.heap.size ≤ g) :
    Calls Try.prog 36 #[pv q] wr fun e w' => ∃ o Q', e = .returned (.tuple #[jv o, .int .i64 0]) ∧ Kp w w' o Q' q g bx J P.flush ∧ Only Q.R wr w' := by
  have := open_any wr Q P h.pl
  rw [hq] at this
  refine Calls.mono this ?_
  intro e w' hO
  unfold OpenR at hO
  rw [openE_good h1 h2, if_neg (by decide)] at hO
  obtain ⟨o, J', e1, rfl, hj, hp, hm, ho⟩ := hO
  rw [h2] at e1
  cases e1
  have hgl := lt_of_heap h.box
  refine ⟨o, Q.banX [o.p, o.m], rfl, ⟨hj, hkeepO ho h.out h.box, R_fresh h.be ho h.new, ?_, ?_, List.mem_append_right _ hgb, hq, h0⟩, ho⟩
  · intro hx
    simp only [JLoc.R, List.mem_cons] at hx
    rcases hx with e | e | hx
    · omega
    · omega
    · exact h.out hx
  · intro b hb
    have := h.be.size
    simp only [JLoc.R, List.mem_cons] at hb
    rcases hb with e | e | hx
    · omega
    · omega
    · exact h.new b hx
theorem dbox_cells {w : World} {g : Nat} {v0 v1 v2 v3 v4 : Value} (h : w.heap[g]? = some (.cells #[v0, v1, v2, v3, v4] 69 (0, 0))) :
    w.cell? ⟨g, 0, none⟩ = some v0 ∧ w.cell? ⟨g, 1, none⟩ = some v1 ∧ w.cell? ⟨g, 2, none⟩ = some v2 ∧ w.cell? ⟨g, 3, none⟩ = some v3 ∧ w.cell? ⟨g, 4, none⟩ = some v4 :=
  ⟨by rw [cell_of_row _ _ _ _ _ _ h]; rfl, by rw [cell_of_row _ _ _ _ _ _ h]; rfl, by rw [cell_of_row _ _ _ _ _ _ h]; rfl, by rw [cell_of_row _ _ _ _ _ _ h]; rfl, by rw [cell_of_row _ _ _ _ _ _ h]; rfl⟩
set_option maxRecDepth 20000 in
set_option maxHeartbeats 4000000 in
theorem journalKeeps_walk (z : Int) (a : Option Addr) (len cap : Nat) (w : World) (hI : Deedz w a len) : Calls Try.prog 9 #[.int .i64 z, .slice a len cap] w fun e w' => e = .returned (.bool true) ∧ Below w.heap.size w w' := by
  have HI := Lib.hid hI
  have hI1 := hI.1
  obtain ⟨r, hr⟩ : ∃ r : Nat, z % 19 = r := ⟨(z % 19).toNat, by omega⟩
  have hr19 : r < 19 := by omega
  have HBr : Hid (∀ w', Calls Try.prog 20 #[.int .i64 z, .int .i64 19] w' fun e w'' => e = .returned (.int .i64 (r : Int)) ∧ w' = w'') := Lib.hid fun w' => by
    have := bring_any z 19 w' (by decide) (by decide)
    rw [hr] at this
    exact this
  clear hI hr
  go_enter Try.func9, Try.ntmps9
  go_wp2_with fail
  refine Calls.mono (awake7 w) ?_
  rintro e w0 ⟨rfl, hb0⟩
  have HB0 := Lib.hid hb0
  clear hb0
  go_wp2_with fail
  refine Calls.mono (HBr.out _) ?_
  rintro e w' ⟨rfl, rfl⟩
  go_wp2_with fail
  have HMd : Hid (∀ w', Calls Try.prog 34 #[.int .i64 (14 + (2 + (r : Int))), .int .i64 (2 + (r : Int))] w' fun e w'' => ∃ q j, e = .returned (.tuple #[pv q, jv j, .bool true]) ∧ JP w'' j q (formatJ (2 + r)) (formatP (Pl.made (14 + (2 + r))) (2 + r)) ∧ Below w'.heap.size w' w'' ∧ (∀ b ∈ j.R q, w'.heap.size ≤ b)) := Lib.hid fun w' => by
    have := made_is (14 + (2 + r)) (2 + r) (by omega) (by omega) (by omega) w'
    rw [show ((14 + (2 + r) : Nat) : Int) = 14 + (2 + (r : Int)) by omega, show ((2 + r : Nat) : Int) = 2 + (r : Int) by omega] at this
    exact this
  refine Calls.mono (HMd.out _) ?_
  rintro e w1 ⟨q, j, rfl, hj, hb, hR⟩
  obtain ⟨w2, hw2⟩ : ∃ x, x = w1.alloc (.cells (twL tw0).toArray 67) := ⟨_, rfl⟩
  obtain ⟨g, hg⟩ : ∃ g, g = w1.heap.size := ⟨_, rfl⟩
  have hb2 : Below w1.heap.size w1 w2 := by rw [hw2]; exact Below.new _ _
  have hlt : g < w2.heap.size := by rw [hw2, hg]; simp
  have hbox : w2.heap[g]? = some (.cells (twL tw0).toArray 67 (0, 0)) := by rw [hw2, hg]; exact heap_alloc_new _ _
  have hgR : g ∉ j.R q := fun hm => by have := hj.lt _ hm; omega
  have hbe1 : Below w.heap.size w w1 := Below.step HB0.out hb
  have hg0 : w.heap.size ≤ g := by rw [hg]; exact hbe1.size
  obtain ⟨_, hks, hf0⟩ := made_ks (n := 14 + (2 + r)) (log := 2 + r) (by omega) (by omega) (by omega)
  have HK0 : Hid (Kp w w2 j (q.banX [g]) q g tw0 (formatJ (2 + r)) (formatP (Pl.made (14 + (2 + r))) (2 + r))) := Lib.hid ⟨hj.banned hb2 (X := [g]) (fun x hx => by simp only [List.mem_singleton] at hx; subst hx; exact ⟨Nat.le_of_eq hg.symm, hlt⟩), hbox, Below.step hbe1 hb2, hgR, fun b hm => Nat.le_trans HB0.out.size (hR b hm), List.mem_append_left _ (by simp), rfl, hg0⟩
  have HS0 : Hid (KS (14 + (2 + r)) (2 + r) (formatP (Pl.made (14 + (2 + r))) (2 + r)) (formatJ (2 + r)) tw0 0 ∧ (formatP (Pl.made (14 + (2 + r))) (2 + r)).fails = false) := Lib.hid ⟨hks, hf0⟩
  clear hj hb hR hb2 hlt hbox hgR hg0 hbe1 hks hf0
  go_upto_region 6 with (fail)
  rw [← hw2, ← hg]
  clear hw2 hg HB0
  go_wp2_with fail
  go_loopw [7, 8, 10] (fun v7 v8 i wr => ∃ (k : Nat) (now : Nat → Byte) (J : Jn) (P : Pl) (Q : PLoc) (j : JLoc), v7 = jv j ∧ v8 = .bool true ∧ i = .int .i64 k ∧ k ≤ 30 ∧ k ≤ len ∧ Hid (Kp w wr j Q q g now J P) ∧ Hid (KS (14 + (2 + r)) (2 + r) P J now k ∧ P.fails = false)) (fun _ _ i _ => 30 - (RowKit.intOf i).toNat)
  case atStart => exact ⟨0, tw0, _, _, _, j, rfl, rfl, rfl, by omega, Nat.zero_le _, HK0, HS0⟩
  case round =>
    clear HK0 HS0
    obtain ⟨k, now, J, P, Q, j, rfl, rfl, rfl, hk30, hklen, HK, HS⟩ := hrel
    by_cases hgo : k < len ∧ k < 30
    · obtain ⟨hlt, hlt30⟩ := hgo
      have hIr := HI.out.2
      rcases hIr with h0 | ⟨b, off, rfl, hc⟩
      · omega
      obtain ⟨x, hx0⟩ := hc k hlt
      have hx := hx0.below HK.out.be
      obtain ⟨m, hm⟩ : ∃ m, m = min x.L.length (1 + r) := ⟨_, rfl⟩
      have hmin : min (x.L.length : Int) (2 + (r : Int) - 1) = (m : Int) := by omega
      have hmb : m ≤ x.bc := by have := hx.ok.il; omega
      have hml : m ≤ x.L.length := by omega
      have hmr : m ≤ 1 + r := by omega
      clear hm
      have S0 := hx.c0
      have S1 := hx.c1
      have S2 := hx.c2
      have S3 := hx.c3
      have S4 := hx.c4
      have HX := Lib.hid hx0
      clear hx0 hx hc
      go_upto_region 11 with (fail)
      obtain ⟨wy, hwy⟩ : ∃ y, y = wr.alloc (.cells #[.slice x.ba m x.bc, .int .u8 (x.B.toNat : Int), .bool x.clr, .int .i64 x.fail, .slice x.ka x.K.length x.kc] 69) := ⟨_, rfl⟩
      obtain ⟨gd, hgd⟩ : ∃ y, y = wr.heap.size := ⟨_, rfl⟩
      have hdb : wy.heap[gd]? = some (.cells #[.slice x.ba m x.bc, .int .u8 (x.B.toNat : Int), .bool x.clr, .int .i64 x.fail, .slice x.ka x.K.length x.kc] 69 (0, 0)) := by rw [hwy, hgd]; exact heap_alloc_new _ _
      have HY := Lib.hid (HK.out.below (show Below wr.heap.size wr wy by rw [hwy]; exact Below.new _ _))
      have HGd : Hid (gd ∉ Q.R) := Lib.hid fun hmm => by have := HK.out.jp.lt gd (JLoc.inQ hmm); omega
      have HDb := Lib.hid hdb
      rw [← hwy, ← hgd]
      clear hwy hgd hdb S0 S1 S2 S3 S4 HK
      obtain ⟨D0, D1, D2, D3, D4⟩ := dbox_cells HDb.out
      have hCan := can_any HS.out.2 0
      by_cases hf : 0 < x.fail
      · have HCa := Lib.hid hCan
        have hfr : 0 ≤ x.fail % 40 ∧ x.fail % 40 < 40 := by omega
        have hkf := HS.out.1.fail (x.fail % 40) x.K
        have HF := Lib.hid (HY.out.fail (k := x.fail % 40) (by omega) (HX.out.below HY.out.be).ok.k HX.out.ok.kn)
        obtain ⟨P3, hP3⟩ : ∃ P3, P3 = P.fail (x.fail % 40) x.K := ⟨_, rfl⟩
        rw [← hP3] at HF hkf
        have HS3 : Hid (KS (14 + (2 + r)) (2 + r) P3 J now k ∧ Plain.Can P3 0) := Lib.hid ⟨hkf.1, hkf.2.2⟩
        clear hkf hP3 hCan HS
        go_wp2_with fail
        refine Calls.mono HF.out ?_
        rintro e w3 ⟨rfl, hk3, ho3⟩
        have HK3 := Lib.hid hk3
        have HD3 := Lib.hid (hkeepO ho3 HGd.out HDb.out)
        clear hk3 ho3 HF D0 D1 D2 D3 D4 HDb HY hfr HCa
        obtain ⟨C0, C1, C2, C3, C4⟩ := dbox_cells HD3.out
        have hix := HK3.out.ix
        have hcl := HK3.out.cl
        obtain ⟨d, hd⟩ : ∃ d : Deed, d = ⟨x.L.take m, x.B, x.clr⟩ := ⟨_, rfl⟩
        have hdo := HK3.out.does HS3.out.1 (by omega) x.ba m x.bc (x.L.take m) (by rw [List.length_take]; omega) ((HX.out.below HK3.out.be).ok.i.take m) x.B x.clr x.fail x.ka x.K.length x.kc
        rw [← hd] at hdo
        have hde := HS3.out.1.deed HS3.out.2 (by omega) d (by omega) (by rw [hd]; have h1 := deedL_len x.B (x.L.take m); rw [List.length_take] at h1; show (deedL x.B (x.L.take m)).length + 1 ≤ 2 + r; omega)
        obtain ⟨nx, hnx⟩ : ∃ nx, nx = deedN now d := ⟨_, rfl⟩
        obtain ⟨P5, hP5⟩ : ∃ P5, P5 = deedP P3 J d := ⟨_, rfl⟩
        obtain ⟨J5, hJ5⟩ : ∃ J5, J5 = deedJ P3 J d := ⟨_, rfl⟩
        rw [← hnx, ← hP5, ← hJ5] at hdo
        rw [← hnx, ← hP5, ← hJ5] at hde
        rcases hde with ⟨e0, hk1, hf1⟩ | ⟨e0, hff, hkd⟩
        · rw [e0] at hdo
          have HDo := Lib.hid hdo
          have HS6 := Lib.hid hk1
          clear hd hdo e0 hk1 hf1 hnx hP5 hJ5 HS3
          go_wp2_with fail
          refine Calls.mono HDo.out ?_
          rintro e w4 ⟨rfl, hk4⟩
          have HK4 := Lib.hid hk4
          clear hk4 HDo hix hcl C0 C1 C2 C3 C4 HD3 HK3
          go_upto_region 14 with (fail)
          obtain ⟨w5, hw5⟩ : ∃ y, y = w4.alloc (.cells (twL nx).toArray 67) := ⟨_, rfl⟩
          obtain ⟨g5, hg5⟩ : ∃ y, y = w4.heap.size := ⟨_, rfl⟩
          have h5b : w5.heap[g5]? = some (.cells (twL nx).toArray 67 (0, 0)) := by rw [hw5, hg5]; exact heap_alloc_new _ _
          have HK5 := Lib.hid (HK4.out.below (show Below w4.heap.size w4 w5 by rw [hw5]; exact Below.new _ _))
          have h5row := row_of h5b
          have h5ix := h5row.is (twL_length _)
          have h5cl := h5row.cells (twL_length _)
          have h5room := room_of HK5.out.box
          rw [← hw5, ← hg5]
          clear hw5 hg5 h5b h5row HK4
          obtain ⟨w6, hw6⟩ : ∃ y, y = w5.setCells g 0 (twL nx) := ⟨_, rfl⟩
          have HK6 := Lib.hid (HK5.out.set nx)
          rw [← hw6] at HK6
          go_upto_region 18 with (fail)
          rw [← hw6]
          clear hw6 HK5 h5ix h5cl h5room
          have hdd := HK6.out.dead
          rw [HS6.out.dead] at hdd
          have HDd := Lib.hid hdd
          clear hdd
          go_wp2_with fail
          refine Calls.mono HDd.out ?_
          rintro e w' ⟨rfl, rfl⟩
          clear HDd
          go_upto_region 26 with (fail)
          have hfl := HS6.out.fail (-1) []
          have HF6 : Hid (Calls Try.prog 22 #[pv q, .int .i64 (-1), .slice none 0 0] w6 fun e w' => e = .returned (.int .i64 P5.may) ∧ Kp w w' j Q q g nx J5 (P5.fail (-1) []) ∧ Only Q.R w6 w') := Lib.hid (HK6.out.fail (k := -1) (by decide) (Bools.nil _ _) (fun _ => rfl))
          have HS7 : Hid (KS (14 + (2 + r)) (2 + r) (P5.fail (-1) []) J5 nx (k + 1) ∧ (P5.fail (-1) []).fails = false) := Lib.hid ⟨hfl.1, hfl.2.1⟩
          clear hfl HK6 HS6
          go_wp2_with fail
          refine Calls.mono HF6.out ?_
          rintro e wf ⟨rfl, hkf, hof⟩
          have HK7 := Lib.hid hkf
          have hal := HK7.out.all HS7.out.1 (by omega) nx
          rw [allB_same] at hal
          have HAl := Lib.hid hal
          have hixf := HK7.out.ix
          have hclf := HK7.out.cl
          clear hkf hof hal HF6
          go_wp2_with fail
          refine Calls.mono HAl.out ?_
          rintro e wg ⟨rfl, hb⟩
          have HK8 := Lib.hid (HK7.out.below hb)
          clear hb HAl hixf hclf HK7
          go_wp2_with fail
          exact ⟨⟨k + 1, nx, _, _, Q, j, rfl, rfl, rfl, by omega, by omega, HK8, HS7⟩, by simp only [RowKit.intOf]; omega⟩
        · rw [e0] at hdo
          have HDo := Lib.hid hdo
          obtain ⟨nowX, hnX, hkd'⟩ : ∃ nowX, (nowX = now ∨ nowX = nx) ∧ KD (14 + (2 + r)) (2 + r) P5 nowX (k + 1) := by
            rcases hkd with h | h
            · exact ⟨_, .inl rfl, h⟩
            · exact ⟨_, .inr rfl, h⟩
          obtain ⟨hd0, hbf, J6, ho6, hk6, hf6⟩ := hkd'.open_
          obtain ⟨hor, hkh⟩ := held_of_kd hk6 hnX
          have HOr := Lib.hid hor
          have HKh := Lib.hid hkh
          have HKx := Lib.hid hk6
          have HDt := Lib.hid hd0
          have HBf := Lib.hid (show P5.boot.flushE = 0 ∧ openJ P5.boot.flush = some J6 from ⟨hbf, ho6⟩)
          clear hd hdo e0 hkd hff hnx hP5 hJ5 HS3 hkd' hnX hd0 hbf ho6 hk6 hf6 hor hkh
          go_wp2_with fail
          refine Calls.mono HDo.out ?_
          rintro e w4 ⟨rfl, hk4⟩
          have HK4 := Lib.hid hk4
          clear hk4 HDo hix hcl C0 C1 C2 C3 C4 HD3 HK3
          go_upto_region 14 with (fail)
          obtain ⟨w5, hw5⟩ : ∃ y, y = w4.alloc (.cells (twL nx).toArray 67) := ⟨_, rfl⟩
          obtain ⟨g5, hg5⟩ : ∃ y, y = w4.heap.size := ⟨_, rfl⟩
          have h5b : w5.heap[g5]? = some (.cells (twL nx).toArray 67 (0, 0)) := by rw [hw5, hg5]; exact heap_alloc_new _ _
          have HK5 := Lib.hid (HK4.out.below (show Below w4.heap.size w4 w5 by rw [hw5]; exact Below.new _ _))
          have HG5 : Hid (g5 ∉ Q.R) := Lib.hid fun hmm => by have := HK4.out.jp.lt g5 (JLoc.inQ hmm); omega
          have H5b := Lib.hid h5b
          rw [← hw5, ← hg5]
          clear hw5 hg5 h5b HK4
          have hdd := HK5.out.dead
          rw [HDt.out] at hdd
          have HDd := Lib.hid hdd
          clear hdd
          have HBo := Lib.hid HK5.out.boot
          go_wp2_with fail
          refine Calls.mono HDd.out ?_
          rintro e w' ⟨rfl, rfl⟩
          go_wp2_with fail
          refine Calls.mono HBo.out ?_
          rintro e w7 ⟨rfl, hp7, ho7⟩
          have HOp := Lib.hid (hp7.openK HBf.out.1 HBf.out.2 HK5.out.pq HK5.out.gb HK5.out.g0)
          have H7b := Lib.hid (hkeepO ho7 HG5.out H5b.out)
          clear hp7 ho7 HBo HDd H5b HK5
          go_wp2_with fail
          refine Calls.mono HOp.out ?_
          rintro e w8 ⟨o, Q8, rfl, hk8, ho8⟩
          have HK8 := Lib.hid hk8
          have H8b := Lib.hid (hkeepO ho8 HG5.out H7b.out)
          have HA1 := Lib.hid (hk8.all HKx.out (by omega) now)
          have hix8 := HK8.out.ix
          have hcl8 := HK8.out.cl
          clear hk8 ho8 HOp H7b
          go_wp2_with fail
          refine Calls.mono HA1.out ?_
          rintro e w9 ⟨rfl, hb9⟩
          have HK9 := Lib.hid (HK8.out.below hb9)
          have H9b := Lib.hid (hkeep hb9 H8b.out)
          clear hb9 hix8 hcl8 HA1 HK8 H8b
          have hix9 := HK9.out.ix
          have hcl9 := HK9.out.cl
          cases hA : allB nowX now
          · have hA2 : allB nowX nx = true := by have := HOr.out; rw [hA, Bool.false_or] at this; exact this
            have hA3 := HK9.out.all HKx.out (by omega) nx
            rw [hA2] at hA3
            have HA3 := Lib.hid hA3
            have HS6 : Hid (KS (14 + (2 + r)) (2 + r) P5.boot.flush J6 nx (k + 1)) := Lib.hid (by have := HKh.out; unfold heldB at this; rw [hA] at this; exact this)
            have h9row := row_of H9b.out
            have h9ix := h9row.is (twL_length _)
            have h9cl := h9row.cells (twL_length _)
            clear hA3 hA2 h9row HOr HKh
            go_wp2_with fail
            refine Calls.mono HA3.out ?_
            rintro e wa ⟨rfl, hb⟩
            have HKa := Lib.hid (HK9.out.below hb)
            have Hab := Lib.hid (hkeep hb H9b.out)
            clear hb HA3 HK9 H9b hix9 hcl9 h9ix h9cl
            have hA4 := HKa.out.all HKx.out (by omega) now
            rw [hA] at hA4
            have HA4 := Lib.hid hA4
            have hixa := HKa.out.ix
            have hcla := HKa.out.cl
            clear hA4 hA
            go_wp2_with fail
            refine Calls.mono HA4.out ?_
            rintro e wb ⟨rfl, hb⟩
            have HKb := Lib.hid (HKa.out.below hb)
            have Hbb := Lib.hid (hkeep hb Hab.out)
            clear hb HA4 HKa Hab hixa hcla HKx
            have hbrow := row_of Hbb.out
            have hbix := hbrow.is (twL_length _)
            have hbcl := hbrow.cells (twL_length _)
            have hbroom := room_of HKb.out.box
            obtain ⟨w6, hw6⟩ : ∃ y, y = wb.setCells g 0 (twL nx) := ⟨_, rfl⟩
            have HK6 := Lib.hid (HKb.out.set nx)
            rw [← hw6] at HK6
            clear hbrow
            go_upto_region 26 with (fail)
            rw [← hw6]
            clear hw6 HKb hbix hbcl hbroom Hbb
            have hfl := HS6.out.fail (-1) []
            have HF6 : Hid (Calls Try.prog 22 #[pv q, .int .i64 (-1), .slice none 0 0] w6 fun e w' => e = .returned (.int .i64 P5.boot.flush.may) ∧ Kp w w' o Q8 q g nx J6 (P5.boot.flush.fail (-1) []) ∧ Only Q8.R w6 w') := Lib.hid (HK6.out.fail (k := -1) (by decide) (Bools.nil _ _) (fun _ => rfl))
            have HS7 : Hid (KS (14 + (2 + r)) (2 + r) (P5.boot.flush.fail (-1) []) J6 nx (k + 1) ∧ (P5.boot.flush.fail (-1) []).fails = false) := Lib.hid ⟨hfl.1, hfl.2.1⟩
            clear hfl HK6 HS6
            go_wp2_with fail
            refine Calls.mono HF6.out ?_
            rintro e wf ⟨rfl, hkf, hof⟩
            have HK7 := Lib.hid hkf
            have hal := HK7.out.all HS7.out.1 (by omega) nx
            rw [allB_same] at hal
            have HAl := Lib.hid hal
            have hixf := HK7.out.ix
            have hclf := HK7.out.cl
            clear hkf hof hal HF6
            go_wp2_with fail
            refine Calls.mono HAl.out ?_
            rintro e wg ⟨rfl, hb⟩
            have HK8 := Lib.hid (HK7.out.below hb)
            clear hb HAl hixf hclf HK7
            go_wp2_with fail
            exact ⟨⟨k + 1, nx, _, _, Q8, o, rfl, rfl, rfl, by omega, by omega, HK8, HS7⟩, by simp only [RowKit.intOf]; omega⟩
          · have hA4 := HK9.out.all HKx.out (by omega) now
            rw [hA] at hA4
            have HA4 := Lib.hid hA4
            have HS6 : Hid (KS (14 + (2 + r)) (2 + r) P5.boot.flush J6 now (k + 1)) := Lib.hid (by have := HKh.out; unfold heldB at this; rw [hA] at this; exact this)
            clear hA4 hA HOr HKh HKx
            go_wp2_with fail
            refine Calls.mono HA4.out ?_
            rintro e wb ⟨rfl, hb⟩
            have HK6 := Lib.hid (HK9.out.below hb)
            clear hb HA4 HK9 hix9 hcl9 H9b
            go_upto_region 26 with (fail)
            have hfl := HS6.out.fail (-1) []
            have HF6 : Hid (Calls Try.prog 22 #[pv q, .int .i64 (-1), .slice none 0 0] wb fun e w' => e = .returned (.int .i64 P5.boot.flush.may) ∧ Kp w w' o Q8 q g now J6 (P5.boot.flush.fail (-1) []) ∧ Only Q8.R wb w') := Lib.hid (HK6.out.fail (k := -1) (by decide) (Bools.nil _ _) (fun _ => rfl))
            have HS7 : Hid (KS (14 + (2 + r)) (2 + r) (P5.boot.flush.fail (-1) []) J6 now (k + 1) ∧ (P5.boot.flush.fail (-1) []).fails = false) := Lib.hid ⟨hfl.1, hfl.2.1⟩
            clear hfl HK6 HS6
            go_wp2_with fail
            refine Calls.mono HF6.out ?_
            rintro e wf ⟨rfl, hkf, hof⟩
            have HK7 := Lib.hid hkf
            have hal := HK7.out.all HS7.out.1 (by omega) now
            rw [allB_same] at hal
            have HAl := Lib.hid hal
            have hixf := HK7.out.ix
            have hclf := HK7.out.cl
            clear hkf hof hal HF6
            go_wp2_with fail
            refine Calls.mono HAl.out ?_
            rintro e wg ⟨rfl, hb⟩
            have HK8 := Lib.hid (HK7.out.below hb)
            clear hb HAl hixf hclf HK7
            go_wp2_with fail
            exact ⟨⟨k + 1, now, _, _, Q8, o, rfl, rfl, rfl, by omega, by omega, HK8, HS7⟩, by simp only [RowKit.intOf]; omega⟩
      · have HS3 : Hid (KS (14 + (2 + r)) (2 + r) P J now k ∧ Plain.Can P 0) := Lib.hid ⟨HS.out.1, hCan⟩
        have HK3 := HY
        have HD3 := HDb
        clear hCan HY HDb HS
        go_upto_region 13 with (fail)
        clear D0 D1 D2 D3 D4
        obtain ⟨C0, C1, C2, C3, C4⟩ := dbox_cells HD3.out
        have hix := HK3.out.ix
        have hcl := HK3.out.cl
        obtain ⟨d, hd⟩ : ∃ d : Deed, d = ⟨x.L.take m, x.B, x.clr⟩ := ⟨_, rfl⟩
        have hdo := HK3.out.does HS3.out.1 (by omega) x.ba m x.bc (x.L.take m) (by rw [List.length_take]; omega) ((HX.out.below HK3.out.be).ok.i.take m) x.B x.clr x.fail x.ka x.K.length x.kc
        rw [← hd] at hdo
        have hde := HS3.out.1.deed HS3.out.2 (by omega) d (by omega) (by rw [hd]; have h1 := deedL_len x.B (x.L.take m); rw [List.length_take] at h1; show (deedL x.B (x.L.take m)).length + 1 ≤ 2 + r; omega)
        obtain ⟨nx, hnx⟩ : ∃ nx, nx = deedN now d := ⟨_, rfl⟩
        obtain ⟨P5, hP5⟩ : ∃ P5, P5 = deedP P J d := ⟨_, rfl⟩
        obtain ⟨J5, hJ5⟩ : ∃ J5, J5 = deedJ P J d := ⟨_, rfl⟩
        rw [← hnx, ← hP5, ← hJ5] at hdo
        rw [← hnx, ← hP5, ← hJ5] at hde
        rcases hde with ⟨e0, hk1, hf1⟩ | ⟨e0, hff, hkd⟩
        · rw [e0] at hdo
          have HDo := Lib.hid hdo
          have HS6 := Lib.hid hk1
          clear hd hdo e0 hk1 hf1 hnx hP5 hJ5 HS3
          go_wp2_with fail
          refine Calls.mono HDo.out ?_
          rintro e w4 ⟨rfl, hk4⟩
          have HK4 := Lib.hid hk4
          clear hk4 HDo hix hcl C0 C1 C2 C3 C4 HD3 HK3
          go_upto_region 14 with (fail)
          obtain ⟨w5, hw5⟩ : ∃ y, y = w4.alloc (.cells (twL nx).toArray 67) := ⟨_, rfl⟩
          obtain ⟨g5, hg5⟩ : ∃ y, y = w4.heap.size := ⟨_, rfl⟩
          have h5b : w5.heap[g5]? = some (.cells (twL nx).toArray 67 (0, 0)) := by rw [hw5, hg5]; exact heap_alloc_new _ _
          have HK5 := Lib.hid (HK4.out.below (show Below w4.heap.size w4 w5 by rw [hw5]; exact Below.new _ _))
          have h5row := row_of h5b
          have h5ix := h5row.is (twL_length _)
          have h5cl := h5row.cells (twL_length _)
          have h5room := room_of HK5.out.box
          rw [← hw5, ← hg5]
          clear hw5 hg5 h5b h5row HK4
          obtain ⟨w6, hw6⟩ : ∃ y, y = w5.setCells g 0 (twL nx) := ⟨_, rfl⟩
          have HK6 := Lib.hid (HK5.out.set nx)
          rw [← hw6] at HK6
          go_upto_region 18 with (fail)
          rw [← hw6]
          clear hw6 HK5 h5ix h5cl h5room
          have hdd := HK6.out.dead
          rw [HS6.out.dead] at hdd
          have HDd := Lib.hid hdd
          clear hdd
          go_wp2_with fail
          refine Calls.mono HDd.out ?_
          rintro e w' ⟨rfl, rfl⟩
          clear HDd
          go_upto_region 26 with (fail)
          have hfl := HS6.out.fail (-1) []
          have HF6 : Hid (Calls Try.prog 22 #[pv q, .int .i64 (-1), .slice none 0 0] w6 fun e w' => e = .returned (.int .i64 P5.may) ∧ Kp w w' j Q q g nx J5 (P5.fail (-1) []) ∧ Only Q.R w6 w') := Lib.hid (HK6.out.fail (k := -1) (by decide) (Bools.nil _ _) (fun _ => rfl))
          have HS7 : Hid (KS (14 + (2 + r)) (2 + r) (P5.fail (-1) []) J5 nx (k + 1) ∧ (P5.fail (-1) []).fails = false) := Lib.hid ⟨hfl.1, hfl.2.1⟩
          clear hfl HK6 HS6
          go_wp2_with fail
          refine Calls.mono HF6.out ?_
          rintro e wf ⟨rfl, hkf, hof⟩
          have HK7 := Lib.hid hkf
          have hal := HK7.out.all HS7.out.1 (by omega) nx
          rw [allB_same] at hal
          have HAl := Lib.hid hal
          have hixf := HK7.out.ix
          have hclf := HK7.out.cl
          clear hkf hof hal HF6
          go_wp2_with fail
          refine Calls.mono HAl.out ?_
          rintro e wg ⟨rfl, hb⟩
          have HK8 := Lib.hid (HK7.out.below hb)
          clear hb HAl hixf hclf HK7
          go_wp2_with fail
          exact ⟨⟨k + 1, nx, _, _, Q, j, rfl, rfl, rfl, by omega, by omega, HK8, HS7⟩, by simp only [RowKit.intOf]; omega⟩
        · rw [e0] at hdo
          have HDo := Lib.hid hdo
          obtain ⟨nowX, hnX, hkd'⟩ : ∃ nowX, (nowX = now ∨ nowX = nx) ∧ KD (14 + (2 + r)) (2 + r) P5 nowX (k + 1) := by
            rcases hkd with h | h
            · exact ⟨_, .inl rfl, h⟩
            · exact ⟨_, .inr rfl, h⟩
          obtain ⟨hd0, hbf, J6, ho6, hk6, hf6⟩ := hkd'.open_
          obtain ⟨hor, hkh⟩ := held_of_kd hk6 hnX
          have HOr := Lib.hid hor
          have HKh := Lib.hid hkh
          have HKx := Lib.hid hk6
          have HDt := Lib.hid hd0
          have HBf := Lib.hid (show P5.boot.flushE = 0 ∧ openJ P5.boot.flush = some J6 from ⟨hbf, ho6⟩)
          clear hd hdo e0 hkd hff hnx hP5 hJ5 HS3 hkd' hnX hd0 hbf ho6 hk6 hf6 hor hkh
          go_wp2_with fail
          refine Calls.mono HDo.out ?_
          rintro e w4 ⟨rfl, hk4⟩
          have HK4 := Lib.hid hk4
          clear hk4 HDo hix hcl C0 C1 C2 C3 C4 HD3 HK3
          go_upto_region 14 with (fail)
          obtain ⟨w5, hw5⟩ : ∃ y, y = w4.alloc (.cells (twL nx).toArray 67) := ⟨_, rfl⟩
          obtain ⟨g5, hg5⟩ : ∃ y, y = w4.heap.size := ⟨_, rfl⟩
          have h5b : w5.heap[g5]? = some (.cells (twL nx).toArray 67 (0, 0)) := by rw [hw5, hg5]; exact heap_alloc_new _ _
          have HK5 := Lib.hid (HK4.out.below (show Below w4.heap.size w4 w5 by rw [hw5]; exact Below.new _ _))
          have HG5 : Hid (g5 ∉ Q.R) := Lib.hid fun hmm => by have := HK4.out.jp.lt g5 (JLoc.inQ hmm); omega
          have H5b := Lib.hid h5b
          rw [← hw5, ← hg5]
          clear hw5 hg5 h5b HK4
          have hdd := HK5.out.dead
          rw [HDt.out] at hdd
          have HDd := Lib.hid hdd
          clear hdd
          have HBo := Lib.hid HK5.out.boot
          go_wp2_with fail
          refine Calls.mono HDd.out ?_
          rintro e w' ⟨rfl, rfl⟩
          go_wp2_with fail
          refine Calls.mono HBo.out ?_
          rintro e w7 ⟨rfl, hp7, ho7⟩
          have HOp := Lib.hid (hp7.openK HBf.out.1 HBf.out.2 HK5.out.pq HK5.out.gb HK5.out.g0)
          have H7b := Lib.hid (hkeepO ho7 HG5.out H5b.out)
          clear hp7 ho7 HBo HDd H5b HK5
          go_wp2_with fail
          refine Calls.mono HOp.out ?_
          rintro e w8 ⟨o, Q8, rfl, hk8, ho8⟩
          have HK8 := Lib.hid hk8
          have H8b := Lib.hid (hkeepO ho8 HG5.out H7b.out)
          have HA1 := Lib.hid (hk8.all HKx.out (by omega) now)
          have hix8 := HK8.out.ix
          have hcl8 := HK8.out.cl
          clear hk8 ho8 HOp H7b
          go_wp2_with fail
          refine Calls.mono HA1.out ?_
          rintro e w9 ⟨rfl, hb9⟩
          have HK9 := Lib.hid (HK8.out.below hb9)
          have H9b := Lib.hid (hkeep hb9 H8b.out)
          clear hb9 hix8 hcl8 HA1 HK8 H8b
          have hix9 := HK9.out.ix
          have hcl9 := HK9.out.cl
          cases hA : allB nowX now
          · have hA2 : allB nowX nx = true := by have := HOr.out; rw [hA, Bool.false_or] at this; exact this
            have hA3 := HK9.out.all HKx.out (by omega) nx
            rw [hA2] at hA3
            have HA3 := Lib.hid hA3
            have HS6 : Hid (KS (14 + (2 + r)) (2 + r) P5.boot.flush J6 nx (k + 1)) := Lib.hid (by have := HKh.out; unfold heldB at this; rw [hA] at this; exact this)
            have h9row := row_of H9b.out
            have h9ix := h9row.is (twL_length _)
            have h9cl := h9row.cells (twL_length _)
            clear hA3 hA2 h9row HOr HKh
            go_wp2_with fail
            refine Calls.mono HA3.out ?_
            rintro e wa ⟨rfl, hb⟩
            have HKa := Lib.hid (HK9.out.below hb)
            have Hab := Lib.hid (hkeep hb H9b.out)
            clear hb HA3 HK9 H9b hix9 hcl9 h9ix h9cl
            have hA4 := HKa.out.all HKx.out (by omega) now
            rw [hA] at hA4
            have HA4 := Lib.hid hA4
            have hixa := HKa.out.ix
            have hcla := HKa.out.cl
            clear hA4 hA
            go_wp2_with fail
            refine Calls.mono HA4.out ?_
            rintro e wb ⟨rfl, hb⟩
            have HKb := Lib.hid (HKa.out.below hb)
            have Hbb := Lib.hid (hkeep hb Hab.out)
            clear hb HA4 HKa Hab hixa hcla HKx
            have hbrow := row_of Hbb.out
            have hbix := hbrow.is (twL_length _)
            have hbcl := hbrow.cells (twL_length _)
            have hbroom := room_of HKb.out.box
            obtain ⟨w6, hw6⟩ : ∃ y, y = wb.setCells g 0 (twL nx) := ⟨_, rfl⟩
            have HK6 := Lib.hid (HKb.out.set nx)
            rw [← hw6] at HK6
            clear hbrow
            go_upto_region 26 with (fail)
            rw [← hw6]
            clear hw6 HKb hbix hbcl hbroom Hbb
            have hfl := HS6.out.fail (-1) []
            have HF6 : Hid (Calls Try.prog 22 #[pv q, .int .i64 (-1), .slice none 0 0] w6 fun e w' => e = .returned (.int .i64 P5.boot.flush.may) ∧ Kp w w' o Q8 q g nx J6 (P5.boot.flush.fail (-1) []) ∧ Only Q8.R w6 w') := Lib.hid (HK6.out.fail (k := -1) (by decide) (Bools.nil _ _) (fun _ => rfl))
            have HS7 : Hid (KS (14 + (2 + r)) (2 + r) (P5.boot.flush.fail (-1) []) J6 nx (k + 1) ∧ (P5.boot.flush.fail (-1) []).fails = false) := Lib.hid ⟨hfl.1, hfl.2.1⟩
            clear hfl HK6 HS6
            go_wp2_with fail
            refine Calls.mono HF6.out ?_
            rintro e wf ⟨rfl, hkf, hof⟩
            have HK7 := Lib.hid hkf
            have hal := HK7.out.all HS7.out.1 (by omega) nx
            rw [allB_same] at hal
            have HAl := Lib.hid hal
            have hixf := HK7.out.ix
            have hclf := HK7.out.cl
            clear hkf hof hal HF6
            go_wp2_with fail
            refine Calls.mono HAl.out ?_
            rintro e wg ⟨rfl, hb⟩
            have HK8 := Lib.hid (HK7.out.below hb)
            clear hb HAl hixf hclf HK7
            go_wp2_with fail
            exact ⟨⟨k + 1, nx, _, _, Q8, o, rfl, rfl, rfl, by omega, by omega, HK8, HS7⟩, by simp only [RowKit.intOf]; omega⟩
          · have hA4 := HK9.out.all HKx.out (by omega) now
            rw [hA] at hA4
            have HA4 := Lib.hid hA4
            have HS6 : Hid (KS (14 + (2 + r)) (2 + r) P5.boot.flush J6 now (k + 1)) := Lib.hid (by have := HKh.out; unfold heldB at this; rw [hA] at this; exact this)
            clear hA4 hA HOr HKh HKx
            go_wp2_with fail
            refine Calls.mono HA4.out ?_
            rintro e wb ⟨rfl, hb⟩
            have HK6 := Lib.hid (HK9.out.below hb)
            clear hb HA4 HK9 hix9 hcl9 H9b
            go_upto_region 26 with (fail)
            have hfl := HS6.out.fail (-1) []
            have HF6 : Hid (Calls Try.prog 22 #[pv q, .int .i64 (-1), .slice none 0 0] wb fun e w' => e = .returned (.int .i64 P5.boot.flush.may) ∧ Kp w w' o Q8 q g now J6 (P5.boot.flush.fail (-1) []) ∧ Only Q8.R wb w') := Lib.hid (HK6.out.fail (k := -1) (by decide) (Bools.nil _ _) (fun _ => rfl))
            have HS7 : Hid (KS (14 + (2 + r)) (2 + r) (P5.boot.flush.fail (-1) []) J6 now (k + 1) ∧ (P5.boot.flush.fail (-1) []).fails = false) := Lib.hid ⟨hfl.1, hfl.2.1⟩
            clear hfl HK6 HS6
            go_wp2_with fail
            refine Calls.mono HF6.out ?_
            rintro e wf ⟨rfl, hkf, hof⟩
            have HK7 := Lib.hid hkf
            have hal := HK7.out.all HS7.out.1 (by omega) now
            rw [allB_same] at hal
            have HAl := Lib.hid hal
            have hixf := HK7.out.ix
            have hclf := HK7.out.cl
            clear hkf hof hal HF6
            go_wp2_with fail
            refine Calls.mono HAl.out ?_
            rintro e wg ⟨rfl, hb⟩
            have HK8 := Lib.hid (HK7.out.below hb)
            clear hb HAl hixf hclf HK7
            go_wp2_with fail
            exact ⟨⟨k + 1, now, _, _, Q8, o, rfl, rfl, rfl, by omega, by omega, HK8, HS7⟩, by simp only [RowKit.intOf]; omega⟩
    · have hgo' : ¬ k < len ∨ k < len ∧ ¬ k < 30 := by omega
      have HBe := Lib.hid HK.out.be
      rcases hgo' with hgo1 | ⟨hgo1, hgo2⟩
      all_goals
        go_wp2
        go_ret
        exact ⟨rfl, HBe.out⟩
end
end Go.Proofs.Ytdhidcoglioalaa.Walks
