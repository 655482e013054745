/-
  A deed changes the blocks that it names, and no other.
-/
import Derived.Test.YtdhidcoglioalaaJLv
import Derived.Test.YtdhidcoglioalaaJOpen
namespace Go.Proofs.Ytdhidcoglioalaa.Plain
open Jn
/-- A deed's blocks, by number. -/
def nmB (l : List Int) (k : Nat) : Bool := l.any fun x => (x % 12).toNat == k
theorem nmB_take {l : List Int} {m : Nat} (h : m < l.length) (k : Nat) : nmB (l.take (m + 1)) k = (nmB (l.take m) k || ((l[m] % 12).toNat == k)) := by
  unfold nmB
  rw [List.take_succ_eq_append_getElem h, List.any_append]
  simp
theorem deedGo_keys (B : Byte) (k : Nat) : ∀ (l : List Int) (i : Nat) (acc : List (Nat × Byte)), nmB l k = false → (∀ x ∈ acc, x.1 ≠ k) → ∀ x ∈ deedGo B i l acc, x.1 ≠ k
  | [], _, acc, _, h => h
  | y :: l, i, acc, hn, h => by
    unfold nmB at hn
    rw [List.any_cons, Bool.or_eq_false_iff] at hn
    unfold deedGo
    split
    · exact deedGo_keys B k l _ acc hn.2 h
    · refine deedGo_keys B k l _ _ hn.2 fun x hx => ?_
      rcases List.mem_append.1 hx with hx | hx
      · exact h x hx
      · simp only [List.mem_singleton] at hx
        subst hx
        simpa using hn.1
theorem nextB_other (k : Nat) : ∀ (l : List (Nat × Byte)) (now : Nat → Byte), (∀ x ∈ l, x.1 ≠ k) → nextB now l k = now k
  | [], _, _ => rfl
  | y :: l, now, h => by
    show nextB (upd now y.1 y.2) l k = now k
    rw [nextB_other k l _ fun x hx => h x (List.mem_cons_of_mem _ hx)]
    exact upd_other _ _ fun e => h y List.mem_cons_self e.symm
theorem apart (now : Nat → Byte) (l : List Int) (B : Byte) (c : Bool) (k : Nat) (h : (nmB (l.take 12) k && !c) = false) : nowF (deedN now ⟨l, B, c⟩) k = nowF now k := by
  unfold deedN
  cases c
  · simp only [Bool.not_false, Bool.and_true] at h
    unfold nowF
    by_cases hk : k < 12
    · rw [if_pos hk, if_pos hk]
      exact congrArg oneB (nextB_other k _ now (deedGo_keys B k _ 0 [] h (by simp)))
    · rw [if_neg hk, if_neg hk]
  · rfl
end Go.Proofs.Ytdhidcoglioalaa.Plain
namespace Go.Proofs.Ytdhidcoglioalaa.Walks
open Go.RowKit Plain Jn
set_option linter.unusedVariables false
def was0 : List Value := (List.range 38).map fun _ => .slice none 0 0
theorem zero76 (w : World) : (zeroValue 76).run Try.prog w = .ok (.agg was0.toArray) w := by
  kernel_rfl
section
variable {ρ : Operand → Value} {d : Option Tmp} {x y : Operand} {t : TypeId} {p : String} {af : Array Edge} {gd : Option (Nat × Bool)} {w : World} {T : TypeId}
theorem exec_alloc76 : (execOp ρ ⟨d, .alloc 76, t, p, af, gd⟩).run Try.prog w = .ok (.value (.pointer (some ⟨w.heap.size, 0, none⟩))) (w.alloc (.cells was0.toArray 76)) := exec_allocN zero76
end
attribute [local go_sem ↓] exec_load67 exec_store67 exec_alloc67 exec_alloc103 exec_alloc76 Go.wp_at_zero Go.wp_at_succ
attribute [local go_sem] isPt_mk adOf_mk cellsV_mk twL_length setCells_drew oneN_tw roomN_new isRow_new cellL_new alloc_setN roomN_past isRow_past cellL_past roomN_drew isRow_drew cellL_drew setCells_size setCells_past
/-- What was read, so far. -/
structure WasA (R : List Nat) (w : World) (g : Nat) (F : Nat → Blk) (m : Nat) : Prop where
  ok : ∃ vs : List Value, vs.length = 38 ∧ w.heap[g]? = some (.cells vs.toArray 76 (0, 0)) ∧ ∀ i, i < m → ∃ b o, vs[i]? = some (.slice (some ⟨b, o, none⟩) 48 48) ∧ b ∉ R ∧ b ≠ g ∧ RowAt w ⟨b, o, none⟩ (blkL (F i))
  out : g ∉ R
section
variable {w w' : World} {R : List Nat} {g m : Nat} {F : Nat → Blk}
theorem WasA.only (h : WasA R w g F m) (ho : Only R w w') : WasA R w' g F m := by
  obtain ⟨vs, h1, h2, h3⟩ := h.ok
  exact ⟨⟨vs, h1, hkeepO ho h.out h2, fun i hi => by obtain ⟨b, o, g1, g2, g3, g4⟩ := h3 i hi; exact ⟨b, o, g1, g2, g3, g4.only ho g2⟩⟩, h.out⟩
theorem WasA.below (h : WasA R w g F m) (hb : Below w.heap.size w w') : WasA R w' g F m := by
  obtain ⟨vs, h1, h2, h3⟩ := h.ok
  exact ⟨⟨vs, h1, hkeep hb h2, fun i hi => by obtain ⟨b, o, g1, g2, g3, g4⟩ := h3 i hi; exact ⟨b, o, g1, g2, g3, g4.of fun o v hc => keepc hb hc⟩⟩, h.out⟩
theorem WasA.lt (h : WasA R w g F m) : g < w.heap.size := by
  obtain ⟨vs, h1, h2, h3⟩ := h.ok
  exact lt_of_heap h2
theorem WasA.cell (h : WasA R w g F m) {i : Nat} (hi : i < 38) : (∃ v, w.cell? ⟨g, i, none⟩ = some v) ∧ w.frozen? ⟨g, i, none⟩ = false := by
  obtain ⟨vs, h1, h2, h3⟩ := h.ok
  refine ⟨⟨vs[i], ?_⟩, by unfold World.frozen?; simp only [h2]; rfl⟩
  rw [cell_of_row _ _ _ _ _ _ h2, List.getElem?_toArray]
  exact List.getElem?_eq_getElem (by omega)
theorem WasA.set (h : WasA R w g F m) (hm : m < 38) {b o : Nat} (h1 : b ∉ R) (h2 : b ≠ g) (h3 : RowAt w ⟨b, o, none⟩ (blkL (F m))) : WasA R (w.setCell ⟨g, m, none⟩ (.slice (some ⟨b, o, none⟩) 48 48)) g F (m + 1) := by
  obtain ⟨vs, e1, e2, e3⟩ := h.ok
  have ho : Only [g] w (w.setCell ⟨g, m, none⟩ (.slice (some ⟨b, o, none⟩) 48 48)) := (Only.refl _ _).setCell (by simp) _
  refine ⟨⟨vs.set m (.slice (some ⟨b, o, none⟩) 48 48), by rw [List.length_set]; exact e1, by rw [show (vs.set m (.slice (some ⟨b, o, none⟩) 48 48)).toArray = vs.toArray.setIfInBounds m (.slice (some ⟨b, o, none⟩) 48 48) by simp]; exact heap_setCell_same w g m vs.toArray 76 _ e2, fun i hi => ?_⟩, h.out⟩
  by_cases him : i = m
  · subst him
    exact ⟨b, o, by rw [List.getElem?_set_self (by omega)], h1, h2, h3.only ho (by simpa using h2)⟩
  · obtain ⟨b', o', g1, g2, g3, g4⟩ := e3 i (by omega)
    exact ⟨b', o', by rw [List.getElem?_set_ne (fun e => him e.symm)]; exact g1, g2, g3, g4.only ho (by simpa using g3)⟩
theorem WasA.get (h : WasA R w g F m) {i : Nat} (hi : i < m) : ∃ b o, w.cell? ⟨g, i, none⟩ = some (.slice (some ⟨b, o, none⟩) 48 48) ∧ RowAt w ⟨b, o, none⟩ (blkL (F i)) := by
  obtain ⟨vs, h1, h2, h3⟩ := h.ok
  obtain ⟨b, o, g1, _, _, g4⟩ := h3 i hi
  exact ⟨b, o, by rw [cell_of_row _ _ _ _ _ _ h2, List.getElem?_toArray, g1], g4⟩
end
section
variable {w w' : World} {j : JLoc} {q : PLoc} {J J' : Jn} {P P' : Pl}
theorem blk38 {now : Nat → Byte} {c : Nat} (h : KS 60 20 P J now c) : J.blocks P.n = 38 := by
  unfold Jn.blocks
  rw [h.log, h.n, h.live.1]
  simp
theorem blocks_is {n : Nat} (h : JP w j q J P) (hn : J.blocks P.n = n) : Calls Try.prog 38 #[jv j] w fun e w' => e = .returned (.int .i64 n) ∧ JP w' j q J P ∧ Below w.heap.size w w' := by
  have := jblocks_any h
  rw [hn] at this
  exact Calls.mono this fun e w' ⟨h1, k, h2⟩ => ⟨h1, by rw [h2]; exact h.drewN k, by rw [h2]; exact below_drewN (Below.refl _ _) k⟩
set_option maxRecDepth 20000 in
set_option maxHeartbeats 4000000 in
theorem journalApart_walk (a : Option Addr) (len cap : Nat) (w : World) (hI : Deedz w a len) : Calls Try.prog 10 #[.slice a len cap] w fun e w' => e = .returned (.bool true) ∧ Below w.heap.size w w' := by
  have hMd := made_is 60 20 (by decide) (by decide) (by decide)
  have HMd := Lib.hid hMd
  have HI := Lib.hid hI
  have hI1 := hI.1
  clear hMd hI
  go_enter Try.func10, Try.ntmps10
  go_wp2_with fail
  refine Calls.mono (HMd.out _) ?_
  rintro e w1 ⟨q, j, rfl, hj, hb, hR⟩
  obtain ⟨_, hks, hf0⟩ := made_ks (n := 60) (log := 20) (by decide) (by decide) (by decide)
  have HJ0 : Hid (JP w1 j q (formatJ 20) (formatP (Pl.made 60) 20)) := Lib.hid hj
  have HB0 := Lib.hid hb
  have HR := Lib.hid hR
  have HS0 : Hid (KS 60 20 (formatP (Pl.made 60) 20) (formatJ 20) tw0 0 ∧ (formatP (Pl.made 60) 20).fails = false) := Lib.hid ⟨hks, hf0⟩
  have HBan := Lib.hid (show j.p ∈ q.ban ∧ j.m ∈ q.ban from ⟨hj.bp, hj.bm⟩)
  clear hj hb hR hks hf0
  go_wp2_with fail
  go_loopw [5, 6] (fun v5 i wr => ∃ (k : Nat) (now : Nat → Byte) (J : Jn) (P : Pl), v5 = .bool true ∧ i = .int .i64 k ∧ k ≤ 20 ∧ k ≤ len ∧ Hid (JP wr j q J P) ∧ Hid (Below w.heap.size w wr) ∧ Hid (KS 60 20 P J now k ∧ P.fails = false)) (fun _ i _ => 20 - (RowKit.intOf i).toNat)
  case atStart => exact ⟨0, tw0, _, _, rfl, rfl, by omega, Nat.zero_le _, HJ0, HB0, HS0⟩
  case round =>
    clear HJ0 HB0 HS0
    obtain ⟨k, now, J, P, rfl, rfl, hk20, hklen, HJ, HB, HS⟩ := hrel
    by_cases hgo : k < len ∧ k < 20
    · obtain ⟨hlt, hlt20⟩ := hgo
      have hIr := HI.out.2
      rcases hIr with h0 | ⟨b, off, rfl, hc⟩
      · omega
      obtain ⟨x, hx0⟩ := hc k hlt
      have HX := Lib.hid hx0
      clear hx0 hc
      obtain ⟨w1', hw1'⟩ : ∃ y, y = wr.alloc (.cells was0.toArray 76) := ⟨_, rfl⟩
      obtain ⟨g, hg⟩ : ∃ y, y = wr.heap.size := ⟨_, rfl⟩
      have hbw : Below wr.heap.size wr w1' := by rw [hw1']; exact Below.new _ _
      have hgR : g ∉ j.R q := fun hm => by have := HJ.out.lt g hm; omega
      have hW0 : WasA (j.R q) w1' g (nowF now) 0 := ⟨⟨was0, by simp [was0], by rw [hw1', hg]; exact heap_alloc_new _ _, fun i hi => absurd hi (Nat.not_lt_zero i)⟩, hgR⟩
      have hjq := HJ.out.banned hbw (X := [g]) (fun y hy => by simp only [List.mem_singleton] at hy; subst hy; exact ⟨Nat.le_of_eq hg.symm, hW0.lt⟩)
      have HJ1 : Hid (JP w1' j (q.banX [g]) J P) := Lib.hid hjq
      have HW1 := Lib.hid hW0
      have HBw := Lib.hid hbw
      have HG : Hid (g = wr.heap.size) := Lib.hid hg
      go_upto_region 6 with (fail)
      rw [← hw1', ← hg]
      clear hw1' hg hbw hgR hW0 hjq
      have hg0 : w.heap.size ≤ g := by have := HG.out; have := HB.out.size; omega
      have HG0 := Lib.hid hg0
      have HB1 := Lib.hid (Below.step HB.out HBw.out)
      clear hg0 HG HBw HB HJ
      go_wp2_with fail
      go_loopw [8] (fun v wr => ∃ m : Nat, m ≤ 38 ∧ v = .int .i64 m ∧ Hid (JP wr j (q.banX [g]) J P) ∧ Hid (WasA (j.R q) wr g (nowF now) m) ∧ Hid (Below w.heap.size w wr)) (fun i _ => 38 - (RowKit.intOf i).toNat)
      case atStart => exact ⟨0, by omega, rfl, HJ1, HW1, HB1⟩
      case round =>
        clear HJ1 HW1 HB1
        obtain ⟨m, hm38, rfl, HJ, HW, HB⟩ := hrel
        have HBl : Hid (Calls Try.prog 38 #[jv j] wr fun e w' => e = .returned (.int .i64 38) ∧ JP w' j (q.banX [g]) J P ∧ Below wr.heap.size wr w') := Lib.hid (blocks_is HJ.out (blk38 HS.out.1))
        by_cases hlt : m < 38
        · go_wp2_with fail
          refine Calls.mono HBl.out ?_
          rintro e w2 ⟨rfl, hj, hb⟩
          have HJ2 := Lib.hid hj
          have HW2 := Lib.hid (HW.out.below hb)
          have HB2 := Lib.hid (Below.step HB.out hb)
          obtain ⟨r1, r2, r3⟩ := HS.out.1.read (i := m) (by omega)
          have hrd := jread_bel hj HS.out.1.dead m
          rw [r1, r2, r3] at hrd
          have HRd := Lib.hid hrd
          clear hj hb HBl HJ HW HB hrd r1 r2 r3
          go_wp2_with fail
          refine Calls.mono HRd.out ?_
          rintro e w3 ⟨⟨v, rfl, hv⟩, hj, hb⟩
          unfold ReadV at hv
          rw [if_pos rfl] at hv
          obtain ⟨rg, ro, rfl, hrg, hrow, _⟩ := hv
          have hw3 := HW2.out.below hb
          obtain ⟨⟨v0, hcell⟩, hfz⟩ := hw3.cell hlt
          have hrR : rg ∉ j.R q := fun hm => by have := HJ2.out.lt rg hm; omega
          have hrN : rg ≠ g := fun e => by have := HW2.out.lt; omega
          obtain ⟨w4, hw4⟩ : ∃ y, y = w3.setCell ⟨g, m, none⟩ (.slice (some ⟨rg, ro, none⟩) 48 48) := ⟨_, rfl⟩
          have ho4 : Only [g] w3 w4 := by rw [hw4]; exact (Only.refl _ _).setCell (by simp) _
          have HW4 : Hid (WasA (j.R q) w4 g (nowF now) (m + 1)) := Lib.hid (by rw [hw4]; exact hw3.set hlt hrR hrN hrow)
          have HJ4 := Lib.hid (hj.other ho4 (fun y hy => by simp only [List.mem_singleton] at hy; subst hy; exact ⟨by simp, HW2.out.out⟩))
          have HB4 := Lib.hid (ho4.below (Below.step HB2.out hb) (fun y hy => by simp only [List.mem_singleton] at hy; rw [hy]; exact HG0.out) (Nat.le_refl _))
          clear hj hb hrg hrow hw3 hrR hrN ho4 HRd HJ2 HW2 HB2
          go_upto_region 8 with (fail)
          rw [← hw4]
          clear hw4 hcell hfz
          go_wp2
          go_roundw
          case rel => exact ⟨m + 1, by omega, by go_num, HJ4, HW4, HB4⟩
          case measure => simp [RowKit.intOf]; omega
        · obtain rfl : m = 38 := by omega
          go_wp2_with fail
          refine Calls.mono HBl.out ?_
          rintro e w2 ⟨rfl, hj, hb⟩
          have HW2 := Lib.hid (HW.out.below hb)
          have HB2 := Lib.hid (Below.step HB.out hb)
          have hx := HX.out.below HB2.out
          obtain ⟨d, hd⟩ : ∃ d : Deed, d = ⟨x.L, x.B, x.clr⟩ := ⟨_, rfl⟩
          have hlen12 := (deedL_ok x.B x.L).len
          obtain ⟨hE, hK1, hF1⟩ := HS.out.1.deed_ok HS.out.2 (by omega) d (by decide) (by rw [hd]; show (deedL x.B x.L).length + 1 ≤ 20; omega)
          have hdo := does_any hj (by have := HS.out.1.head; omega) (by have := HS.out.1.turn; omega) tw0 x.ba x.L.length x.bc x.L rfl hx.ok.i x.B x.clr x.fail x.ka x.K.length x.kc
          rw [← hd, hE] at hdo
          have HAp : Hid (∀ i, (nmB (x.L.take 12) i && !x.clr) = false → nowF (deedN now d) i = nowF now i) := Lib.hid fun i hi => by rw [hd]; exact apart now x.L x.B x.clr i hi
          obtain ⟨nx, hnx⟩ : ∃ nx, nx = deedN tw0 d := ⟨_, rfl⟩
          obtain ⟨nw, hnw⟩ : ∃ nw, nw = deedN now d := ⟨_, rfl⟩
          obtain ⟨P5, hP5⟩ : ∃ P5, P5 = deedP P J d := ⟨_, rfl⟩
          obtain ⟨J5, hJ5⟩ : ∃ J5, J5 = deedJ P J d := ⟨_, rfl⟩
          rw [← hnx, ← hP5, ← hJ5] at hdo
          rw [← hP5, ← hJ5, ← hnw] at hK1
          rw [← hP5] at hF1
          rw [← hnw] at HAp
          have HDo := Lib.hid hdo
          have HS5 : Hid (KS 60 20 P5 J5 nw (k + 1) ∧ P5.fails = false) := Lib.hid ⟨hK1, hF1⟩
          have S0 := hx.c0
          have S1 := hx.c1
          have S2 := hx.c2
          have S3 := hx.c3
          have S4 := hx.c4
          clear hj hb HBl HJ HW HB hd hE hK1 hF1 hdo hnx hnw hP5 hJ5 hlen12 hx HS hlt hm38
          go_wp2_with fail
          refine Calls.mono HDo.out ?_
          rintro e w4 ⟨rfl, hj, ho⟩
          have HJ4 := Lib.hid hj
          have HW4 := Lib.hid (HW2.out.only ho)
          have HB4 := Lib.hid (R_fresh HB2.out ho HR.out)
          clear hj ho HDo HW2 HB2 S0 S1 S2 S3 S4
          go_upto_region 12 with (fail)
          obtain ⟨w5, hw5⟩ : ∃ y, y = w4.alloc (.cells (twL nx).toArray 67) := ⟨_, rfl⟩
          have hb5 : Below w4.heap.size w4 w5 := by rw [hw5]; exact Below.new _ _
          have HJ5 := Lib.hid (HJ4.out.below hb5)
          have HW5 := Lib.hid (HW4.out.below hb5)
          have HB5 := Lib.hid (Below.step HB4.out hb5)
          have HBl : Hid (Calls Try.prog 38 #[jv j] w5 fun e w' => e = .returned (.int .i64 38) ∧ JP w' j (q.banX [g]) J5 P5 ∧ Below w5.heap.size w5 w') := Lib.hid (blocks_is HJ5.out (blk38 HS5.out.1))
          rw [← hw5]
          clear hw5 hb5 HJ4 HW4 HB4
          go_wp2_with fail
          refine Calls.mono HBl.out ?_
          rintro e w6 ⟨rfl, hj, hb⟩
          have HJ6 := Lib.hid hj
          have HW6 := Lib.hid (HW5.out.below hb)
          have HB6 := Lib.hid (Below.step HB5.out hb)
          clear hj hb HBl HJ5 HW5 HB5
          go_wp2_with fail
          go_loopw [5, 13] (fun v5 v wr => ∃ m : Nat, v5 = .bool true ∧ m ≤ 38 ∧ v = .int .i64 m ∧ Hid (JP wr j (q.banX [g]) J5 P5) ∧ Hid (WasA (j.R q) wr g (nowF now) 38) ∧ Hid (Below w.heap.size w wr)) (fun _ i _ => 38 - (RowKit.intOf i).toNat)
          case atStart => exact ⟨0, rfl, by omega, rfl, HJ6, HW6, HB6⟩
          case round =>
            clear HJ6 HW6 HB6
            obtain ⟨m, rfl, hm38, rfl, HJ, HW, HB⟩ := hrel
            by_cases hlt : m < 38
            · have hdI : decide ((m : Int) < 38) = true := by rw [decide_eq_true_iff]; omega
              have hltI : (m : Int) < 38 := by omega
              obtain ⟨wc, hwc⟩ : ∃ y, y = wr := ⟨_, rfl⟩
              rw [← hwc] at HJ HW HB
              rw [← hwc]
              clear hwc
              have hx := HX.out.below HB.out
              have S0 := hx.c0
              have hil := hx.ok.i.1
              have HIi := Lib.hid hx.ok.i
              clear hx
              go_wp2_with fail
              go_loopw [14, 15] (fun v14 v wr => ∃ mm : Nat, mm ≤ 12 ∧ mm ≤ x.L.length ∧ v14 = .bool (nmB (x.L.take mm) m) ∧ v = .int .i64 mm ∧ wr = wc) (fun _ i _ => 12 - (RowKit.intOf i).toNat)
              case atStart => exact ⟨0, by omega, by omega, rfl, rfl, rfl⟩
              case round =>
                obtain ⟨mm, hmm12, hmml, rfl, rfl, rfl⟩ := hrel
                by_cases hgo4 : mm < x.L.length ∧ mm < 12
                · obtain ⟨hl4, h12⟩ := hgo4
                  have hst := nmB_take hl4 m
                  cases hn : nmB (x.L.take mm) m
                  · rw [hn, Bool.false_or] at hst
                    obtain ⟨bb, bo, hba, _, hbc⟩ := HIi.out.at_lt hl4
                    have hcell := hbc mm hl4
                    obtain ⟨y, hy⟩ : ∃ y : Nat, x.L[mm] % 12 = y := ⟨(x.L[mm] % 12).toNat, by omega⟩
                    have hbr := fun w' => bring_any x.L[mm] 12 w' (by decide) (by decide)
                    rw [hy, Int.toNat_natCast] at hst
                    have HBr : Hid (∀ w', Calls Try.prog 20 #[.int .i64 x.L[mm], .int .i64 12] w' fun e w'' => e = .returned (.int .i64 (y : Int)) ∧ w' = w'') := Lib.hid fun w' => by
                      have := hbr w'
                      rw [hy] at this
                      exact this
                    obtain ⟨xv, hxv⟩ : ∃ xv, xv = x.L[mm] := ⟨_, rfl⟩
                    rw [← hxv] at hcell HBr
                    rw [hba] at S0
                    clear hbc hbr hy hxv hba
                    by_cases hym : y = m
                    · rw [hym, beq_self_eq_true] at hst
                      have HSt := Lib.hid hst
                      subst hym
                      clear hst hn
                      go_wp2_with fail
                      refine Calls.mono (HBr.out _) ?_
                      rintro e w' ⟨rfl, rfl⟩
                      go_wp2_with fail
                      exact ⟨⟨mm + 1, by omega, by omega, by rw [HSt.out], by first | rfl | go_num, by first | rfl | trivial⟩, by simp only [RowKit.intOf]; omega⟩
                    · rw [show (y == m) = false by simpa using hym] at hst
                      have HSt := Lib.hid hst
                      clear hst hn
                      go_wp2_with fail
                      refine Calls.mono (HBr.out _) ?_
                      rintro e w' ⟨rfl, rfl⟩
                      go_wp2_with fail
                      exact ⟨⟨mm + 1, by omega, by omega, by rw [HSt.out] <;> simp <;> omega, by first | rfl | go_num, by first | rfl | trivial⟩, by simp only [RowKit.intOf]; omega⟩
                  · rw [hn, Bool.true_or] at hst
                    have HSt := Lib.hid hst
                    clear hst hn
                    go_wp2_with fail
                    exact ⟨⟨mm + 1, by omega, by omega, by rw [HSt.out], by first | rfl | go_num, by first | rfl | trivial⟩, by simp only [RowKit.intOf]; omega⟩
                · have htk : x.L.take mm = x.L.take 12 := by
                    rcases Nat.lt_or_ge mm x.L.length with h | h
                    · rw [show mm = 12 by omega]
                    · rw [List.take_of_length_le h, List.take_of_length_le (by omega)]
                  rw [htk]
                  obtain ⟨nm, hnm⟩ : ∃ nm, nm = nmB (x.L.take 12) m := ⟨_, rfl⟩
                  rw [← hnm]
                  have HAm : Hid ((nm && !x.clr) = false → nowF nw m = nowF now m) := Lib.hid fun h => HAp.out m (by rw [← hnm]; exact h)
                  obtain ⟨r1, r2, r3⟩ := HS5.out.1.read (i := m) (by omega)
                  have hrd := jread_bel HJ.out HS5.out.1.dead m
                  rw [r1, r2, r3] at hrd
                  have HRd := Lib.hid hrd
                  have hx := HX.out.below HB.out
                  have HX2 := Lib.hid hx
                  have hgo4' : ¬ mm < x.L.length ∨ mm < x.L.length ∧ ¬ mm < 12 := by omega
                  clear hrd r1 r2 r3 hx htk hnm HIi hil hgo4
                  rcases hgo4' with hg1 | ⟨hg1, hg2⟩
                  all_goals
                    go_wp2_with fail
                    refine Calls.mono HRd.out ?_
                    rintro e w7 ⟨⟨v, rfl, hv⟩, hj, hb⟩
                    unfold ReadV at hv
                    rw [if_pos rfl] at hv
                    obtain ⟨rg, ro, rfl, _, hrow, _⟩ := hv
                    have HJ7 := Lib.hid hj
                    have hw7 := HW.out.below hb
                    have HW7 := Lib.hid hw7
                    have HB7 := Lib.hid (Below.step HB.out hb)
                    have hc2 := (HX2.out.below hb).c2
                    obtain ⟨wb, wo, hwc, hwrow⟩ := hw7.get hlt
                    have heq := eq48 w7 (some ⟨rg, ro, none⟩) (some ⟨wb, wo, none⟩) (bytesB (nowF nw m)) (bytesB (nowF now m)) 48 48 (bytesB_length _) (bytesB_length _) (bys_row hrow) (bys_row hwrow)
                    clear hj hb hrow hw7 hwrow HRd HJ HW HB HX2
                    cases nm
                    · have h1 := HAm.out (by simp)
                      rw [h1, decide_eq_true rfl] at heq
                      have HEq := Lib.hid heq
                      clear heq h1 HAm
                      go_wp2_with fail
                      refine Calls.mono HEq.out ?_
                      rintro e w8 ⟨rfl, hb8⟩
                      have HJ8 := Lib.hid (HJ7.out.below hb8)
                      have HW8 := Lib.hid (HW7.out.below hb8)
                      have HB8 := Lib.hid (Below.step HB7.out hb8)
                      clear hb8 HEq
                      go_wp2_with fail
                      exact ⟨⟨m + 1, by first | rfl | trivial, by omega, by first | rfl | go_num, HJ8, HW8, HB8⟩, by simp only [RowKit.intOf]; omega⟩
                    · rcases Bool.eq_false_or_eq_true x.clr with hcl | hcl
                      · have h1 := HAm.out (by rw [hcl]; rfl)
                        rw [hcl] at hc2
                        rw [h1, decide_eq_true rfl] at heq
                        have HEq := Lib.hid heq
                        clear heq h1 HAm hcl
                        go_wp2_with fail
                        refine Calls.mono HEq.out ?_
                        rintro e w8 ⟨rfl, hb8⟩
                        have HJ8 := Lib.hid (HJ7.out.below hb8)
                        have HW8 := Lib.hid (HW7.out.below hb8)
                        have HB8 := Lib.hid (Below.step HB7.out hb8)
                        clear hb8 HEq
                        go_wp2_with fail
                        exact ⟨⟨m + 1, by first | rfl | trivial, by omega, by first | rfl | go_num, HJ8, HW8, HB8⟩, by simp only [RowKit.intOf]; omega⟩
                      · rw [hcl] at hc2
                        clear heq HAm hcl
                        go_wp2_with fail
                        exact ⟨⟨m + 1, by first | rfl | trivial, by omega, by first | rfl | go_num, HJ7, HW7, HB7⟩, by simp only [RowKit.intOf]; omega⟩
            · obtain rfl : m = 38 := by omega
              have HJu : Hid (JP wr j q J5 P5) := Lib.hid (HJ.out.unban HBan.out.1 HBan.out.2)
              go_wp2_with fail
              exact ⟨⟨k + 1, nw, J5, P5, rfl, rfl, by omega, by omega, HJu, HB, HS5⟩, by simp only [RowKit.intOf]; omega⟩
    · have hgo' : ¬ k < len ∨ k < len ∧ ¬ k < 20 := by omega
      rcases hgo' with hgo1 | ⟨hgo1, hgo2⟩
      all_goals
        go_wp2_with fail
        refine Calls.mono (awake7 wr) ?_
        rintro e w9 ⟨rfl, hb⟩
        have HBe := Lib.hid (Below.step HB.out hb)
        clear hb
        go_wp2
        go_ret
        exact ⟨by simp, HBe.out⟩
end
end Go.Proofs.Ytdhidcoglioalaa.Walks
