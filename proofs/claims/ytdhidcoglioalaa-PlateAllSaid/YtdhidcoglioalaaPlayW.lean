/-
  The walk of play.
-/
import Derived.Test.YtdhidcoglioalaaPlayP
namespace Go.Proofs.Ytdhidcoglioalaa.Walks
open Go.RowKit Plain
set_option linter.unusedVariables false

/-- Eight bytes lie at a block's head. -/
def Box8 (w : World) (b : Nat) (f : By8) : Prop := (∀ j, j < 8 → w.cell? ⟨b, j, none⟩ = some (.int .u8 ((f j).toNat : Int))) ∧ ∀ j, w.frozen? ⟨b, j, none⟩ = false
def arr8 (f : By8) : Array Value := #[.int .u8 ((f 0).toNat : Int), .int .u8 ((f 1).toNat : Int), .int .u8 ((f 2).toNat : Int), .int .u8 ((f 3).toNat : Int), .int .u8 ((f 4).toNat : Int), .int .u8 ((f 5).toNat : Int), .int .u8 ((f 6).toNat : Int), .int .u8 ((f 7).toNat : Int)]
theorem arr8_get (f : By8) {j : Nat} (hj : j < 8) : (arr8 f)[j]? = some (.int .u8 ((f j).toNat : Int)) := by
  rcases (by omega : j = 0 ∨ j = 1 ∨ j = 2 ∨ j = 3 ∨ j = 4 ∨ j = 5 ∨ j = 6 ∨ j = 7) with rfl | rfl | rfl | rfl | rfl | rfl | rfl | rfl <;> rfl
theorem Only.box {R : List Nat} {w w' : World} {b : Nat} {f : By8} (h : Box8 w b f) (ho : Only R w w') (hb : b ∉ R) : Box8 w' b f := by
  have hl : b < w.heap.size := block_lt_of_cell (h.1 0 (by omega))
  exact ⟨fun j hj => ho.cell hb (h.1 j hj), fun j => by
    have := h.2 j
    unfold World.frozen? at this ⊢
    simp only [ho.block b hl hb]
    exact this⟩
theorem Box8.new (w : World) (f : By8) (t : TypeId) : Box8 (w.alloc (.cells (arr8 f) t)) w.heap.size f :=
  ⟨fun j hj => by rw [cell_new]; exact arr8_get f hj, fun j => frozen_new _ _ _ _⟩
theorem Box8.set {w : World} {b k : Nat} {f : By8} (h : Box8 w b f) (hk : k < 8) (c : Byte) : Box8 (w.setCell ⟨b, k, none⟩ (.int .u8 (c.toNat : Int))) b (upd f k c) := by
  refine ⟨fun j hj => ?_, fun j => by rw [World.frozen?_setCell]; exact h.2 j⟩
  by_cases e : j = k
  · subst e
    rw [upd_same]
    exact World.cell?_setCell_same _ _ _ (h.1 j hj)
  · rw [upd_other _ _ e, World.cell?_setCell_other _ _ _ _ (fun h => e (by injection h with _ h2 _; exact h2.symm))]
    exact h.1 j hj
/-- All eight are written. -/
def set8 (w : World) (b : Nat) (f : By8) : World := (((((((w.setCell ⟨b, 0, none⟩ (.int .u8 ((f 0).toNat : Int))).setCell ⟨b, 1, none⟩ (.int .u8 ((f 1).toNat : Int))).setCell ⟨b, 2, none⟩ (.int .u8 ((f 2).toNat : Int))).setCell ⟨b, 3, none⟩ (.int .u8 ((f 3).toNat : Int))).setCell ⟨b, 4, none⟩ (.int .u8 ((f 4).toNat : Int))).setCell ⟨b, 5, none⟩ (.int .u8 ((f 5).toNat : Int))).setCell ⟨b, 6, none⟩ (.int .u8 ((f 6).toNat : Int))).setCell ⟨b, 7, none⟩ (.int .u8 ((f 7).toNat : Int))
theorem Box8.all {w : World} {b : Nat} {f : By8} (h : Box8 w b f) (g : By8) : Box8 (set8 w b g) b g := by
  have h7 := (((((((h.set (k := 0) (by omega) (g 0)).set (k := 1) (by omega) (g 1)).set (k := 2) (by omega) (g 2)).set (k := 3) (by omega) (g 3)).set (k := 4) (by omega) (g 4)).set (k := 5) (by omega) (g 5)).set (k := 6) (by omega) (g 6)).set (k := 7) (by omega) (g 7)
  refine ⟨fun j hj => ?_, h7.2⟩
  have := h7.1 j hj
  rcases (by omega : j = 0 ∨ j = 1 ∨ j = 2 ∨ j = 3 ∨ j = 4 ∨ j = 5 ∨ j = 6 ∨ j = 7) with rfl | rfl | rfl | rfl | rfl | rfl | rfl | rfl <;> exact this
theorem Only.set8 {R : List Nat} {w : World} {b : Nat} (hb : b ∈ R) (g : By8) : Only R w (set8 w b g) :=
  ((((((((Only.refl R w).setCell (p := ⟨b, 0, none⟩) hb _).setCell (p := ⟨b, 1, none⟩) hb _).setCell (p := ⟨b, 2, none⟩) hb _).setCell (p := ⟨b, 3, none⟩) hb _).setCell (p := ⟨b, 4, none⟩) hb _).setCell (p := ⟨b, 5, none⟩) hb _).setCell (p := ⟨b, 6, none⟩) hb _).setCell (p := ⟨b, 7, none⟩) hb _
/-- What turned blocks that are new is as if it turned none. -/
theorem Only.drop {R R' : List Nat} {a b c : World} (hb : Below a.heap.size a b) (ho : Only R' b c) (hR : ∀ r ∈ R', r ∈ R ∨ a.heap.size ≤ r) : Only R a c :=
  ⟨ho.os.trans hb.os, ho.tape.trans hb.tape, ho.output.trans hb.output, Nat.le_trans hb.size ho.size, fun i hi hn => (ho.block i (Nat.lt_of_lt_of_le hi hb.size) (fun hm => by
    rcases hR i hm with h | h
    · exact hn h
    · omega)).trans (hb.block i hi)⟩
structure PlayR (W0 wr : World) (q : PLoc) (B : Nat) (f g : By8) (P : Pl) : Prop where
  pl : PlateAt wr q P
  inv : PInv P f g
  b2 : Box8 wr (B + 2) f
  b3 : Box8 wr (B + 3) g
  o : Only ((B + 2) :: (B + 3) :: q.R) W0 wr
theorem p_put {w1 : World} {q : PLoc} {P P' : Pl} {i : Int} {b : Byte} {z : Int} (h : PlateAt w1 q P) (hz : P.writeE i (bytesOf (oneS b)) = z) (hP : P.write i (bytesOf (oneS b)) = P') :
    Calls Try.prog 23 #[pv q, .int .i64 i, .slice (some ⟨w1.heap.size, 0, none⟩) 64 64] (w1.alloc (.cells (secC (oneS b)) 5)) fun e w2 => e = .returned (.int .i64 z) ∧ PlateAt w2 q P' ∧ Only q.R w1 w2 := by
  have h1 := h.below (Below.new w1 (.cells (secC (oneS b)) 5))
  have := write_any _ q P h1 i (some ⟨w1.heap.size, 0, none⟩) (bytesOf (oneS b)) 64 (bys_sec (heap_alloc_new _ _)) (fun ad e hm => by cases e; exact Nat.lt_irrefl _ (h.lt _ hm))
  rw [bytesOf_length, hz, hP] at this
  refine Calls.mono this ?_
  rintro e w2 ⟨rfl, hp, ho⟩
  exact ⟨rfl, hp, (Only.of_below (Below.new _ _)).trans ho⟩
theorem p_flush {w1 : World} {q : PLoc} {P P' : Pl} {z : Int} (h : PlateAt w1 q P) (hz : P.flushE = z) (hP : P.flush = P') : Calls Try.prog 26 #[pv q] w1 fun e w2 => e = .returned (.int .i64 z) ∧ PlateAt w2 q P' ∧ Only q.R w1 w2 := by
  rw [← hz, ← hP]
  exact flush_any w1 q P h
theorem notB {q : PLoc} {n x : Nat} (hlt : ∀ b ∈ q.R, b < n) (hx : n ≤ x) (h2 : x ≠ n + 2) (h3 : x ≠ n + 3) : x ∉ ((n + 2) :: (n + 3) :: q.R) := by
  simp only [List.mem_cons, not_or]
  exact ⟨h2, h3, fun hm => by have := hlt _ hm; omega⟩
theorem z28 : (Try.prog.info? 28).map (·.size) = some 8 := by kernel_rfl
theorem loadVar28 {w : World} {b : Nat} {f : By8} (h : Box8 w b f) : (loadVar 28 ⟨b, 0, none⟩).run Try.prog w = .ok (.agg (arr8 f)) w := by
  have hr : w.rangeAt b 0 (arr8 f).toList := fun j v hv => by
    have hj : j < 8 := by
      have := (List.getElem?_eq_some_iff.1 hv).1
      simpa [arr8] using this
    rw [show 0 + j = j by omega, h.1 j hj, ← arr8_get f hj, ← hv]
    simp
  exact run_loadVar_mid (P := Try.prog) w b 0 28 (arr8 f).toList _ hr Try.underlying28 rfl z28
theorem zero28 (w : World) : (zeroValue 28).run Try.prog w = .ok (.agg (arr8 fun _ => 0)) w := by kernel_rfl
set_option maxRecDepth 20000 in
set_option maxHeartbeats 4000000 in
theorem play_any (w : World) (q : PLoc) (P : Pl) (h : PlateAt w q P) (hP : PInv P (fun _ => 0) (fun _ => 0)) (a : Option Addr) (cap : Nat) (l : List PutL) (hL : Puts w a l) (hdis : l ≠ [] → ∀ ad, a = some ad → ad.block ∉ q.R) :
    Calls Try.prog 15 #[pv q, .slice a l.length cap] w fun e w' => ∃ P', e = .returned (.tuple #[.agg (arr8 (wasis (l.take 60)).1), .agg (arr8 (wasis (l.take 60)).2)]) ∧ PlateAt w' q P' ∧ PInv P' (wasis (l.take 60)).1 (wasis (l.take 60)).2 ∧ Only q.R w w' := by
  have hm := hL.1
  have HL := Lib.hid hL
  have H := Lib.hid h
  have HPi := Lib.hid hP
  have HDis := Lib.hid hdis
  obtain ⟨n, hn⟩ : ∃ n, n = l.length := ⟨_, rfl⟩
  rw [← hn]
  rw [← hn] at hm
  have HN := Lib.hid hn
  clear h hP hL hn hdis
  go_enter Try.func15, Try.ntmps15
  go_wp2_with fail
  obtain ⟨W0, hW⟩ : ∃ x, x = (((w.alloc (.cells (arr8 fun _ => 0) 28)).alloc (.cells (arr8 fun _ => 0) 28)).alloc (.cells (arr8 fun _ => 0) 28)).alloc (.cells (arr8 fun _ => 0) 28) := ⟨_, rfl⟩
  have hbw : Below w.heap.size w W0 := by rw [hW]; exact Below.step (Below.step (Below.step (Below.new _ _) (Below.new _ _)) (Below.new _ _)) (Below.new _ _)
  have hz : W0.heap.size = w.heap.size + 4 := by rw [hW]; simp
  have k4 : Box8 W0 w.heap.size (fun _ => 0) := by
    rw [hW]
    exact Only.box (R := []) (Box8.new w (fun _ => 0) 28) (Only.of_below (Below.step (Below.step (Below.new _ _) (Below.new _ _)) (Below.new _ _))) (by simp)
  have k5 : Box8 W0 (w.heap.size + 1) (fun _ => 0) := by
    have h := Only.box (R := []) (Box8.new (w.alloc (.cells (arr8 fun _ => 0) 28)) (fun _ => 0) 28) (Only.of_below (Below.step (Below.new _ (.cells (arr8 fun _ => 0) 28)) (Below.new _ (.cells (arr8 fun _ => 0) 28)))) (by simp)
    rw [hW]
    simpa using h
  have k6 : Box8 W0 (w.heap.size + 2) (fun _ => 0) := by
    have h := Only.box (R := []) (Box8.new ((w.alloc (.cells (arr8 fun _ => 0) 28)).alloc (.cells (arr8 fun _ => 0) 28)) (fun _ => 0) 28) (Only.of_below (Below.new _ (.cells (arr8 fun _ => 0) 28))) (by simp)
    rw [hW]
    simpa using h
  have k7 : Box8 W0 (w.heap.size + 3) (fun _ => 0) := by
    have h := Box8.new (((w.alloc (.cells (arr8 fun _ => 0) 28)).alloc (.cells (arr8 fun _ => 0) 28)).alloc (.cells (arr8 fun _ => 0) 28)) (fun _ => 0) 28
    rw [hW]
    simpa using h
  have HS0 : Hid (PlayR W0 W0 q w.heap.size (wasis (l.take 0)).1 (wasis (l.take 0)).2 P) := Lib.hid ⟨H.out.below hbw, HPi.out, k6, k7, Only.refl _ _⟩
  have hW' : W0 = (((w.alloc (.cells #[.int .u8 0, .int .u8 0, .int .u8 0, .int .u8 0, .int .u8 0, .int .u8 0, .int .u8 0, .int .u8 0] 28)).alloc (.cells #[.int .u8 0, .int .u8 0, .int .u8 0, .int .u8 0, .int .u8 0, .int .u8 0, .int .u8 0, .int .u8 0] 28)).alloc (.cells #[.int .u8 0, .int .u8 0, .int .u8 0, .int .u8 0, .int .u8 0, .int .u8 0, .int .u8 0, .int .u8 0] 28)).alloc (.cells #[.int .u8 0, .int .u8 0, .int .u8 0, .int .u8 0, .int .u8 0, .int .u8 0, .int .u8 0, .int .u8 0] 28) := hW
  have HLt := Lib.hid H.out.lt
  have HL0 := Lib.hid (HL.out.below hbw)
  have HK4 := Lib.hid k4
  have HK5 := Lib.hid k5
  have HBw := Lib.hid hbw
  have HZ := Lib.hid hz
  rw [← hW']
  clear hW hW' k4 k5 k6 k7 hbw hz
  go_loopw [8] (fun i wr => ∃ j : Nat, j ≤ n ∧ j ≤ 60 ∧ i = .int .i64 j ∧ ∃ P', Hid (PlayR W0 wr q w.heap.size (wasis (l.take j)).1 (wasis (l.take j)).2 P')) (fun i _ => 60 - (RowKit.intOf i).toNat)
  case atStart => exact ⟨0, by omega, by omega, rfl, P, HS0⟩
  case round =>
    obtain ⟨j, hjn, hj60, rfl, P', HR⟩ := hrel
    by_cases hlt : j < n
    · by_cases hlt6 : j < 60
      · have hjl : j < l.length := by have := HN.out; omega
        obtain ⟨b, off, rfl, hb0, hc⟩ : ∃ b off, a = some ⟨b, off, none⟩ ∧ b < W0.heap.size ∧ ∀ i (h : i < l.length), W0.cell? ⟨b, off + i * 3, none⟩ = some (.int .i64 l[i].1) ∧ W0.cell? ⟨b, off + i * 3 + 1, none⟩ = some (.int .u8 (l[i].2.1.toNat : Int)) ∧ W0.cell? ⟨b, off + i * 3 + 2, none⟩ = some (.bool l[i].2.2) := by
          rcases HL0.out.2 with rfl | ⟨b, off, rfl, hc⟩
          · simp at hjl
          · exact ⟨b, off, rfl, block_lt_of_cell (hc j hjl).1, hc⟩
        have hnd : b ∉ ((w.heap.size + 2) :: (w.heap.size + 3) :: q.R) := by
          have h1 : b < w.heap.size := by
            rcases HL.out.2 with h | ⟨b', off', e, hc'⟩
            · subst h; simp at hjl
            · cases e; exact block_lt_of_cell (hc' j hjl).1
          simp only [List.mem_cons, not_or]
          exact ⟨by omega, by omega, HDis.out (List.ne_nil_of_length_pos (by omega)) ⟨b, off, none⟩ rfl⟩
        obtain ⟨x, hx⟩ : ∃ x, x = l[j] := ⟨_, rfl⟩
        obtain ⟨x1, x2, x3⟩ := x
        obtain ⟨hc1, hc2, hc3⟩ := hc j hjl
        rw [← hx] at hc1 hc2 hc3
        have d1 := HR.out.o.cell hnd hc1
        have d2 := HR.out.o.cell hnd hc2
        have d3 := HR.out.o.cell hnd hc3
        have hst := wasis_take hjl
        rw [← hx] at hst
        obtain ⟨k, hk⟩ : ∃ k : Nat, x1 % 8 = k := ⟨(x1 % 8).toNat, by omega⟩
        have hk8 : k < 8 := by omega
        have HBr := Lib.hid (bring_any x1 8)
        have HNd := Lib.hid hnd
        have HST := Lib.hid hst
        have HKx := Lib.hid hk
        have e1 : off + j * 3 + 1 = off + j * 3 + 1 := rfl
        clear hc hc1 hc2 hc3 hx hst hnd hjl e1 hk
        simp only at d1 d2 d3
        go_wp2_with fail
        refine Calls.mono (HBr.out wr (by decide) (by decide)) ?_
        rintro e w1 ⟨rfl, rfl⟩
        rw [HKx.out]
        cases x3
        · go_wp2_with fail
          refine Calls.mono (s_full (b := x2) rfl _) ?_
          rintro e w2 ⟨rfl, rfl⟩
          have hw := HR.out.inv.write hk8 x2
          have HWr := Lib.hid hw
          clear hw
          go_wp2_with fail
          refine Calls.mono (p_put HR.out.pl HWr.out.1 rfl) ?_
          rintro e w3 ⟨rfl, hp3, ho3⟩
          have d1 := ho3.cell (fun hm => HNd.out (by simp [hm])) d1
          have d2 := ho3.cell (fun hm => HNd.out (by simp [hm])) d2
          have nb2 : w.heap.size + 2 ∉ q.R := fun hm => by have := HLt.out _ hm; omega
          have nb3 : w.heap.size + 3 ∉ q.R := fun hm => by have := HLt.out _ hm; omega
          have y2 := Only.box HR.out.b2 ho3 nb2
          have y3 := Only.box HR.out.b3 ho3 nb3
          have z3 := y3.1 k hk8
          have v3 := y3.2 k
          have HP3 := Lib.hid hp3
          have HO3 := Lib.hid ho3
          have Y2 := Lib.hid y2
          have Y3 := Lib.hid y3
          have NB2 := Lib.hid nb2
          have NB3 := Lib.hid nb3
          clear hp3 ho3 y2 y3 nb2 nb3
          go_wp2
          go_roundw
          case rel =>
            refine ⟨j + 1, by omega, by omega, by go_num, P'.write k (bytesOf (oneS x2)), Lib.hid ⟨?_, ?_, ?_, ?_, ?_⟩⟩
            · have hO : Only [w.heap.size + 3] w3 (w3.setCell ⟨w.heap.size + 3, k, none⟩ (.int .u8 (x2.toNat : Int))) := (Only.refl _ _).setCell (by simp) _
              exact HP3.out.bare hO (fun b hb hm => by simp at hm; subst hm; exact NB3.out hb) HWr.out.2.keep
            · rw [HST.out]
              show PInv _ (wasis (l.take j)).1 (upd (wasis (l.take j)).2 (x1 % 8).toNat x2)
              rw [HKx.out, Int.toNat_natCast]
              exact HWr.out.2
            · rw [HST.out]
              exact Only.box (R := [w.heap.size + 3]) Y2.out ((Only.refl _ _).setCell (by simp) _) (by simp)
            · rw [HST.out]
              show Box8 _ _ (upd (wasis (l.take j)).2 (x1 % 8).toNat x2)
              rw [HKx.out, Int.toNat_natCast]
              exact Y3.out.set hk8 x2
            · exact (HR.out.o.trans (HO3.out.mono (fun r hr => by simp [hr]))).setCell (by simp) _
          case measure => simp [RowKit.intOf]; omega
        · have hw := HR.out.inv.flush
          have HWr := Lib.hid hw
          clear hw
          go_wp2_with fail
          refine Calls.mono (p_flush HR.out.pl HWr.out.1 rfl) ?_
          rintro e w3 ⟨rfl, hp3, ho3⟩
          have nb2 : w.heap.size + 2 ∉ q.R := fun hm => by have := HLt.out _ hm; omega
          have nb3 : w.heap.size + 3 ∉ q.R := fun hm => by have := HLt.out _ hm; omega
          have y2 := Only.box HR.out.b2 ho3 nb2
          have y3 := Only.box HR.out.b3 ho3 nb3
          obtain ⟨g, hg⟩ : ∃ g, g = (wasis (l.take j)).2 := ⟨_, rfl⟩
          obtain ⟨f, hf⟩ : ∃ f, f = (wasis (l.take j)).1 := ⟨_, rfl⟩
          rw [← hg] at y3
          rw [← hf] at y2
          have s0 := y2.1 0 (by omega)
          have s1 := y2.1 1 (by omega)
          have s2 := y2.1 2 (by omega)
          have s3 := y2.1 3 (by omega)
          have s4 := y2.1 4 (by omega)
          have s5 := y2.1 5 (by omega)
          have s6 := y2.1 6 (by omega)
          have s7 := y2.1 7 (by omega)
          have u0 := y2.2 0
          have u1 := y2.2 1
          have u2 := y2.2 2
          have u3 := y2.2 3
          have u4 := y2.2 4
          have u5 := y2.2 5
          have u6 := y2.2 6
          have u7 := y2.2 7
          have t0 := y3.1 0 (by omega)
          have t1 := y3.1 1 (by omega)
          have t2 := y3.1 2 (by omega)
          have t3 := y3.1 3 (by omega)
          have t4 := y3.1 4 (by omega)
          have t5 := y3.1 5 (by omega)
          have t6 := y3.1 6 (by omega)
          have t7 := y3.1 7 (by omega)
          have HGe := Lib.hid hg
          have HP3 := Lib.hid hp3
          have HO3 := Lib.hid ho3
          have Y2 := Lib.hid y2
          have Y3 := Lib.hid y3
          have NB2 := Lib.hid nb2
          have NB3 := Lib.hid nb3
          clear hp3 ho3 y2 y3 nb2 nb3 hg hf
          go_wp2
          go_roundw
          case rel =>
            refine ⟨j + 1, by omega, by omega, by go_num, P'.flush, Lib.hid ?_⟩
            rw [HST.out]
            show PlayR W0 (set8 w3 (w.heap.size + 2) g) q w.heap.size (wasis (l.take j)).2 (wasis (l.take j)).2 P'.flush
            rw [← HGe.out]
            have hO : Only [w.heap.size + 2] w3 (set8 w3 (w.heap.size + 2) g) := Only.set8 (by simp) g
            refine ⟨HP3.out.bare hO (fun b hb hm => by simp at hm; subst hm; exact NB2.out hb) HWr.out.2.keep, by rw [HGe.out]; exact HWr.out.2, Y2.out.all g, Only.box Y3.out hO (by simp), ?_⟩
            exact (HR.out.o.trans (HO3.out.mono (fun r hr => by simp [hr]))).trans (Only.set8 (by simp) g)
          case measure => simp [RowKit.intOf]; omega
      · have HT := Lib.hid (show l.take j = l.take 60 by rw [show j = 60 by omega])
        rw [HT.out] at HR
        obtain ⟨f, hf⟩ : ∃ f, f = (wasis (l.take 60)).1 := ⟨_, rfl⟩
        obtain ⟨g, hg⟩ : ∃ g, g = (wasis (l.take 60)).2 := ⟨_, rfl⟩
        rw [← hf, ← hg] at HR
        have HFe := Lib.hid hf
        have HGe := Lib.hid hg
        clear hf hg
        have x4 := Only.box HK4.out HR.out.o (notB HLt.out (Nat.le_refl _) (by omega) (by omega))
        have x5 := Only.box HK5.out HR.out.o (notB HLt.out (by omega) (by omega) (by omega))
        have x6 := HR.out.b2
        have x7 := HR.out.b3
        have p0 := x4.1 0 (by omega)
        have p1 := x4.1 1 (by omega)
        have p2 := x4.1 2 (by omega)
        have p3 := x4.1 3 (by omega)
        have p4 := x4.1 4 (by omega)
        have p5 := x4.1 5 (by omega)
        have p6 := x4.1 6 (by omega)
        have p7 := x4.1 7 (by omega)
        have r0 := x5.1 0 (by omega)
        have r1 := x5.1 1 (by omega)
        have r2 := x5.1 2 (by omega)
        have r3 := x5.1 3 (by omega)
        have r4 := x5.1 4 (by omega)
        have r5 := x5.1 5 (by omega)
        have r6 := x5.1 6 (by omega)
        have r7 := x5.1 7 (by omega)
        have s0 := x6.1 0 (by omega)
        have s1 := x6.1 1 (by omega)
        have s2 := x6.1 2 (by omega)
        have s3 := x6.1 3 (by omega)
        have s4 := x6.1 4 (by omega)
        have s5 := x6.1 5 (by omega)
        have s6 := x6.1 6 (by omega)
        have s7 := x6.1 7 (by omega)
        have t0 := x7.1 0 (by omega)
        have t1 := x7.1 1 (by omega)
        have t2 := x7.1 2 (by omega)
        have t3 := x7.1 3 (by omega)
        have t4 := x7.1 4 (by omega)
        have t5 := x7.1 5 (by omega)
        have t6 := x7.1 6 (by omega)
        have t7 := x7.1 7 (by omega)
        have u0 := x4.2 0
        have u1 := x4.2 1
        have u2 := x4.2 2
        have u3 := x4.2 3
        have u4 := x4.2 4
        have u5 := x4.2 5
        have u6 := x4.2 6
        have u7 := x4.2 7
        have v0 := x5.2 0
        have v1 := x5.2 1
        have v2 := x5.2 2
        have v3 := x5.2 3
        have v4 := x5.2 4
        have v5 := x5.2 5
        have v6 := x5.2 6
        have v7 := x5.2 7
        have X4 := Lib.hid x4
        have X5 := Lib.hid x5
        clear x4 x5 x6 x7
        have hB2 : w.heap.size ≠ w.heap.size + 1 := by omega
        go_wp2_with fail
        go_region
        obtain ⟨w9, h9⟩ : ∃ x, x = (set8 (set8 wr w.heap.size f) (w.heap.size + 1) g).drew := ⟨_, rfl⟩
        change Exit.then _ _ Exit.normal _ (set8 (set8 wr w.heap.size f) (w.heap.size + 1) g).drew
        rw [← h9]
        have hO : Only [w.heap.size, w.heap.size + 1] wr w9 := by rw [h9]; exact ((Only.set8 (by simp) f).trans (Only.set8 (by simp) g)).drew
        have k4 : Box8 w9 w.heap.size f := by rw [h9]; exact Only.box (R := [w.heap.size + 1]) (X4.out.all f) ((Only.set8 (by simp) g).drew) (by simp)
        have k5 : Box8 w9 (w.heap.size + 1) g := by
          rw [h9]
          exact Only.box (R := []) ((Only.box (R := [w.heap.size]) X5.out (Only.set8 (by simp) f) (by simp)).all g) ((Only.refl _ _).drew) (by simp)
        have hp9 := HR.out.pl.bare hO (fun b hb hm => by have h1 := HLt.out b hb; simp only [List.mem_cons, List.not_mem_nil, or_false] at hm; omega) HR.out.inv.keep
        have R4 := Lib.hid (loadVar28 k4)
        have R5 := Lib.hid (loadVar28 k5)
        have HP9 := Lib.hid hp9
        have HO9 := Lib.hid ((HR.out.o.mono (R' := w.heap.size :: (w.heap.size + 1) :: (w.heap.size + 2) :: (w.heap.size + 3) :: q.R) (fun r hr => List.mem_cons_of_mem _ (List.mem_cons_of_mem _ hr))).trans (hO.mono (fun r hr => by simp at hr ⊢; omega)))
        clear hO k4 k5 hp9 h9
        go_wp2
        refine bodyPost_ret (v := .tuple #[.agg (arr8 f), .agg (arr8 g)]) (by simp [results, Try.results15, asAddr, R4.out, R5.out]) rfl ?_
        refine ⟨P', by rw [HFe.out, HGe.out], HP9.out, by rw [← HFe.out, ← HGe.out]; exact HR.out.inv, Only.drop HBw.out HO9.out (fun r hr => ?_)⟩
        simp only [List.mem_cons] at hr
        rcases hr with rfl | rfl | rfl | rfl | hr
        · exact .inr (by omega)
        · exact .inr (by omega)
        · exact .inr (by omega)
        · exact .inr (by omega)
        · exact .inl hr
    · have HT := Lib.hid (show l.take j = l.take 60 by rw [List.take_of_length_le (by have := HN.out; omega), List.take_of_length_le (by have := HN.out; omega)])
      rw [HT.out] at HR
      obtain ⟨f, hf⟩ : ∃ f, f = (wasis (l.take 60)).1 := ⟨_, rfl⟩
      obtain ⟨g, hg⟩ : ∃ g, g = (wasis (l.take 60)).2 := ⟨_, rfl⟩
      rw [← hf, ← hg] at HR
      have HFe := Lib.hid hf
      have HGe := Lib.hid hg
      clear hf hg
      have x4 := Only.box HK4.out HR.out.o (notB HLt.out (Nat.le_refl _) (by omega) (by omega))
      have x5 := Only.box HK5.out HR.out.o (notB HLt.out (by omega) (by omega) (by omega))
      have x6 := HR.out.b2
      have x7 := HR.out.b3
      have p0 := x4.1 0 (by omega)
      have p1 := x4.1 1 (by omega)
      have p2 := x4.1 2 (by omega)
      have p3 := x4.1 3 (by omega)
      have p4 := x4.1 4 (by omega)
      have p5 := x4.1 5 (by omega)
      have p6 := x4.1 6 (by omega)
      have p7 := x4.1 7 (by omega)
      have r0 := x5.1 0 (by omega)
      have r1 := x5.1 1 (by omega)
      have r2 := x5.1 2 (by omega)
      have r3 := x5.1 3 (by omega)
      have r4 := x5.1 4 (by omega)
      have r5 := x5.1 5 (by omega)
      have r6 := x5.1 6 (by omega)
      have r7 := x5.1 7 (by omega)
      have s0 := x6.1 0 (by omega)
      have s1 := x6.1 1 (by omega)
      have s2 := x6.1 2 (by omega)
      have s3 := x6.1 3 (by omega)
      have s4 := x6.1 4 (by omega)
      have s5 := x6.1 5 (by omega)
      have s6 := x6.1 6 (by omega)
      have s7 := x6.1 7 (by omega)
      have t0 := x7.1 0 (by omega)
      have t1 := x7.1 1 (by omega)
      have t2 := x7.1 2 (by omega)
      have t3 := x7.1 3 (by omega)
      have t4 := x7.1 4 (by omega)
      have t5 := x7.1 5 (by omega)
      have t6 := x7.1 6 (by omega)
      have t7 := x7.1 7 (by omega)
      have u0 := x4.2 0
      have u1 := x4.2 1
      have u2 := x4.2 2
      have u3 := x4.2 3
      have u4 := x4.2 4
      have u5 := x4.2 5
      have u6 := x4.2 6
      have u7 := x4.2 7
      have v0 := x5.2 0
      have v1 := x5.2 1
      have v2 := x5.2 2
      have v3 := x5.2 3
      have v4 := x5.2 4
      have v5 := x5.2 5
      have v6 := x5.2 6
      have v7 := x5.2 7
      have X4 := Lib.hid x4
      have X5 := Lib.hid x5
      clear x4 x5 x6 x7
      have hB2 : w.heap.size ≠ w.heap.size + 1 := by omega
      go_wp2_with fail
      go_region
      obtain ⟨w9, h9⟩ : ∃ x, x = (set8 (set8 wr w.heap.size f) (w.heap.size + 1) g).drew := ⟨_, rfl⟩
      change Exit.then _ _ Exit.normal _ (set8 (set8 wr w.heap.size f) (w.heap.size + 1) g).drew
      rw [← h9]
      have hO : Only [w.heap.size, w.heap.size + 1] wr w9 := by rw [h9]; exact ((Only.set8 (by simp) f).trans (Only.set8 (by simp) g)).drew
      have k4 : Box8 w9 w.heap.size f := by rw [h9]; exact Only.box (R := [w.heap.size + 1]) (X4.out.all f) ((Only.set8 (by simp) g).drew) (by simp)
      have k5 : Box8 w9 (w.heap.size + 1) g := by
        rw [h9]
        exact Only.box (R := []) ((Only.box (R := [w.heap.size]) X5.out (Only.set8 (by simp) f) (by simp)).all g) ((Only.refl _ _).drew) (by simp)
      have hp9 := HR.out.pl.bare hO (fun b hb hm => by have h1 := HLt.out b hb; simp only [List.mem_cons, List.not_mem_nil, or_false] at hm; omega) HR.out.inv.keep
      have R4 := Lib.hid (loadVar28 k4)
      have R5 := Lib.hid (loadVar28 k5)
      have HP9 := Lib.hid hp9
      have HO9 := Lib.hid ((HR.out.o.mono (R' := w.heap.size :: (w.heap.size + 1) :: (w.heap.size + 2) :: (w.heap.size + 3) :: q.R) (fun r hr => List.mem_cons_of_mem _ (List.mem_cons_of_mem _ hr))).trans (hO.mono (fun r hr => by simp at hr ⊢; omega)))
      clear hO k4 k5 hp9 h9
      go_wp2
      refine bodyPost_ret (v := .tuple #[.agg (arr8 f), .agg (arr8 g)]) (by simp [results, Try.results15, asAddr, R4.out, R5.out]) rfl ?_
      refine ⟨P', by rw [HFe.out, HGe.out], HP9.out, by rw [← HFe.out, ← HGe.out]; exact HR.out.inv, Only.drop HBw.out HO9.out (fun r hr => ?_)⟩
      simp only [List.mem_cons] at hr
      rcases hr with rfl | rfl | rfl | rfl | hr
      · exact .inr (by omega)
      · exact .inr (by omega)
      · exact .inr (by omega)
      · exact .inr (by omega)
      · exact .inl hr
end Go.Proofs.Ytdhidcoglioalaa.Walks
