/-
  A deed, whichever; the chapter's examples come through.
-/
import Derived.Test.YtdhidcoglioalaaGreatM35
namespace Go.Proofs.YtdhidcoglioalaaGreat.Walks
open Go.RowKit Plain Jn
set_option linter.unusedVariables false
section
variable {w w' : World} {j : JLoc} {q : PLoc} {J J' : Jn} {P P' : Pl}
theorem only_base {R : List Nat} {a b c : World} (h : Only R a b) (k : Below a.heap.size b c) : Only R a c :=
  ⟨k.os.trans h.os, k.tape.trans h.tape, k.output.trans h.output, Nat.le_trans h.size k.size, fun i hi hn => (k.block i hi).trans (h.block i hi hn)⟩
theorem JP.banned (h : JP w j q J P) (hb : Below w.heap.size w w') {X : List Nat} (hX : ∀ x ∈ X, w.heap.size ≤ x ∧ x < w'.heap.size) : JP w' j (q.banX X) J P :=
  ⟨h.pl.reban hb hX, (h.jn.below hb).ban X, h.ok, List.mem_append_right _ h.bp, List.mem_append_right _ h.bm, h.np, h.nm⟩
theorem JP.unban {X : List Nat} (h : JP w j (q.banX X) J P) (h1 : j.p ∈ q.ban) (h2 : j.m ∈ q.ban) : JP w j q J P :=
  ⟨h.pl.unban, ⟨h.jn.c0, h.jn.c1, h.jn.c2, h.jn.c3, h.jn.c4, h.jn.c5, h.jn.c6, h.jn.c7, h.jn.fz, h.jn.mp⟩, h.ok, h1, h2, h.np, h.nm⟩
theorem JP.other {X R : List Nat} (h : JP w j (q.banX X) J P) (ho : Only R w w') (hR : ∀ b ∈ R, b ∈ X ∧ b ∉ j.R q) : JP w' j (q.banX X) J P :=
  ⟨h.pl.only ho (fun b hb hm => (hR b hm).2 (JLoc.inQ hb)) (fun a hd hB => Only.bools ho (fun h0 ad e hm => (hd h0 ad e).2 (List.mem_append_left _ (hR _ hm).1)) hB), h.jn.only ho (fun hm => (hR _ hm).2 JLoc.inP) (fun hm => (hR _ hm).2 JLoc.inM), h.ok, h.bp, h.bm, h.np, h.nm⟩
theorem data_n {b : Byte} {n : Int} (hb : (b.toNat : Int) = n) (w : World) : Calls Tryz.prog 11 #[.int .u8 n] w fun e w' => e = .returned (.slice (some ⟨w.heap.size, 0, none⟩) 48 48) ∧ w' = w.alloc (.cells (blkL (oneB b)).toArray 5) := by
  rw [← hb]
  exact data_any b w
theorem has_n (h : JP w j q J P) (hdl : P.dead = false) {i : Nat} {x b : Byte} {n : Int} {r : Bool} (hb : (b.toNat : Int) = n) (hx : (x == b) = r) (hr : readE P J i = 0 ∧ readB P J i = oneB x ∧ readJ P J i = J) : Calls Tryz.prog 42 #[jv j, .int .i64 i, .int .u8 n] w fun e w' => e = .returned (.bool r) ∧ JP w' j q J P ∧ Below w.heap.size w w' := by
  rw [← hb, ← hx]
  exact has_is h hdl i x b hr
theorem cells_of {w : World} {b i : Nat} {cs : Array Value} {ty : TypeId} {v : Value} (hb : w.heap[b]? = some (.cells cs ty (0, 0))) (hv : cs[i]? = some v) : w.cell? ⟨b, i, none⟩ = some v := (cell_of_row _ _ _ _ _ _ hb).trans hv
theorem put_one {w : World} {R : List Nat} {b o : Nat} {z : Nat} {x : Byte} {g : Nat} (hz : z < 4096) (h0 : w.cell? ⟨b, o, none⟩ = some (.int .i64 (z : Int))) (h1 : w.cell? ⟨b, o + 1, none⟩ = some (.slice (some ⟨g, 0, none⟩) 48 48)) (hg : w.heap[g]? = some (.cells (blkL (oneB x)).toArray 5 (0, 0))) (hn : g ∉ R) : PutAt w R b o ((z : Int), bytesB (oneB x)) (some ⟨g, 0, none⟩) 48 :=
  ⟨h0, by show _ = some (Value.slice _ (bytesB (oneB x)).length 48); rw [bytesB_length]; exact h1, bys_row (row_of hg), fun ad e => by cases e; exact hn, Wf.of (by simp only; omega) (by simp only; omega)⟩
theorem puts_one {w : World} {R : List Nat} {b g1 : Nat} {z1 : Nat} {x1 : Byte} (hz1 : z1 < 4096) (hb : w.heap[b]? = some (.cells #[.int .i64 (z1 : Int), .slice (some ⟨g1, 0, none⟩) 48 48] 39 (0, 0))) (h1 : w.heap[g1]? = some (.cells (blkL (oneB x1)).toArray 5 (0, 0))) (n0 : b ∉ R) (n1 : g1 ∉ R) : PutsAt w R (some ⟨b, 0, none⟩) (putsL [(z1, x1)]) :=
  ⟨by simp [putsL], .inr ⟨b, 0, rfl, n0, fun k hk => by
    match k, hk with
    | 0, _ => exact ⟨_, _, put_one hz1 (cells_of hb rfl) (cells_of hb rfl) h1 n1⟩
    | k + 1, hk => exact absurd hk (by simp [putsL])⟩⟩
theorem puts_two {w : World} {R : List Nat} {b g1 g2 : Nat} {z1 z2 : Nat} {x1 x2 : Byte} (hz1 : z1 < 4096) (hz2 : z2 < 4096) (hb : w.heap[b]? = some (.cells #[.int .i64 (z1 : Int), .slice (some ⟨g1, 0, none⟩) 48 48, .int .i64 (z2 : Int), .slice (some ⟨g2, 0, none⟩) 48 48] 39 (0, 0))) (h1 : w.heap[g1]? = some (.cells (blkL (oneB x1)).toArray 5 (0, 0))) (h2 : w.heap[g2]? = some (.cells (blkL (oneB x2)).toArray 5 (0, 0))) (n0 : b ∉ R) (n1 : g1 ∉ R) (n2 : g2 ∉ R) : PutsAt w R (some ⟨b, 0, none⟩) (putsL [(z1, x1), (z2, x2)]) :=
  ⟨by simp [putsL], .inr ⟨b, 0, rfl, n0, fun k hk => by
    match k, hk with
    | 0, _ => exact ⟨_, _, put_one hz1 (cells_of hb rfl) (cells_of hb rfl) h1 n1⟩
    | 1, _ => exact ⟨_, _, put_one hz2 (cells_of hb rfl) (cells_of hb rfl) h2 n2⟩
    | k + 2, hk => exact absurd hk (by simp [putsL])⟩⟩
theorem JP.R_out (h : JP w j q J P) {g : Nat} (hg : w.heap.size ≤ g) : g ∉ j.R q := fun hm => Nat.not_lt_of_le hg (h.lt g hm)
/-- A commit of two blocks of one byte each, out of fresh memory. -/
theorem commit_two {w1 : World} (h : JP w1 j q J P) (hh : J.head < 4611686018427387904) (ht : J.turn < 4611686018427387904) {z1 z2 : Nat} (x1 x2 : Byte) (hz1 : z1 < 4096) (hz2 : z2 < 4096) {i1 i2 : Int} (hi1 : ((z1 : Nat) : Int) = i1) (hi2 : ((z2 : Nat) : Int) = i2) {z : Int} (hz : commitE P J (putsL [(z1, x1), (z2, x2)]) = z) :
    Calls Tryz.prog 7 #[jv j, .slice (some ⟨w1.heap.size + 1 + 1, 0, none⟩) 2 2] (((w1.alloc (.cells (blkL (oneB x1)).toArray 5)).alloc (.cells (blkL (oneB x2)).toArray 5)).alloc (.cells #[.int .i64 i1, .slice (some ⟨w1.heap.size, 0, none⟩) 48 48, .int .i64 i2, .slice (some ⟨w1.heap.size + 1, 0, none⟩) 48 48] 39))
      fun e w' => e = .returned (.int .i64 z) ∧ JP w' j q (commitJ P J (putsL [(z1, x1), (z2, x2)])) (commitP P J (putsL [(z1, x1), (z2, x2)])) ∧ Only (j.R q) w1 w' := by
  subst hi1 hi2
  have hb : Below w1.heap.size w1 (((w1.alloc (.cells (blkL (oneB x1)).toArray 5)).alloc (.cells (blkL (oneB x2)).toArray 5)).alloc (.cells #[.int .i64 (z1 : Int), .slice (some ⟨w1.heap.size, 0, none⟩) 48 48, .int .i64 (z2 : Int), .slice (some ⟨w1.heap.size + 1, 0, none⟩) 48 48] 39)) := Below.step (Below.step (Below.new _ _) (Below.new _ _)) (Below.new _ _)
  have e1 : (((w1.alloc (.cells (blkL (oneB x1)).toArray 5)).alloc (.cells (blkL (oneB x2)).toArray 5)).alloc (.cells #[.int .i64 (z1 : Int), .slice (some ⟨w1.heap.size, 0, none⟩) 48 48, .int .i64 (z2 : Int), .slice (some ⟨w1.heap.size + 1, 0, none⟩) 48 48] 39)).heap[w1.heap.size]? = some (.cells (blkL (oneB x1)).toArray 5 (0, 0)) := (heap_alloc_lt (by simp; omega)).trans ((heap_alloc_lt (by simp)).trans (heap_alloc_new _ _))
  have e2 : (((w1.alloc (.cells (blkL (oneB x1)).toArray 5)).alloc (.cells (blkL (oneB x2)).toArray 5)).alloc (.cells #[.int .i64 (z1 : Int), .slice (some ⟨w1.heap.size, 0, none⟩) 48 48, .int .i64 (z2 : Int), .slice (some ⟨w1.heap.size + 1, 0, none⟩) 48 48] 39)).heap[w1.heap.size + 1]? = some (.cells (blkL (oneB x2)).toArray 5 (0, 0)) := by
    refine (heap_alloc_lt (by simp)).trans ?_
    have := heap_alloc_new (w1.alloc (.cells (blkL (oneB x1)).toArray 5)) (.cells (blkL (oneB x2)).toArray 5)
    rw [World.size_alloc] at this
    exact this
  have e3 := heap_alloc_new ((w1.alloc (.cells (blkL (oneB x1)).toArray 5)).alloc (.cells (blkL (oneB x2)).toArray 5)) (.cells #[.int .i64 (z1 : Int), .slice (some ⟨w1.heap.size, 0, none⟩) 48 48, .int .i64 (z2 : Int), .slice (some ⟨w1.heap.size + 1, 0, none⟩) 48 48] 39)
  rw [World.size_alloc, World.size_alloc] at e3
  have := commit_any (h.below hb) hh ht (some ⟨w1.heap.size + 1 + 1, 0, none⟩) (putsL [(z1, x1), (z2, x2)]) 2 2 rfl (puts_two hz1 hz2 e3 e1 e2 (h.R_out (by omega)) (h.R_out (Nat.le_refl _)) (h.R_out (by omega)))
  rw [hz] at this
  refine Calls.mono this ?_
  rintro e w' ⟨rfl, hj, ho⟩
  exact ⟨rfl, hj, (Only.of_below hb).trans ho⟩
theorem commit_one {w1 : World} (h : JP w1 j q J P) (hh : J.head < 4611686018427387904) (ht : J.turn < 4611686018427387904) {z1 : Nat} (x1 : Byte) (hz1 : z1 < 4096) {i1 : Int} (hi1 : ((z1 : Nat) : Int) = i1) {z : Int} (hz : commitE P J (putsL [(z1, x1)]) = z) :
    Calls Tryz.prog 7 #[jv j, .slice (some ⟨w1.heap.size + 1, 0, none⟩) 1 1] ((w1.alloc (.cells (blkL (oneB x1)).toArray 5)).alloc (.cells #[.int .i64 i1, .slice (some ⟨w1.heap.size, 0, none⟩) 48 48] 39))
      fun e w' => e = .returned (.int .i64 z) ∧ JP w' j q (commitJ P J (putsL [(z1, x1)])) (commitP P J (putsL [(z1, x1)])) ∧ Only (j.R q) w1 w' := by
  subst hi1
  have hb : Below w1.heap.size w1 ((w1.alloc (.cells (blkL (oneB x1)).toArray 5)).alloc (.cells #[.int .i64 (z1 : Int), .slice (some ⟨w1.heap.size, 0, none⟩) 48 48] 39)) := Below.step (Below.new _ _) (Below.new _ _)
  have e1 : ((w1.alloc (.cells (blkL (oneB x1)).toArray 5)).alloc (.cells #[.int .i64 (z1 : Int), .slice (some ⟨w1.heap.size, 0, none⟩) 48 48] 39)).heap[w1.heap.size]? = some (.cells (blkL (oneB x1)).toArray 5 (0, 0)) := (heap_alloc_lt (by simp)).trans (heap_alloc_new _ _)
  have e3 := heap_alloc_new (w1.alloc (.cells (blkL (oneB x1)).toArray 5)) (.cells #[.int .i64 (z1 : Int), .slice (some ⟨w1.heap.size, 0, none⟩) 48 48] 39)
  rw [World.size_alloc] at e3
  have := commit_any (h.below hb) hh ht (some ⟨w1.heap.size + 1, 0, none⟩) (putsL [(z1, x1)]) 1 1 rfl (puts_one hz1 e3 e1 (h.R_out (by omega)) (h.R_out (Nat.le_refl _)))
  rw [hz] at this
  refine Calls.mono this ?_
  rintro e w' ⟨rfl, hj, ho⟩
  exact ⟨rfl, hj, (Only.of_below hb).trans ho⟩
/-- The plate is to fail. -/
theorem jfail (h : JP w j q J P) {z : Int} (hz : P.may = z) (k : Nat) (hk : k ≤ 1000) : Calls Tryz.prog 43 #[pv q, .int .i64 k, .slice none 0 0] w fun e w' => e = .returned (.int .i64 z) ∧ JP w' j q J (P.fail k []) ∧ Only q.R w w' := by
  rw [← hz]
  refine Calls.mono (fail_any w q P h.pl k (by omega) none [] 0 (Bools.nil _ _) (fun _ => rfl)) ?_
  rintro e w' ⟨rfl, hp, ho⟩
  exact ⟨rfl, h.plate hp ho (by unfold Pl.fail; split <;> rfl), ho⟩
theorem R_fresh {w0 : World} {R : List Nat} (hb : Below w0.heap.size w0 w) (ho : Only R w w') (hR : ∀ b ∈ R, w0.heap.size ≤ b) : Below w0.heap.size w0 w' := ho.below hb hR (Nat.le_refl _)
set_option maxRecDepth 20000 in
set_option maxHeartbeats 4000000 in
theorem awake7 (w : World) : Calls Tryz.prog 13 #[] w fun e w' => e = .returned (.bool true) ∧ Below w.heap.size w w' := by
  have A := awake_facts
  obtain ⟨J7, o8, x7, g7⟩ := A.x7
  have HA := Lib.hid A
  have HO8 := Lib.hid o8
  have HX7 := Lib.hid x7
  have HG7 := Lib.hid g7
  have hMd := made_is 20 6 (by decide) (by decide) (by decide)
  have HMd := Lib.hid hMd
  clear A o8 x7 g7 hMd
  go_enter Tryz.func13, Tryz.ntmps13
  go_wp2_with fail
  refine Calls.mono (HMd.out _) ?_
  rintro e w1 ⟨q, j, rfl, hj, hb, hR⟩
  have HJ : Hid (JP w1 j q aJ0 aP0) := Lib.hid hj
  have HB := Lib.hid hb
  have HR := Lib.hid hR
  have HQR : Hid (∀ b ∈ q.R, w.heap.size ≤ b) := Lib.hid fun b hb => hR b (JLoc.inQ hb)
  have HBk := Lib.hid (jblocks_any hj)
  have e12 : (((formatJ 6).blocks (formatP (Pl.made 20) (6 : Nat)).n : Nat) : Int) = 12 := by
    have := HA.out.x0.n
    have h2 : (formatP (Pl.made 20) (6 : Nat)).n = 20 := this
    rw [h2]; rfl
  rw [e12] at HBk
  clear hj hb hR e12
  go_wp2_with fail
  refine Calls.mono HBk.out ?_
  rintro e w2 ⟨rfl, nq, rfl⟩
  have hj2 := HJ.out.drewN nq
  have HFr := Lib.hid (jfree_any hj2)
  have HB2 := Lib.hid (below_drewN HB.out nq)
  obtain ⟨w2, hw2⟩ : ∃ x, x = w1.drewN nq := ⟨_, rfl⟩
  rw [← hw2] at hj2 HFr HB2 ⊢
  have HJ2 := Lib.hid hj2
  have e5 : ((aJ0.free : Nat) : Int) = 5 := rfl
  rw [e5] at HFr
  clear hw2 hj2 e5 HJ HB
  go_wp2_with fail
  refine Calls.mono HFr.out ?_
  rintro e w3 ⟨rfl, nq, rfl⟩
  have hj3 := HJ2.out.drewN nq
  have HB3 := Lib.hid (below_drewN HB2.out nq)
  obtain ⟨w3, hw3⟩ : ∃ x, x = w2.drewN nq := ⟨_, rfl⟩
  rw [← hw3] at hj3 HB3 ⊢
  have HJ3 := Lib.hid hj3
  clear hw3 hj3 HB2 HJ2
  go_wp2_with fail
  refine Calls.mono (data_n (b := 1) rfl _) ?_
  rintro e w4 ⟨rfl, rfl⟩
  go_wp2_with fail
  refine Calls.mono (data_n (b := 2) rfl _) ?_
  rintro e w4 ⟨rfl, rfl⟩
  have HCm := Lib.hid (commit_two (z1 := 3) (z2 := 5) HJ3.out (by decide) (by decide) 1 2 (by decide) (by decide) rfl rfl HA.out.e1)
  go_wp2_with fail
  refine Calls.mono HCm.out ?_
  rintro e w5 ⟨rfl, hj5, ho5⟩
  have hj5' : JP w5 j q aJ1 aP1 := hj5
  have HJ5 := Lib.hid hj5'
  have HB5 := Lib.hid (R_fresh HB3.out ho5 HR.out)
  have HFr := Lib.hid (jfree_any hj5')
  have e5 : ((aJ1.free : Nat) : Int) = 2 := by rw [HA.out.r1]; rfl
  rw [e5] at HFr
  clear hj5 hj5' ho5 e5 HJ3 HB3 HCm
  go_wp2_with fail
  refine Calls.mono HFr.out ?_
  rintro e w6 ⟨rfl, nq, rfl⟩
  have HJ6 := Lib.hid (HJ5.out.drewN nq)
  have HB6 := Lib.hid (below_drewN HB5.out nq)
  obtain ⟨w6, hw6⟩ : ∃ x, x = w5.drewN nq := ⟨_, rfl⟩
  rw [← hw6] at HJ6 HB6 ⊢
  clear hw6 HJ5 HB5 HFr
  have hlv : aP1.dead = false := by obtain ⟨S, _, hL⟩ := HA.out.x1.inv; exact hL.dead
  have g1 := HA.out.g1
  go_wp2_with fail
  refine Calls.mono (has_n (i := 3) (x := 1) (b := 1) (r := true) HJ6.out hlv rfl (by decide) (HA.out.x1.read (by omega))) ?_
  rintro e w7 ⟨rfl, hj, hb⟩
  have HJ7 := Lib.hid hj
  have HB7 := Lib.hid (Below.step HB6.out hb)
  clear hj hb HJ6 HB6
  go_wp2_with fail
  refine Calls.mono (has_n (i := 0) (x := 0) (b := 0) (r := true) HJ7.out hlv rfl (by decide) (HA.out.x1.read (by omega))) ?_
  rintro e w8 ⟨rfl, hj, hb⟩
  have HJ8 := Lib.hid hj
  have HB8 := Lib.hid (Below.step HB7.out hb)
  have hmay : aP1.may = 0 := may_live hlv
  clear hj hb HJ7 HB7
  go_wp2_with fail
  refine Calls.mono (jfail (z := 0) HJ8.out hmay 5 (by decide)) ?_
  rintro e w9 ⟨rfl, hj, ho⟩
  have hj' : JP w9 j q aJ1 aP2 := hj
  have HJ9 := Lib.hid hj'
  have HB9 := Lib.hid (R_fresh HB8.out ho HQR.out)
  clear hj hj' ho HJ8 HB8 hmay hlv g1
  go_wp2_with fail
  refine Calls.mono (data_n (b := 7) rfl _) ?_
  rintro e w10 ⟨rfl, rfl⟩
  go_wp2_with fail
  refine Calls.mono (data_n (b := 8) rfl _) ?_
  rintro e w10 ⟨rfl, rfl⟩
  have hB1 : aJ1.head < 4611686018427387904 ∧ aJ1.turn < 4611686018427387904 := by
    obtain ⟨S, hI, _⟩ := HA.out.x1.inv
    have := hI.head
    have := hI.turn
    omega
  have HCm := Lib.hid (commit_two (z1 := 3) (z2 := 5) HJ9.out hB1.1 hB1.2 7 8 (by decide) (by decide) rfl rfl HA.out.e3)
  clear hB1
  go_wp2_with fail
  refine Calls.mono HCm.out ?_
  rintro e w11 ⟨rfl, hj, ho⟩
  have hj' : JP w11 j q aJ3 aP3 := hj
  have HJ11 := Lib.hid hj'
  have HB11 := Lib.hid (R_fresh HB9.out ho HR.out)
  clear hj hj' ho HJ9 HB9 HCm
  have hlv : aP3.dead = false := by obtain ⟨S, _, hL⟩ := HA.out.x3.inv; exact hL.dead
  have hmay : aP3.may = 0 := may_live hlv
  go_wp2_with fail
  refine Calls.mono (jfail (z := 0) HJ11.out hmay 4 (by decide)) ?_
  rintro e w12 ⟨rfl, hj, ho⟩
  have hj' : JP w12 j q aJ3 aP4 := hj
  have HJ12 := Lib.hid hj'
  have HB12 := Lib.hid (R_fresh HB11.out ho HQR.out)
  clear hj hj' ho HJ11 HB11 hmay hlv
  go_wp2_with fail
  refine Calls.mono (data_n (b := 9) rfl _) ?_
  rintro e w13 ⟨rfl, rfl⟩
  have hB1 : aJ3.head < 4611686018427387904 ∧ aJ3.turn < 4611686018427387904 := by
    obtain ⟨S, hI, _⟩ := HA.out.x3.inv
    have := hI.head
    have := hI.turn
    omega
  have HCm := Lib.hid (commit_one (z1 := 3) HJ12.out hB1.1 hB1.2 9 (by decide) rfl HA.out.e5)
  clear hB1
  go_wp2_with fail
  refine Calls.mono HCm.out ?_
  rintro e w14 ⟨rfl, hj, ho⟩
  have hj' : JP w14 j q aJ5 aP5 := hj
  have HJ14 := Lib.hid hj'
  have HB14 := Lib.hid (R_fresh HB12.out ho HR.out)
  have HDd := Lib.hid (dead_any w14 q aP5 hj'.pl)
  rw [HA.out.d5] at HDd
  have HBk := Lib.hid (jblocks_any hj')
  have e0 : ((aJ5.blocks aP5.n : Nat) : Int) = 0 := by unfold Jn.blocks; rw [HA.out.b5]; rfl
  rw [e0] at HBk
  clear hj hj' ho HJ12 HB12 HCm e0
  go_wp2_with fail
  refine Calls.mono HDd.out ?_
  rintro e w' ⟨rfl, rfl⟩
  go_wp2_with fail
  refine Calls.mono HBk.out ?_
  rintro e w15 ⟨rfl, nq, rfl⟩
  have HP15 := Lib.hid (HJ14.out.drewN nq).pl
  have HB15 := Lib.hid (below_drewN HB14.out nq)
  obtain ⟨w15, hw15⟩ : ∃ x, x = w14.drewN nq := ⟨_, rfl⟩
  rw [← hw15] at HP15 HB15 ⊢
  clear hw15 HJ14 HB14 HDd HBk
  go_wp2_with fail
  refine Calls.mono (boot_any w15 q aP5 HP15.out) ?_
  rintro e w16 ⟨rfl, hp, ho⟩
  have hp' : PlateAt w16 q aP6 := hp
  have HB16 := Lib.hid (R_fresh HB15.out ho HQR.out)
  have HOp := Lib.hid (open_any w16 q aP6 hp')
  clear hp hp' ho HP15 HB15
  go_wp2_with fail
  refine Calls.mono HOp.out ?_
  intro e w17 hO
  have hE : openE aP6 = 0 := by
    unfold openE
    rw [HA.out.o7, if_neg (by simp)]
    have : openJ aP6.flush = some J7 := HO8.out
    rw [this]
  unfold OpenR at hO
  rw [hE, if_neg (by simp)] at hO
  obtain ⟨k, J7', hJ7, rfl, hj, h1, h2, ho⟩ := hO
  have hJJ : J7' = J7 := Option.some.inj (hJ7.symm.trans HO8.out)
  subst hJJ
  have hj' : JP w17 k (q.banX [k.p, k.m]) J7' aP7 := hj
  have HJ17 := Lib.hid hj'
  have HB17 := Lib.hid (R_fresh HB16.out ho HQR.out)
  have HKR : Hid (∀ b ∈ k.R (q.banX [k.p, k.m]), w.heap.size ≤ b) := Lib.hid fun b hm => by
    have hz := HB16.out.size
    simp only [JLoc.R, List.mem_cons] at hm
    rcases hm with rfl | rfl | hm
    · omega
    · omega
    · exact HQR.out b hm
  have hlv : aP7.dead = false := by obtain ⟨S, _, hL⟩ := HX7.out.inv; exact hL.dead
  have HLv := Lib.hid hlv
  clear hE hJ7 hj hj' h1 h2 ho HOp HB16 hlv
  go_wp2_with fail
  refine Calls.mono (has_n (i := 3) (x := 7) (b := 7) (r := true) HJ17.out HLv.out rfl (by decide) (HX7.out.read (by have := HG7.out; omega))) ?_
  rintro e w18 ⟨rfl, hj, hb⟩
  have HJ18 := Lib.hid hj
  have HB18 := Lib.hid (Below.step HB17.out hb)
  clear hj hb HJ17
  go_wp2_with fail
  refine Calls.mono (has_n (i := 5) (x := 8) (b := 8) (r := true) HJ18.out HLv.out rfl (by decide) (HX7.out.read (by have := HG7.out; omega))) ?_
  rintro e w19 ⟨rfl, hj, hb⟩
  have HJ19 := Lib.hid hj
  have HB19 := Lib.hid (Below.step HB18.out hb)
  clear hj hb HJ18
  go_wp2_with fail
  refine Calls.mono (data_n (b := 1) rfl _) ?_
  rintro e w20 ⟨rfl, rfl⟩
  have hB1 : J7'.head < 4611686018427387904 ∧ J7'.turn < 4611686018427387904 := by
    obtain ⟨S, hI, _⟩ := HX7.out.inv
    have := hI.head
    have := hI.turn
    omega
  have hbad : badE aP7 J7' (putsL [(12, 1)]) = 9 := by
    have hbl : J7'.blocks aP7.n = 12 := by unfold Jn.blocks; rw [HX7.out.live.1, HX7.out.n, HG7.out]; rfl
    unfold badE
    rw [HX7.out.live.1, hbl]
    rfl
  have hE9 : commitE aP7 J7' (putsL [(12, 1)]) = 9 := by unfold commitE Jn.nothing; rw [hbad]; rfl
  have HCm := Lib.hid (commit_one (z1 := 12) HJ19.out hB1.1 hB1.2 1 (by decide) rfl hE9)
  clear hB1 hbad hE9
  go_wp2_with fail
  refine Calls.mono HCm.out ?_
  rintro e w21 ⟨rfl, hj, ho⟩
  have HJ21 : Hid (Only (k.R (q.banX [k.p, k.m])) w19 w21) := Lib.hid ho
  clear hj ho HCm
  go_wp2
  go_ret
  exact ⟨by simp, R_fresh HB19.out HJ21.out HKR.out⟩
end
end Go.Proofs.YtdhidcoglioalaaGreat.Walks
