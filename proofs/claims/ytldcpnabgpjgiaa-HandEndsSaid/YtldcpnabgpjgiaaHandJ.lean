/-
  The walk of the law HandEnds.
-/
import Derived.Test.YtldcpnabgpjgiaaHandH
import Derived.Test.YtldcpnabgpjgiaaHandEndP
import Derived.IntWalk
namespace Go.Proofs.Ytldcpnabgpjgiaa.Walks
open Go.RowKit Plain
set_option linter.unusedVariables false
attribute [local go_sem] isLoad38_mk isLoad47_mk loadOp_mk headOf_mk blockOf_mk isMark_mk isRoot_mk isI_mk isB_mk seqOf_mk byteOf_mk byteO_mk intOf_mk drew_setRow alloc_setRow row47_new row38_new row47_drew rowOf_drew rowOf_new row38_drew row38_alloc row47_alloc rowOf_alloc
attribute [local go_sem ↓] exec_load38g exec_load47g exec_load38 exec_load47 exec_alloc47 exec_store47 exec_alloc38 exec_store38 exec_build47 exec_build47z exec_build38 exec_build38c exec_build47c exec_build38z exec_eql47

/-- Four numbers in memory. -/
def Arr4 (w : World) (g : Nat) (f : Nat → Int) : Prop := ∀ j, j < 4 → w.cell? ⟨g, j, none⟩ = some (.int .i64 (f j)) ∧ w.frozen? ⟨g, j, none⟩ = false
theorem Arr4.below {w w' : World} {g : Nat} {f : Nat → Int} (h : Arr4 w g f) (hb : Below w.heap.size w w') : Arr4 w' g f := fun j hj =>
  ⟨keepc hb (h j hj).1, keepf hb (by have := block_lt_of_cell (h j hj).1; simpa using this) (h j hj).2⟩
theorem Arr4.only {w w' : World} {g : Nat} {f : Nat → Int} {q : HLoc} {N : Nat} {f' : Int} {l : List Int} {O : List (Int × Int × List Int)} {E : List (Int × Int × Int × Int)} (h : Arr4 w g f) (hH : HandAt w q N f' l O E) (ho : Only q.R w w') : Arr4 w' g f := fun j hj =>
  ⟨hH.keep ho (h j hj).1, (World.frozen?_of_block (a := ⟨g, j, none⟩) (ho.block g (block_lt_of_cell (h j hj).1) (hH.notR (h j hj).1))).trans (h j hj).2⟩
theorem Arr4.set {w : World} {g : Nat} {f : Nat → Int} (h : Arr4 w g f) {k : Nat} (hk : k < 4) (v : Int) : Arr4 (w.setCell ⟨g, k, none⟩ (.int .i64 v)) g (fun j => if j = k then v else f j) := by
  intro j hj
  rw [World.frozen?_setCell]
  by_cases e : j = k
  · subst e
    dsimp only
    rw [if_pos rfl]
    exact ⟨World.cell?_setCell_same _ _ _ (h j hj).1, (h j hj).2⟩
  · dsimp only
    rw [if_neg e, World.cell?_setCell_other _ _ _ _ (by intro hh; simp at hh; first | done | exact e hh)]
    exact h j hj
theorem Arr4.congr {w : World} {g : Nat} {f f' : Nat → Int} (h : Arr4 w g f) (e : ∀ j, j < 4 → f j = f' j) : Arr4 w g f' := fun j hj => by rw [← e j hj]; exact h j hj
theorem bring_to {i n r : Int} (h : bringI i n = r) (w : World) (h0 : 0 < n) (h1 : n ≤ 4611686018427387904) : Calls Try.prog 32 #[.int .i64 i, .int .i64 n] w fun e w' => e = .returned (.int .i64 r) ∧ w = w' := by
  subst h; exact bring_any i n w h0 h1
/-- A hand is kept where a cell of another block is written. -/
theorem HandX.setOther {w : World} {q : HLoc} {N : Nat} {f : Int} {l : List Int} {E2 E4 : List (Int × Int × Int × Int)} (h : HandX w q N f l [] [] [] E2 E4) {ad : Option Addr} {capd : Nat} (hc : w.cell? ⟨q.p, 1, none⟩ = some (.slice ad l.length capd)) {g o : Nat} (hb : ∀ x, ad = some x → x.block ≠ g) (hp : q.p ≠ g) {u : Value} (hu : w.cell? ⟨g, o, none⟩ = some u) (v : Value) :
    HandX (w.setCell ⟨g, o, none⟩ v) q N f l [] [] [] E2 E4 := by
  have hgR := h.notR hu
  have hkeep : ∀ k u', w.cell? ⟨q.p, k, none⟩ = some u' → (w.setCell ⟨g, o, none⟩ v).cell? ⟨q.p, k, none⟩ = some u' := fun k u' hk => by
    rw [World.cell?_setCell_other _ _ _ _ (by intro hh; simp at hh; first | done | exact hp hh.1)]; exact hk
  have hblk : ∀ b, b ∈ q.R → (w.setCell ⟨g, o, none⟩ v).heap[b]? = w.heap[b]? := fun b hm => Below.heap_setCell w ⟨g, o, none⟩ v b (fun e => hgR (e ▸ hm))
  obtain ⟨a, cap, c1, i1⟩ := h.c1
  rw [hc] at c1
  simp only [Option.some.injEq, Value.slice.injEq] at c1
  obtain ⟨e1, _, e2⟩ := c1
  subst e1
  obtain ⟨F1, m1, n1⟩ := h.m1
  obtain ⟨F2, m2, n2⟩ := h.m2
  obtain ⟨F3, m3, n3⟩ := h.m3
  obtain ⟨F4, m4, n4⟩ := h.m4
  obtain ⟨F5, m5, n5⟩ := h.m5
  exact ⟨hkeep _ _ h.c0, ⟨ad, capd, hkeep _ _ hc, ints_setCell_far i1 hb o v⟩, hkeep _ _ h.c2, hkeep _ _ h.c3, hkeep _ _ h.c4, hkeep _ _ h.c5, hkeep _ _ h.c6, h.ne,
    ⟨F1, m1.block (hblk _ (by simp [HLoc.R])), fun n e hn he => n1 n e hn he⟩, ⟨F2, m2.block (hblk _ (by simp [HLoc.R])), n2⟩, ⟨F3, m3.block (hblk _ (by simp [HLoc.R])), n3⟩, ⟨F4, m4.block (hblk _ (by simp [HLoc.R])), n4⟩,
    ⟨F5, m5.block (hblk _ (by simp [HLoc.R])), fun e he => n5 e he⟩, h.inv, h.inv2, h.inv4, h.good⟩

set_option maxRecDepth 100000 in
set_option maxHeartbeats 8000000 in
theorem handEnds_walk (a : Option Addr) (cap : Nat) (l : List Int) (w : World) (hI : Ints w a l) (hn : a = none → cap = 0) (hr : l.length ≤ 17592186044415) : Calls Try.prog 5 #[.slice a l.length cap] w fun e w' => e = .returned (.bool true) ∧ Below w.heap.size w w' := by
  have HI := Lib.hid hI
  have hmm := hI.1
  clear hI hn
  go_enter Try.func5, Try.ntmps5
  go_wp2_with fail
  refine Calls.mono (works24_any _) ?_
  rintro e w1 ⟨rfl, hb1⟩
  have HB := Lib.hid hb1
  clear hb1
  go_wp2_with fail
  refine Calls.mono (dir_any _) ?_
  rintro e w2 ⟨a2, cap2, rfl, hO2, hb2⟩
  have HO2 := Lib.hid hO2
  have HB := Lib.hid (Below.step HB.out hb2)
  clear hO2 hb2
  go_wp2_with fail
  refine Calls.mono (new_good 1 a2 cap2 [1, 2, 3, 4] 2 _ (Own.ints (l := [1, 2, 3, 4]) HO2.out (by decide)) (Own.nocap HO2.out) (by decide) (by omega) (by omega)) ?_
  rintro e w3 ⟨q, rfl, hH, hb3, hR, hp⟩
  have HR := Lib.hid (fun r hr => Nat.le_trans HB.out.size (hR r hr))
  have HB := Lib.hid (Below.step HB.out hb3)
  have H := Lib.hid hH
  clear hb3 hH HO2 hR hp
  have hz3 := HB.out.size
  obtain ⟨ad, capd, hcd, hid⟩ := H.out.c1
  have hap : q.p < w3.heap.size := block_lt_of_cell hcd
  have had : ∀ x, ad = some x → x.block ≠ w3.heap.size := by
    intro x hx
    obtain ⟨b, off, e, hlt, _⟩ := hid.at_lt (show 0 < [1, 2, 3, 4].length by decide)
    rw [hx] at e
    cases e
    exact Nat.ne_of_lt hlt
  clear hid
  go_wp2_with fail
  have hb4 := Below.new w3 (.cells #[.int .i64 0, .int .i64 0, .int .i64 0, .int .i64 0] 57)
  have H := Lib.hid (H.out.below hb4)
  have HB := Lib.hid (Below.step HB.out hb4)
  have hcd := keepc hb4 hcd
  have hA0 : Arr4 (w3.alloc (.cells #[.int .i64 0, .int .i64 0, .int .i64 0, .int .i64 0] 57)) w3.heap.size (saysOf []) := by
    intro j hj
    refine ⟨?_, frozen_of_row _ _ j _ _ (heap_alloc_new _ _)⟩
    rw [cell_of_row _ _ j _ _ _ (heap_alloc_new _ _)]
    match j, hj with
    | 0, _ => rfl
    | 1, _ => rfl
    | 2, _ => rfl
    | 3, _ => rfl
  have hwz := hz3
  obtain ⟨g, hg⟩ : ∃ g, g = w3.heap.size := ⟨_, rfl⟩
  generalize (w3.alloc (.cells #[.int .i64 0, .int .i64 0, .int .i64 0, .int .i64 0] 57)) = w4 at *
  rw [← hg] at hA0 had hap ⊢
  have HP := Lib.hid (show q.p ≠ g by omega)
  have HAD := Lib.hid had
  have hBG := HB.out
  have HG : Hid (w.heap.size ≤ g) := Lib.hid (by rw [hg]; exact hwz)
  clear hg hb4 hap had hwz hz3
  go_loopw [6] (fun iv wr => ∃ k : Nat, k ≤ l.length ∧ k ≤ 40 ∧ iv = .int .i64 k ∧ Hid (HandAt wr q (3 * k) 1 [1, 2, 3, 4] [] (endsOf (l.take k))) ∧ Hid (Arr4 wr g (saysOf (endsOf (l.take k)))) ∧ wr.cell? ⟨q.p, 1, none⟩ = some (.slice ad 4 capd) ∧ Below w.heap.size w wr) (fun iv _ => 40 - (intOf iv).toNat)
  case atStart => exact ⟨0, by omega, by omega, rfl, H, Lib.hid hA0, hcd, HB.out⟩
  case round =>
    obtain ⟨k, hk, hk40, rfl, HH, HA, hcd, hbr⟩ := hrel
    have HIr := Lib.hid (HI.out.below hbr)
    by_cases hlt : k < l.length
    · by_cases hl40 : k < 40
      · obtain ⟨b, off, rfl, hbb, hcl⟩ := HIr.out.at_lt hlt
        have hcell := hcl k hlt
        obtain ⟨x, hx⟩ : ∃ x, x = l[k] := ⟨_, rfl⟩
        rw [← hx] at hcell
        have HX := Lib.hid hx
        have hb0 := (bring4 x).1
        have hb4' := (bring4 x).2
        obtain ⟨n, hn⟩ := Int.eq_ofNat_of_zero_le hb0
        have HNN := Lib.hid hn
        have hn4 : n < 4 := by omega
        have hc0 := bringI_nonneg (x / 4) 2
        have hc1 := bringI_lt (x / 4) (n := 2) (by omega)
        obtain ⟨c, hc⟩ := Int.eq_ofNat_of_zero_le hc0
        have HCC := Lib.hid hc
        have hc2 : c < 2 := by omega
        have u1 : IntKind.i64.wrap (1 + (c : Int)) = 1 + (c : Int) := IntWalk.i64_in _ (by omega)
        have hk0 : (0 : Int) ≤ (k : Int) := by omega
        have hkl : (k : Int) < (l.length : Int) := by omega
        clear hcl hx hn hb0 hb4' hc hc0 hc1
        go_wp2_with fail
        go_quiet ((first | (go_at_call 32; (with_reducible exact quiet_of_eq (bring_to HNN.out _ (by decide) (by decide)))) | (go_at_call 32; (with_reducible exact quiet_of_eq (bring_to HCC.out _ (by decide) (by decide))))))
        go_wp2_with fail
        refine Calls.mono (old_any _) ?_
        rintro e w5 ⟨a5, cap5, rfl, hO5, hb5⟩
        have HI5 := Lib.hid (Own.ints (l := [5, 6, 7, 8]) hO5 (by decide))
        have hbq : Below wr.heap.size wr w5 := Below.step (below_drewN (Below.refl _ _) _) hb5
        have HH := Lib.hid (HH.out.below hbq)
        have HA := Lib.hid (HA.out.below hbq)
        have hcd := keepc hbq hcd
        have HBB := Lib.hid (Below.step hbr hbq)
        have hc8 : IntKind.u8.wrap (1 + (c : Int)) = 1 + (c : Int) := IntWalk.u8_in _ (by omega)
        have hc8' : (1 + (c : Int)) % 256 = 1 + (c : Int) := by omega
        clear hO5 hb5 hbq
        go_wp2_with fail
        have hwh : Hid (whE x = 1 + (c : Int)) := Lib.hid (by unfold whE; rw [HCC.out])
        have hsl := (endsOf_inv (l.take k)).seal x
        obtain ⟨E', hE'⟩ : ∃ E', E' = tellE (endsOf (l.take k)) x := ⟨_, rfl⟩
        have HEE : Hid (E' = endsOf (l.take (k + 1))) := Lib.hid (by rw [hE', endsOf_succ hlt, HX.out])
        have HEI : Hid (EnInv E') := Lib.hid (hE' ▸ hsl.2)
        have HSL : Hid (sealE 1 [5, 6, 7, 8] (endsOf (l.take k)) (5 + (n : Int)) 3 (1 + (c : Int)) = 0 ∧ sealO 1 [5, 6, 7, 8] (endsOf (l.take k)) (5 + (n : Int)) 3 (1 + (c : Int)) (1 + (c : Int)) = E') := Lib.hid (by
          have h1 := hsl.1
          rw [HNN.out, hwh.out] at h1
          refine ⟨h1, ?_⟩
          rw [hE']
          unfold tellE
          rw [HNN.out, hwh.out]
          rfl)
        have HSY : Hid (∀ j, j < 4 → saysOf E' j = if (j : Int) = (n : Int) ∧ saysOf (endsOf (l.take k)) j = 0 then 1 + (c : Int) else saysOf (endsOf (l.take k)) j) := Lib.hid (fun j hj => by
          rw [hE', saysOf_tell (endsOf_inv _) x hj, HNN.out, hwh.out])
        clear hsl hE' hwh
        refine Calls.mono (seal_is (r := 1 + (c : Int)) (ol := [5, 6, 7, 8]) 4 rfl a5 cap5 HH.out HSL.out (by unfold maxLen; omega) (Wf.of (by omega) (by omega)) (Wf.of (by omega) (by omega)) HI5.out (by omega) (by omega) (by omega)) ?_
        rintro e w6 ⟨rfl, hH6, hO6⟩
        have HA := Lib.hid (HA.out.only HH.out hO6)
        have hcd := HH.out.keep hO6 hcd
        have HBB := Lib.hid (Only.below HBB.out hO6 HR.out (Nat.le_refl _))
        have HH := Lib.hid hH6
        have hcn := (HA.out n hn4).1
        have hcf := (HA.out n hn4).2
        clear hH6 hO6
        obtain ⟨S, hS⟩ : ∃ S, S = saysOf (endsOf (l.take k)) n := ⟨_, rfl⟩
        rw [← hS] at hcn
        by_cases hz : S = 0
        · have hq : (S == 0) = true := by simp [hz]
          have HA2 := (HA.out.set hn4 (1 + (c : Int))).congr (f' := saysOf E') (fun j hj => by
            rw [HSY.out j hj]
            by_cases e : j = n
            · subst e; rw [if_pos rfl, if_pos ⟨rfl, by rw [← hS]; exact hz⟩]
            · rw [if_neg e, if_neg (fun hh => e (by have := hh.1; omega))])
          have HH2 := HH.out.setOther hcd (o := n) HAD.out HP.out hcn (.int .i64 (1 + (c : Int)))
          have hcd2 : (w6.setCell ⟨g, n, none⟩ (.int .i64 (1 + (c : Int)))).cell? ⟨q.p, 1, none⟩ = some (.slice ad 4 capd) := by rw [World.cell?_setCell_other _ _ _ _ (by intro hh; simp at hh; first | done | exact HP.out hh.1.symm)]; exact hcd
          have HBB2 : Below w.heap.size w (w6.setCell ⟨g, n, none⟩ (.int .i64 (1 + (c : Int)))) := HBB.out.setCell (by exact HG.out) _
          have HS := Lib.hid hS
          have HZ := Lib.hid hz
          clear hS hz
          go_wp2_with fail
          have HH := Lib.hid HH2
          have HA := Lib.hid HA2
          have HBB := Lib.hid HBB2
          clear hcd
          have hcd := hcd2
          clear HH2 HA2 HBB2 hcd2 hcn hcf
          generalize (w6.setCell ⟨g, n, none⟩ (.int .i64 (1 + (c : Int)))) = w7 at *
          by_cases H1 : 3 ≤ oneOf E' 1 4
          · have HM : Hid (endIs E' 1 [5, 6, 7, 8] 3 = some (1, 1)) := Lib.hid ((ends_law HEI.out).trans (if_pos H1))

            refine Calls.mono (old_any _) ?_
            rintro e w8 ⟨a8, cap8, rfl, hO8, hb8⟩
            have HI8 := Lib.hid (Own.ints (l := [5, 6, 7, 8]) hO8 (by decide))
            have HH := Lib.hid (HH.out.below hb8)
            have HA := Lib.hid (HA.out.below hb8)
            have hcd := keepc hb8 hcd
            have HBB := Lib.hid (Below.step HBB.out hb8)
            clear hO8 hb8
            go_wp2_with fail
            refine Calls.mono (end_is (ol := [5, 6, 7, 8]) (M := some (1, 1)) 4 rfl a8 cap8 HH.out HM.out (Wf.of (by omega) (by omega)) HI8.out) ?_
            rintro e w9 ⟨rfl, hb9⟩
            have hbb := Below.step hb9 (Below.new w9 (.cells (markC 1 1) 47))
            have HH := Lib.hid (HH.out.below hbb)
            have HA := Lib.hid (HA.out.below hbb)
            have hcd := keepc hbb hcd
            have HBB := Lib.hid (Below.step HBB.out hbb)
            have hms : (w9.alloc (.cells (markC 1 1) 47)).cell? ⟨w9.heap.size, 0, none⟩ = some (.int .i64 1) := cell_of_row _ _ 0 _ _ _ (heap_alloc_new _ _)
            clear hb9 hbb
            go_wp2_with fail
            generalize (w9.alloc (.cells (markC 1 1) 47)) = v9 at *
            go_loop [11, 12, 13] (fun ov tv jv => ∃ j : Nat, j ≤ 4 ∧ jv = .int .i64 j ∧ ov = .int .i64 (oneOf E' 1 j : Nat) ∧ tv = .int .i64 (oneOf E' 2 j : Nat)) (fun _ _ jv => 4 - (intOf jv).toNat)
            case atStart => exact ⟨0, by omega, rfl, rfl, rfl⟩
            case round =>
              obtain ⟨j, hj, rfl, rfl, rfl⟩ := hrel
              by_cases hj4 : j < 4
              · have hcj := (HA.out j hj4).1
                have ho1 := oneOf_le E' 1 j
                have ho2 := oneOf_le E' 2 j
                have s1 := oneOf_succ E' 1 j
                have s2 := oneOf_succ E' 2 j
                obtain ⟨A, hA'⟩ : ∃ A, A = oneOf E' 1 j := ⟨_, rfl⟩
                obtain ⟨B, hB'⟩ : ∃ B, B = oneOf E' 2 j := ⟨_, rfl⟩
                rw [← hA'] at ho1 s1 ⊢
                rw [← hB'] at ho2 s2 ⊢
                rcases (saysOf_code HEI.out j).2 with e0 | e0 | e0
                · rw [e0] at hcj s1 s2
                  have S1 := Lib.hid s1
                  have S2 := Lib.hid s2
                  clear s1 s2 e0 hA' hB'
                  go_wp2
                  go_round
                  case rel => exact ⟨j + 1, by omega, by go_num, by rw [S1.out]; rfl, by rw [S2.out]; rfl⟩
                  case measure => simp [intOf]; omega
                · rw [e0] at hcj s1 s2
                  have S1 := Lib.hid s1
                  have S2 := Lib.hid s2
                  clear s1 s2 e0 hA' hB'
                  go_wp2
                  go_round
                  case rel => exact ⟨j + 1, by omega, by go_num, by rw [S1.out]; rfl, by rw [S2.out]; rfl⟩
                  case measure => simp [intOf]; omega
                · rw [e0] at hcj s1 s2
                  have S1 := Lib.hid s1
                  have S2 := Lib.hid s2
                  clear s1 s2 e0 hA' hB'
                  go_wp2
                  go_round
                  case rel => exact ⟨j + 1, by omega, by go_num, by rw [S1.out]; rfl, by rw [S2.out]; rfl⟩
                  case measure => simp [intOf]; omega
              · have hj5 : j = 4 := by omega
                rw [hj5]
                obtain ⟨A, hA'⟩ : ∃ A, A = oneOf E' 1 4 := ⟨_, rfl⟩
                obtain ⟨B, hB'⟩ : ∃ B, B = oneOf E' 2 4 := ⟨_, rfl⟩
                have ho1 := oneOf_le E' 1 4
                have ho2 := oneOf_le E' 2 4
                rw [← hA'] at H1 ho1 ⊢
                rw [← hB'] at ho2 ⊢
                clear hj5 hA' hB'
                have H1i : (3 : Int) ≤ (A : Int) := by omega
                go_wp2
                go_roundw
                case rel => exact ⟨k + 1, by omega, by omega, by go_num, Lib.hid (HEE.out ▸ HH.out), Lib.hid (HEE.out ▸ HA.out), hcd, HBB.out⟩
                case measure => simp [intOf]; omega
          · by_cases H2 : 3 ≤ oneOf E' 2 4
            · have HM : Hid (endIs E' 1 [5, 6, 7, 8] 3 = some (2, 2)) := Lib.hid ((ends_law HEI.out).trans ((if_neg H1).trans (if_pos H2)))

              refine Calls.mono (old_any _) ?_
              rintro e w8 ⟨a8, cap8, rfl, hO8, hb8⟩
              have HI8 := Lib.hid (Own.ints (l := [5, 6, 7, 8]) hO8 (by decide))
              have HH := Lib.hid (HH.out.below hb8)
              have HA := Lib.hid (HA.out.below hb8)
              have hcd := keepc hb8 hcd
              have HBB := Lib.hid (Below.step HBB.out hb8)
              clear hO8 hb8
              go_wp2_with fail
              refine Calls.mono (end_is (ol := [5, 6, 7, 8]) (M := some (2, 2)) 4 rfl a8 cap8 HH.out HM.out (Wf.of (by omega) (by omega)) HI8.out) ?_
              rintro e w9 ⟨rfl, hb9⟩
              have hbb := Below.step hb9 (Below.new w9 (.cells (markC 2 2) 47))
              have HH := Lib.hid (HH.out.below hbb)
              have HA := Lib.hid (HA.out.below hbb)
              have hcd := keepc hbb hcd
              have HBB := Lib.hid (Below.step HBB.out hbb)
              have hms : (w9.alloc (.cells (markC 2 2) 47)).cell? ⟨w9.heap.size, 0, none⟩ = some (.int .i64 2) := cell_of_row _ _ 0 _ _ _ (heap_alloc_new _ _)
              clear hb9 hbb
              go_wp2_with fail
              generalize (w9.alloc (.cells (markC 2 2) 47)) = v9 at *
              go_loop [11, 12, 13] (fun ov tv jv => ∃ j : Nat, j ≤ 4 ∧ jv = .int .i64 j ∧ ov = .int .i64 (oneOf E' 1 j : Nat) ∧ tv = .int .i64 (oneOf E' 2 j : Nat)) (fun _ _ jv => 4 - (intOf jv).toNat)
              case atStart => exact ⟨0, by omega, rfl, rfl, rfl⟩
              case round =>
                obtain ⟨j, hj, rfl, rfl, rfl⟩ := hrel
                by_cases hj4 : j < 4
                · have hcj := (HA.out j hj4).1
                  have ho1 := oneOf_le E' 1 j
                  have ho2 := oneOf_le E' 2 j
                  have s1 := oneOf_succ E' 1 j
                  have s2 := oneOf_succ E' 2 j
                  obtain ⟨A, hA'⟩ : ∃ A, A = oneOf E' 1 j := ⟨_, rfl⟩
                  obtain ⟨B, hB'⟩ : ∃ B, B = oneOf E' 2 j := ⟨_, rfl⟩
                  rw [← hA'] at ho1 s1 ⊢
                  rw [← hB'] at ho2 s2 ⊢
                  rcases (saysOf_code HEI.out j).2 with e0 | e0 | e0
                  · rw [e0] at hcj s1 s2
                    have S1 := Lib.hid s1
                    have S2 := Lib.hid s2
                    clear s1 s2 e0 hA' hB'
                    go_wp2
                    go_round
                    case rel => exact ⟨j + 1, by omega, by go_num, by rw [S1.out]; rfl, by rw [S2.out]; rfl⟩
                    case measure => simp [intOf]; omega
                  · rw [e0] at hcj s1 s2
                    have S1 := Lib.hid s1
                    have S2 := Lib.hid s2
                    clear s1 s2 e0 hA' hB'
                    go_wp2
                    go_round
                    case rel => exact ⟨j + 1, by omega, by go_num, by rw [S1.out]; rfl, by rw [S2.out]; rfl⟩
                    case measure => simp [intOf]; omega
                  · rw [e0] at hcj s1 s2
                    have S1 := Lib.hid s1
                    have S2 := Lib.hid s2
                    clear s1 s2 e0 hA' hB'
                    go_wp2
                    go_round
                    case rel => exact ⟨j + 1, by omega, by go_num, by rw [S1.out]; rfl, by rw [S2.out]; rfl⟩
                    case measure => simp [intOf]; omega
                · have hj5 : j = 4 := by omega
                  rw [hj5]
                  obtain ⟨A, hA'⟩ : ∃ A, A = oneOf E' 1 4 := ⟨_, rfl⟩
                  obtain ⟨B, hB'⟩ : ∃ B, B = oneOf E' 2 4 := ⟨_, rfl⟩
                  have ho1 := oneOf_le E' 1 4
                  have ho2 := oneOf_le E' 2 4
                  rw [← hA'] at H1 ho1 ⊢
                  rw [← hB'] at H2 ho2 ⊢
                  clear hj5 hA' hB'
                  have H1i : ¬ (3 : Int) ≤ (A : Int) := by omega
                  have H2i : (3 : Int) ≤ (B : Int) := by omega
                  go_wp2
                  go_roundw
                  case rel => exact ⟨k + 1, by omega, by omega, by go_num, Lib.hid (HEE.out ▸ HH.out), Lib.hid (HEE.out ▸ HA.out), hcd, HBB.out⟩
                  case measure => simp [intOf]; omega
            · have HM : Hid (endIs E' 1 [5, 6, 7, 8] 3 = none) := Lib.hid ((ends_law HEI.out).trans ((if_neg H1).trans (if_neg H2)))

              refine Calls.mono (old_any _) ?_
              rintro e w8 ⟨a8, cap8, rfl, hO8, hb8⟩
              have HI8 := Lib.hid (Own.ints (l := [5, 6, 7, 8]) hO8 (by decide))
              have HH := Lib.hid (HH.out.below hb8)
              have HA := Lib.hid (HA.out.below hb8)
              have hcd := keepc hb8 hcd
              have HBB := Lib.hid (Below.step HBB.out hb8)
              clear hO8 hb8
              go_wp2_with fail
              refine Calls.mono (end_is (ol := [5, 6, 7, 8]) (M := none) 4 rfl a8 cap8 HH.out HM.out (Wf.of (by omega) (by omega)) HI8.out) ?_
              rintro e w9 ⟨rfl, hb9⟩
              have hbb := Below.step hb9 (Below.new w9 (.cells (markC 0 0) 47))
              have HH := Lib.hid (HH.out.below hbb)
              have HA := Lib.hid (HA.out.below hbb)
              have hcd := keepc hbb hcd
              have HBB := Lib.hid (Below.step HBB.out hbb)
              have hms : (w9.alloc (.cells (markC 0 0) 47)).cell? ⟨w9.heap.size, 0, none⟩ = some (.int .i64 0) := cell_of_row _ _ 0 _ _ _ (heap_alloc_new _ _)
              clear hb9 hbb
              go_wp2_with fail
              generalize (w9.alloc (.cells (markC 0 0) 47)) = v9 at *
              go_loop [11, 12, 13] (fun ov tv jv => ∃ j : Nat, j ≤ 4 ∧ jv = .int .i64 j ∧ ov = .int .i64 (oneOf E' 1 j : Nat) ∧ tv = .int .i64 (oneOf E' 2 j : Nat)) (fun _ _ jv => 4 - (intOf jv).toNat)
              case atStart => exact ⟨0, by omega, rfl, rfl, rfl⟩
              case round =>
                obtain ⟨j, hj, rfl, rfl, rfl⟩ := hrel
                by_cases hj4 : j < 4
                · have hcj := (HA.out j hj4).1
                  have ho1 := oneOf_le E' 1 j
                  have ho2 := oneOf_le E' 2 j
                  have s1 := oneOf_succ E' 1 j
                  have s2 := oneOf_succ E' 2 j
                  obtain ⟨A, hA'⟩ : ∃ A, A = oneOf E' 1 j := ⟨_, rfl⟩
                  obtain ⟨B, hB'⟩ : ∃ B, B = oneOf E' 2 j := ⟨_, rfl⟩
                  rw [← hA'] at ho1 s1 ⊢
                  rw [← hB'] at ho2 s2 ⊢
                  rcases (saysOf_code HEI.out j).2 with e0 | e0 | e0
                  · rw [e0] at hcj s1 s2
                    have S1 := Lib.hid s1
                    have S2 := Lib.hid s2
                    clear s1 s2 e0 hA' hB'
                    go_wp2
                    go_round
                    case rel => exact ⟨j + 1, by omega, by go_num, by rw [S1.out]; rfl, by rw [S2.out]; rfl⟩
                    case measure => simp [intOf]; omega
                  · rw [e0] at hcj s1 s2
                    have S1 := Lib.hid s1
                    have S2 := Lib.hid s2
                    clear s1 s2 e0 hA' hB'
                    go_wp2
                    go_round
                    case rel => exact ⟨j + 1, by omega, by go_num, by rw [S1.out]; rfl, by rw [S2.out]; rfl⟩
                    case measure => simp [intOf]; omega
                  · rw [e0] at hcj s1 s2
                    have S1 := Lib.hid s1
                    have S2 := Lib.hid s2
                    clear s1 s2 e0 hA' hB'
                    go_wp2
                    go_round
                    case rel => exact ⟨j + 1, by omega, by go_num, by rw [S1.out]; rfl, by rw [S2.out]; rfl⟩
                    case measure => simp [intOf]; omega
                · have hj5 : j = 4 := by omega
                  rw [hj5]
                  obtain ⟨A, hA'⟩ : ∃ A, A = oneOf E' 1 4 := ⟨_, rfl⟩
                  obtain ⟨B, hB'⟩ : ∃ B, B = oneOf E' 2 4 := ⟨_, rfl⟩
                  have ho1 := oneOf_le E' 1 4
                  have ho2 := oneOf_le E' 2 4
                  rw [← hA'] at H1 ho1 ⊢
                  rw [← hB'] at H2 ho2 ⊢
                  clear hj5 hA' hB'
                  have H1i : ¬ (3 : Int) ≤ (A : Int) := by omega
                  have H2i : ¬ (3 : Int) ≤ (B : Int) := by omega
                  go_wp2
                  go_roundw
                  case rel => exact ⟨k + 1, by omega, by omega, by go_num, Lib.hid (HEE.out ▸ HH.out), Lib.hid (HEE.out ▸ HA.out), hcd, HBB.out⟩
                  case measure => simp [intOf]; omega
        · have hq : (S == 0) = false := by simp [hz]
          have HA2 := HA.out.congr (f' := saysOf E') (fun j hj => by
            rw [HSY.out j hj]
            by_cases e : j = n
            · subst e; rw [if_neg (fun hh => hz (by rw [hS]; exact hh.2))]
            · rw [if_neg (fun hh => e (by have := hh.1; omega))])
          have HS := Lib.hid hS
          have HZ := Lib.hid hz
          clear hS hz
          have HA := Lib.hid HA2
          clear HA2
          go_wp2_with fail
          clear hcn hcf
          by_cases H1 : 3 ≤ oneOf E' 1 4
          · have HM : Hid (endIs E' 1 [5, 6, 7, 8] 3 = some (1, 1)) := Lib.hid ((ends_law HEI.out).trans (if_pos H1))

            refine Calls.mono (old_any _) ?_
            rintro e w8 ⟨a8, cap8, rfl, hO8, hb8⟩
            have HI8 := Lib.hid (Own.ints (l := [5, 6, 7, 8]) hO8 (by decide))
            have HH := Lib.hid (HH.out.below hb8)
            have HA := Lib.hid (HA.out.below hb8)
            have hcd := keepc hb8 hcd
            have HBB := Lib.hid (Below.step HBB.out hb8)
            clear hO8 hb8
            go_wp2_with fail
            refine Calls.mono (end_is (ol := [5, 6, 7, 8]) (M := some (1, 1)) 4 rfl a8 cap8 HH.out HM.out (Wf.of (by omega) (by omega)) HI8.out) ?_
            rintro e w9 ⟨rfl, hb9⟩
            have hbb := Below.step hb9 (Below.new w9 (.cells (markC 1 1) 47))
            have HH := Lib.hid (HH.out.below hbb)
            have HA := Lib.hid (HA.out.below hbb)
            have hcd := keepc hbb hcd
            have HBB := Lib.hid (Below.step HBB.out hbb)
            have hms : (w9.alloc (.cells (markC 1 1) 47)).cell? ⟨w9.heap.size, 0, none⟩ = some (.int .i64 1) := cell_of_row _ _ 0 _ _ _ (heap_alloc_new _ _)
            clear hb9 hbb
            go_wp2_with fail
            generalize (w9.alloc (.cells (markC 1 1) 47)) = v9 at *
            go_loop [11, 12, 13] (fun ov tv jv => ∃ j : Nat, j ≤ 4 ∧ jv = .int .i64 j ∧ ov = .int .i64 (oneOf E' 1 j : Nat) ∧ tv = .int .i64 (oneOf E' 2 j : Nat)) (fun _ _ jv => 4 - (intOf jv).toNat)
            case atStart => exact ⟨0, by omega, rfl, rfl, rfl⟩
            case round =>
              obtain ⟨j, hj, rfl, rfl, rfl⟩ := hrel
              by_cases hj4 : j < 4
              · have hcj := (HA.out j hj4).1
                have ho1 := oneOf_le E' 1 j
                have ho2 := oneOf_le E' 2 j
                have s1 := oneOf_succ E' 1 j
                have s2 := oneOf_succ E' 2 j
                obtain ⟨A, hA'⟩ : ∃ A, A = oneOf E' 1 j := ⟨_, rfl⟩
                obtain ⟨B, hB'⟩ : ∃ B, B = oneOf E' 2 j := ⟨_, rfl⟩
                rw [← hA'] at ho1 s1 ⊢
                rw [← hB'] at ho2 s2 ⊢
                rcases (saysOf_code HEI.out j).2 with e0 | e0 | e0
                · rw [e0] at hcj s1 s2
                  have S1 := Lib.hid s1
                  have S2 := Lib.hid s2
                  clear s1 s2 e0 hA' hB'
                  go_wp2
                  go_round
                  case rel => exact ⟨j + 1, by omega, by go_num, by rw [S1.out]; rfl, by rw [S2.out]; rfl⟩
                  case measure => simp [intOf]; omega
                · rw [e0] at hcj s1 s2
                  have S1 := Lib.hid s1
                  have S2 := Lib.hid s2
                  clear s1 s2 e0 hA' hB'
                  go_wp2
                  go_round
                  case rel => exact ⟨j + 1, by omega, by go_num, by rw [S1.out]; rfl, by rw [S2.out]; rfl⟩
                  case measure => simp [intOf]; omega
                · rw [e0] at hcj s1 s2
                  have S1 := Lib.hid s1
                  have S2 := Lib.hid s2
                  clear s1 s2 e0 hA' hB'
                  go_wp2
                  go_round
                  case rel => exact ⟨j + 1, by omega, by go_num, by rw [S1.out]; rfl, by rw [S2.out]; rfl⟩
                  case measure => simp [intOf]; omega
              · have hj5 : j = 4 := by omega
                rw [hj5]
                obtain ⟨A, hA'⟩ : ∃ A, A = oneOf E' 1 4 := ⟨_, rfl⟩
                obtain ⟨B, hB'⟩ : ∃ B, B = oneOf E' 2 4 := ⟨_, rfl⟩
                have ho1 := oneOf_le E' 1 4
                have ho2 := oneOf_le E' 2 4
                rw [← hA'] at H1 ho1 ⊢
                rw [← hB'] at ho2 ⊢
                clear hj5 hA' hB'
                have H1i : (3 : Int) ≤ (A : Int) := by omega
                go_wp2
                go_roundw
                case rel => exact ⟨k + 1, by omega, by omega, by go_num, Lib.hid (HEE.out ▸ HH.out), Lib.hid (HEE.out ▸ HA.out), hcd, HBB.out⟩
                case measure => simp [intOf]; omega
          · by_cases H2 : 3 ≤ oneOf E' 2 4
            · have HM : Hid (endIs E' 1 [5, 6, 7, 8] 3 = some (2, 2)) := Lib.hid ((ends_law HEI.out).trans ((if_neg H1).trans (if_pos H2)))

              refine Calls.mono (old_any _) ?_
              rintro e w8 ⟨a8, cap8, rfl, hO8, hb8⟩
              have HI8 := Lib.hid (Own.ints (l := [5, 6, 7, 8]) hO8 (by decide))
              have HH := Lib.hid (HH.out.below hb8)
              have HA := Lib.hid (HA.out.below hb8)
              have hcd := keepc hb8 hcd
              have HBB := Lib.hid (Below.step HBB.out hb8)
              clear hO8 hb8
              go_wp2_with fail
              refine Calls.mono (end_is (ol := [5, 6, 7, 8]) (M := some (2, 2)) 4 rfl a8 cap8 HH.out HM.out (Wf.of (by omega) (by omega)) HI8.out) ?_
              rintro e w9 ⟨rfl, hb9⟩
              have hbb := Below.step hb9 (Below.new w9 (.cells (markC 2 2) 47))
              have HH := Lib.hid (HH.out.below hbb)
              have HA := Lib.hid (HA.out.below hbb)
              have hcd := keepc hbb hcd
              have HBB := Lib.hid (Below.step HBB.out hbb)
              have hms : (w9.alloc (.cells (markC 2 2) 47)).cell? ⟨w9.heap.size, 0, none⟩ = some (.int .i64 2) := cell_of_row _ _ 0 _ _ _ (heap_alloc_new _ _)
              clear hb9 hbb
              go_wp2_with fail
              generalize (w9.alloc (.cells (markC 2 2) 47)) = v9 at *
              go_loop [11, 12, 13] (fun ov tv jv => ∃ j : Nat, j ≤ 4 ∧ jv = .int .i64 j ∧ ov = .int .i64 (oneOf E' 1 j : Nat) ∧ tv = .int .i64 (oneOf E' 2 j : Nat)) (fun _ _ jv => 4 - (intOf jv).toNat)
              case atStart => exact ⟨0, by omega, rfl, rfl, rfl⟩
              case round =>
                obtain ⟨j, hj, rfl, rfl, rfl⟩ := hrel
                by_cases hj4 : j < 4
                · have hcj := (HA.out j hj4).1
                  have ho1 := oneOf_le E' 1 j
                  have ho2 := oneOf_le E' 2 j
                  have s1 := oneOf_succ E' 1 j
                  have s2 := oneOf_succ E' 2 j
                  obtain ⟨A, hA'⟩ : ∃ A, A = oneOf E' 1 j := ⟨_, rfl⟩
                  obtain ⟨B, hB'⟩ : ∃ B, B = oneOf E' 2 j := ⟨_, rfl⟩
                  rw [← hA'] at ho1 s1 ⊢
                  rw [← hB'] at ho2 s2 ⊢
                  rcases (saysOf_code HEI.out j).2 with e0 | e0 | e0
                  · rw [e0] at hcj s1 s2
                    have S1 := Lib.hid s1
                    have S2 := Lib.hid s2
                    clear s1 s2 e0 hA' hB'
                    go_wp2
                    go_round
                    case rel => exact ⟨j + 1, by omega, by go_num, by rw [S1.out]; rfl, by rw [S2.out]; rfl⟩
                    case measure => simp [intOf]; omega
                  · rw [e0] at hcj s1 s2
                    have S1 := Lib.hid s1
                    have S2 := Lib.hid s2
                    clear s1 s2 e0 hA' hB'
                    go_wp2
                    go_round
                    case rel => exact ⟨j + 1, by omega, by go_num, by rw [S1.out]; rfl, by rw [S2.out]; rfl⟩
                    case measure => simp [intOf]; omega
                  · rw [e0] at hcj s1 s2
                    have S1 := Lib.hid s1
                    have S2 := Lib.hid s2
                    clear s1 s2 e0 hA' hB'
                    go_wp2
                    go_round
                    case rel => exact ⟨j + 1, by omega, by go_num, by rw [S1.out]; rfl, by rw [S2.out]; rfl⟩
                    case measure => simp [intOf]; omega
                · have hj5 : j = 4 := by omega
                  rw [hj5]
                  obtain ⟨A, hA'⟩ : ∃ A, A = oneOf E' 1 4 := ⟨_, rfl⟩
                  obtain ⟨B, hB'⟩ : ∃ B, B = oneOf E' 2 4 := ⟨_, rfl⟩
                  have ho1 := oneOf_le E' 1 4
                  have ho2 := oneOf_le E' 2 4
                  rw [← hA'] at H1 ho1 ⊢
                  rw [← hB'] at H2 ho2 ⊢
                  clear hj5 hA' hB'
                  have H1i : ¬ (3 : Int) ≤ (A : Int) := by omega
                  have H2i : (3 : Int) ≤ (B : Int) := by omega
                  go_wp2
                  go_roundw
                  case rel => exact ⟨k + 1, by omega, by omega, by go_num, Lib.hid (HEE.out ▸ HH.out), Lib.hid (HEE.out ▸ HA.out), hcd, HBB.out⟩
                  case measure => simp [intOf]; omega
            · have HM : Hid (endIs E' 1 [5, 6, 7, 8] 3 = none) := Lib.hid ((ends_law HEI.out).trans ((if_neg H1).trans (if_neg H2)))

              refine Calls.mono (old_any _) ?_
              rintro e w8 ⟨a8, cap8, rfl, hO8, hb8⟩
              have HI8 := Lib.hid (Own.ints (l := [5, 6, 7, 8]) hO8 (by decide))
              have HH := Lib.hid (HH.out.below hb8)
              have HA := Lib.hid (HA.out.below hb8)
              have hcd := keepc hb8 hcd
              have HBB := Lib.hid (Below.step HBB.out hb8)
              clear hO8 hb8
              go_wp2_with fail
              refine Calls.mono (end_is (ol := [5, 6, 7, 8]) (M := none) 4 rfl a8 cap8 HH.out HM.out (Wf.of (by omega) (by omega)) HI8.out) ?_
              rintro e w9 ⟨rfl, hb9⟩
              have hbb := Below.step hb9 (Below.new w9 (.cells (markC 0 0) 47))
              have HH := Lib.hid (HH.out.below hbb)
              have HA := Lib.hid (HA.out.below hbb)
              have hcd := keepc hbb hcd
              have HBB := Lib.hid (Below.step HBB.out hbb)
              have hms : (w9.alloc (.cells (markC 0 0) 47)).cell? ⟨w9.heap.size, 0, none⟩ = some (.int .i64 0) := cell_of_row _ _ 0 _ _ _ (heap_alloc_new _ _)
              clear hb9 hbb
              go_wp2_with fail
              generalize (w9.alloc (.cells (markC 0 0) 47)) = v9 at *
              go_loop [11, 12, 13] (fun ov tv jv => ∃ j : Nat, j ≤ 4 ∧ jv = .int .i64 j ∧ ov = .int .i64 (oneOf E' 1 j : Nat) ∧ tv = .int .i64 (oneOf E' 2 j : Nat)) (fun _ _ jv => 4 - (intOf jv).toNat)
              case atStart => exact ⟨0, by omega, rfl, rfl, rfl⟩
              case round =>
                obtain ⟨j, hj, rfl, rfl, rfl⟩ := hrel
                by_cases hj4 : j < 4
                · have hcj := (HA.out j hj4).1
                  have ho1 := oneOf_le E' 1 j
                  have ho2 := oneOf_le E' 2 j
                  have s1 := oneOf_succ E' 1 j
                  have s2 := oneOf_succ E' 2 j
                  obtain ⟨A, hA'⟩ : ∃ A, A = oneOf E' 1 j := ⟨_, rfl⟩
                  obtain ⟨B, hB'⟩ : ∃ B, B = oneOf E' 2 j := ⟨_, rfl⟩
                  rw [← hA'] at ho1 s1 ⊢
                  rw [← hB'] at ho2 s2 ⊢
                  rcases (saysOf_code HEI.out j).2 with e0 | e0 | e0
                  · rw [e0] at hcj s1 s2
                    have S1 := Lib.hid s1
                    have S2 := Lib.hid s2
                    clear s1 s2 e0 hA' hB'
                    go_wp2
                    go_round
                    case rel => exact ⟨j + 1, by omega, by go_num, by rw [S1.out]; rfl, by rw [S2.out]; rfl⟩
                    case measure => simp [intOf]; omega
                  · rw [e0] at hcj s1 s2
                    have S1 := Lib.hid s1
                    have S2 := Lib.hid s2
                    clear s1 s2 e0 hA' hB'
                    go_wp2
                    go_round
                    case rel => exact ⟨j + 1, by omega, by go_num, by rw [S1.out]; rfl, by rw [S2.out]; rfl⟩
                    case measure => simp [intOf]; omega
                  · rw [e0] at hcj s1 s2
                    have S1 := Lib.hid s1
                    have S2 := Lib.hid s2
                    clear s1 s2 e0 hA' hB'
                    go_wp2
                    go_round
                    case rel => exact ⟨j + 1, by omega, by go_num, by rw [S1.out]; rfl, by rw [S2.out]; rfl⟩
                    case measure => simp [intOf]; omega
                · have hj5 : j = 4 := by omega
                  rw [hj5]
                  obtain ⟨A, hA'⟩ : ∃ A, A = oneOf E' 1 4 := ⟨_, rfl⟩
                  obtain ⟨B, hB'⟩ : ∃ B, B = oneOf E' 2 4 := ⟨_, rfl⟩
                  have ho1 := oneOf_le E' 1 4
                  have ho2 := oneOf_le E' 2 4
                  rw [← hA'] at H1 ho1 ⊢
                  rw [← hB'] at H2 ho2 ⊢
                  clear hj5 hA' hB'
                  have H1i : ¬ (3 : Int) ≤ (A : Int) := by omega
                  have H2i : ¬ (3 : Int) ≤ (B : Int) := by omega
                  go_wp2
                  go_roundw
                  case rel => exact ⟨k + 1, by omega, by omega, by go_num, Lib.hid (HEE.out ▸ HH.out), Lib.hid (HEE.out ▸ HA.out), hcd, HBB.out⟩
                  case measure => simp [intOf]; omega
      · have hk' : ¬ (k : Int) < 40 := by omega
        have HO := ends_other (endsOf_inv (l.take k))
        have HO1 := Lib.hid HO.1
        have HO2 := Lib.hid HO.2
        have HBB := Lib.hid hbr
        clear HO
        go_wp2_with fail
        refine Calls.mono (old_any _) ?_
        rintro e w8 ⟨a8, cap8, rfl, hO8, hb8⟩
        have HI8 := Lib.hid (Own.ints (l := [5, 6, 7, 8]) hO8 (by decide))
        have HH := Lib.hid (HH.out.below hb8)
        have HBB := Lib.hid (Below.step HBB.out hb8)
        clear hO8 hb8
        go_wp2_with fail
        refine Calls.mono (end_is (ol := [5, 6, 7, 8]) (M := none) 4 rfl a8 cap8 HH.out HO1.out (Wf.of (by omega) (by omega)) HI8.out) ?_
        rintro e w9 ⟨rfl, hb9⟩
        have hbb := Below.step hb9 (Below.new w9 (.cells (markC 0 0) 47))
        have HH := Lib.hid (HH.out.below hbb)
        have HBB := Lib.hid (Below.step HBB.out hbb)
        clear hb9 hbb
        go_wp2_with fail
        generalize (w9.alloc (.cells (markC 0 0) 47)) = v9 at *
        refine Calls.mono (dir_any _) ?_
        rintro e w10 ⟨a10, cap10, rfl, hO10, hb10⟩
        have HI10 := Lib.hid (Own.ints (l := [1, 2, 3, 4]) hO10 (by decide))
        have HH := Lib.hid (HH.out.below hb10)
        have HBB := Lib.hid (Below.step HBB.out hb10)
        clear hO10 hb10
        go_wp2_with fail
        refine Calls.mono (end_is (ol := [1, 2, 3, 4]) (M := none) 4 rfl a10 cap10 HH.out HO2.out (Wf.of (by omega) (by omega)) HI10.out) ?_
        rintro e w11 ⟨rfl, hb11⟩
        have hbb := Below.step hb11 (Below.new w11 (.cells (markC 0 0) 47))
        have HBB := Lib.hid (Below.step HBB.out hbb)
        clear hb11 hbb
        go_wp2
        go_ret
        exact ⟨rfl, HBB.out⟩
    · have hk' : ¬ (k : Int) < (l.length : Int) := by omega
      have HO := ends_other (endsOf_inv (l.take k))
      have HO1 := Lib.hid HO.1
      have HO2 := Lib.hid HO.2
      have HBB := Lib.hid hbr
      clear HO
      go_wp2_with fail
      refine Calls.mono (old_any _) ?_
      rintro e w8 ⟨a8, cap8, rfl, hO8, hb8⟩
      have HI8 := Lib.hid (Own.ints (l := [5, 6, 7, 8]) hO8 (by decide))
      have HH := Lib.hid (HH.out.below hb8)
      have HBB := Lib.hid (Below.step HBB.out hb8)
      clear hO8 hb8
      go_wp2_with fail
      refine Calls.mono (end_is (ol := [5, 6, 7, 8]) (M := none) 4 rfl a8 cap8 HH.out HO1.out (Wf.of (by omega) (by omega)) HI8.out) ?_
      rintro e w9 ⟨rfl, hb9⟩
      have hbb := Below.step hb9 (Below.new w9 (.cells (markC 0 0) 47))
      have HH := Lib.hid (HH.out.below hbb)
      have HBB := Lib.hid (Below.step HBB.out hbb)
      clear hb9 hbb
      go_wp2_with fail
      generalize (w9.alloc (.cells (markC 0 0) 47)) = v9 at *
      refine Calls.mono (dir_any _) ?_
      rintro e w10 ⟨a10, cap10, rfl, hO10, hb10⟩
      have HI10 := Lib.hid (Own.ints (l := [1, 2, 3, 4]) hO10 (by decide))
      have HH := Lib.hid (HH.out.below hb10)
      have HBB := Lib.hid (Below.step HBB.out hb10)
      clear hO10 hb10
      go_wp2_with fail
      refine Calls.mono (end_is (ol := [1, 2, 3, 4]) (M := none) 4 rfl a10 cap10 HH.out HO2.out (Wf.of (by omega) (by omega)) HI10.out) ?_
      rintro e w11 ⟨rfl, hb11⟩
      have hbb := Below.step hb11 (Below.new w11 (.cells (markC 0 0) 47))
      have HBB := Lib.hid (Below.step HBB.out hbb)
      clear hb11 hbb
      go_wp2
      go_ret
      exact ⟨rfl, HBB.out⟩
end Go.Proofs.Ytldcpnabgpjgiaa.Walks
