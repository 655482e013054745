/-
  The walk of PlatePlays.
-/
import Derived.Test.YtdhidcoglioalaaDoOpen
import Derived.Test.YtdhidcoglioalaaStepW
namespace Go.Proofs.Ytdhidcoglioalaa.Walks
open Go.RowKit Plain
set_option linter.unusedVariables false

theorem Bys.take {w : World} {a : Option Addr} {l : List Byte} (h : Bys w a l) (n : Nat) : Bys w a (l.take n) := by
  refine ⟨by have := h.1; rw [List.length_take]; omega, ?_⟩
  rcases h.2 with rfl | ⟨b, off, e, hc⟩
  · left; simp
  · right
    refine ⟨b, off, e, fun i hi => ?_⟩
    rw [List.length_take] at hi
    rw [hc i (by omega), List.getElem_take]
theorem dw_made (n : Nat) : DW (Pl.made n) := dw_live rfl
theorem do_arg {w w1 : World} {q : PLoc} {r : RLoc} {P P' : Pl} {x : DoV} (hx : x.Ok w) (hT : Mix w w1 q r P P') (m : Nat) : DoArg w1 q r x.A x.ba x.bc (x.B.take m) x.ka x.kc x.K := by
  have hx' := hx.below hT.be
  refine ⟨hx.a, hx'.b.take m, hx.bn, fun h0 ad e => ?_, hx'.k, hx.kn, fun h0 ad e => ?_⟩
  · have hlt : ad.block < w.heap.size := by
      rcases hx.b.2 with h | ⟨b, off, h, hc⟩
      · rw [h] at h0; simp at h0
      · rw [h] at e; cases e
        have h1 : 0 < x.B.length := by
          apply List.length_pos_iff.2
          intro h; rw [h] at h0; simp at h0
        exact block_lt_of_cell (hc 0 h1)
    exact ⟨fun hm => by have := hT.ge _ hm; omega, fun hm => by have := hT.ge' _ hm; omega⟩
  · have hlt : ad.block < w.heap.size := by
      rcases hx.k.2 with h | ⟨b, off, h, hc⟩
      · exact absurd h h0
      · rw [h] at e; cases e
        exact block_lt_of_cell (hc 0 (List.length_pos_iff.2 h0))
    exact ⟨fun hm => by have := hT.ge _ hm; omega, fun hm => by have := hT.ge' _ hm; omega⟩
theorem nil_arg {w1 : World} {q : PLoc} {r : RLoc} {s : Nat} (h : s ≤ 12) : DoArg w1 q r s none 0 [] none 0 [] :=
  ⟨by simp [Wf, Lit.wf, IntKind.min, IntKind.max, IntKind.signed, IntKind.bits]; omega, Bys.nil _ _, fun _ => rfl, fun h => absurd rfl h, Bools.nil _ _, fun _ => rfl, fun h => absurd rfl h⟩
theorem step_anyN {w w1 : World} {q : PLoc} {r : RLoc} {P : Pl} {m m2 : Nat} {kd A bit : Int} {ba : Option Addr} {bc : Nat} {B : List Byte} {ka : Option Addr} {kc : Nat} {K : List Bool} (hm : B.length = m) (hm2 : K.length = m2) (h : Two w w1 q r P) (hdw : DW P) (hA : DoArg w1 q r A ba bc B ka kc K) :
    Calls Try.prog 31 #[pv q, rv r, .agg #[.int .i64 kd, .int .i64 A, .int .i64 bit, .slice ba m bc, .slice ka m2 kc]] w1 fun e w2 => e = .returned (.bool true) ∧ ∃ P', DW P' ∧ Hid (Two w w2 q r P') := by
  subst hm hm2
  refine Calls.mono (step_any w w1 q r P h hdw kd A bit ba bc B ka kc K hA) ?_
  rintro e w2 ⟨rfl, P', h1, h2⟩
  exact ⟨rfl, P', h1, Lib.hid h2⟩
set_option maxRecDepth 20000 in
set_option maxHeartbeats 8000000 in
theorem platePlays_walk (n : Int) (a : Option Addr) (len cap : Nat) (w : World) (hI : Dos w a len) :
    Calls Try.prog 7 #[.int .i64 n, .slice a len cap] w fun e w' => e = .returned (.bool true) ∧ Below w.heap.size w w' := by
  have HI := Lib.hid hI
  clear hI
  by_cases hv : 1 ≤ n ∧ n ≤ 4096
  · obtain ⟨k, rfl⟩ : ∃ k : Nat, n = k := ⟨n.toNat, by omega⟩
    obtain ⟨m2, hm2⟩ : ∃ m2 : Nat, m2 = min k 12 := ⟨_, rfl⟩
    have hmj : min (k : Int) 12 = (m2 : Int) := by omega
    have HM2 := Lib.hid hm2
    clear hm2
    go_enter Try.func7, Try.ntmps7
    go_wp2_with fail
    refine Calls.mono (new_ok w k (by omega) (by omega)) ?_
    rintro e w1 ⟨q, rfl, hp, hb, hR, _⟩
    have HB1 := Lib.hid hb
    have HP := Lib.hid hp
    have HR := Lib.hid hR
    clear hp hb hR
    go_wp2_with fail
    refine Calls.mono (rf_new w1 k (by omega) (by omega) q.R HP.out.lt) ?_
    rintro e w2 ⟨r, rfl, hr, hb2, hR2, hban⟩
    have hT : Two w w2 (q.banX r.R) r (Pl.made k) := ⟨HP.out.reban hb2 (fun x hx => ⟨hR2 x hx, hr.x.lt x hx⟩), hr, Below.step HB1.out hb2, HR.out, fun b hb => Nat.le_trans HB1.out.size (hR2 b hb), fun b hb => List.mem_append_left _ hb, fun b hb => by rw [hban]; exact hb, fun b hb hb' => by have := HP.out.lt b hb; have := hR2 b hb'; omega⟩
    obtain ⟨Q, hQ⟩ : ∃ Q, Q = q.banX r.R := ⟨_, rfl⟩
    rw [show pv q = pv Q from by rw [hQ]; rfl]
    rw [← hQ] at hT
    have HT := Lib.hid hT
    have HV := Lib.hid hv
    clear hr hb2 hR2 hban hT hQ HR HB1 HP hv
    go_wp2_with fail
    go_loopw [9] (fun i wr => ∃ j : Nat, j ≤ len ∧ j ≤ 60 ∧ i = .int .i64 j ∧ ∃ P, DW P ∧ Hid (Two w wr Q r P)) (fun i _ => 60 - (RowKit.intOf i).toNat)
    case atStart => exact ⟨0, by omega, by omega, rfl, _, dw_made k, HT⟩
    case round =>
      clear HT
      obtain ⟨j, hjn, hj60, rfl, P, hdw, HT⟩ := hrel
      by_cases hlt : j < len
      · by_cases hlt6 : j < 60
        · obtain ⟨b, off, rfl, hc⟩ : ∃ b off, a = some ⟨b, off, none⟩ ∧ ∀ i, i < len → ∃ x, DoAt w b (off + i * 5) x := by
            rcases HI.out.2 with h | h
            · omega
            · exact h
          obtain ⟨x, hx⟩ := hc j hlt
          have hbl := block_lt_of_cell hx.c0
          have hx' := hx.below HT.out.be
          have HX := Lib.hid hx.ok
          obtain ⟨kd, A, bit, ba, bc, B, ka, kc, K⟩ := x
          have d0 := hx'.c0
          have d1 := hx'.c1
          have d2 := hx'.c2
          have d3 := hx'.c3
          have d4 := hx'.c4
          have HDw := Lib.hid hdw
          clear hx hx' hc hdw
          simp only at d0 d1 d2 d3 d4 hbl
          obtain ⟨bl, hbl'⟩ : ∃ bl, bl = B.length := ⟨_, rfl⟩
          obtain ⟨m, hm⟩ : ∃ m, m = min bl 100 := ⟨_, rfl⟩
          have hmi : min (bl : Int) 100 = (m : Int) := by omega
          have hmb : (m : Int) ≤ (bc : Int) := by have := HX.out.bl; simp only at this; omega
          rw [← hbl'] at d3
          have HBM := Lib.hid (show (B.take m).length = m by rw [List.length_take]; omega)
          clear hbl' hm
          go_wp2_with fail
          have HTa := Lib.hid (HT.out.below (Below.new wr (.cells #[.int .i64 kd, .int .i64 A, .int .i64 bit, .slice ba m bc, .slice ka K.length kc] 55)))
          refine Calls.mono (step_anyN (r := r) (q := Q) HBM.out rfl HTa.out HDw.out (do_arg HX.out HTa.out m)) ?_
          rintro e w3 ⟨rfl, P3, hdw3, HT3⟩
          clear HT HTa d0 d1 d2 d3 d4
          go_wp2_with fail
          go_loopw [11] (fun i wr => ∃ s : Nat, s ≤ 12 ∧ i = .int .i64 s ∧ ∃ P, DW P ∧ Hid (Two w wr Q r P)) (fun i _ => 12 - (RowKit.intOf i).toNat)
          case atStart => exact ⟨0, by omega, rfl, _, hdw3, HT3⟩
          case round =>
            clear HT3
            obtain ⟨s, hs12, rfl, P4, hdw4, HT⟩ := hrel
            by_cases hs : s < m2
            · go_wp2_with fail
              refine Calls.mono (step_anyN (r := r) (q := Q) (B := []) (K := []) rfl rfl HT.out hdw4 (nil_arg hs12)) ?_
              rintro e w5 ⟨rfl, P5, hdw5, HT5⟩
              go_wp2
              go_roundw
              case rel => exact ⟨s + 1, by have := HM2.out; omega, by go_num, P5, hdw5, HT5⟩
              case measure => simp [RowKit.intOf]; have := HM2.out; omega
            · go_wp2
              go_roundw
              case rel => exact ⟨j + 1, by omega, by omega, by go_num, P4, hdw4, HT⟩
              case measure => simp [RowKit.intOf]; omega
        · go_wp2_with fail
          refine Calls.mono (awake_any _) ?_
          rintro e w9 ⟨rfl, hb9⟩
          have HB9 := Lib.hid hb9
          clear hb9
          go_wp2
          go_ret
          exact ⟨rfl, Below.step HT.out.be HB9.out⟩
      · go_wp2_with fail
        refine Calls.mono (awake_any _) ?_
        rintro e w9 ⟨rfl, hb9⟩
        have HB9 := Lib.hid hb9
        clear hb9
        go_wp2
        go_ret
        exact ⟨rfl, Below.step HT.out.be HB9.out⟩
  · have hv' : n < 1 ∨ 4096 < n := by omega
    have HV := Lib.hid hv'
    clear hv hv'
    go_enter Try.func7, Try.ntmps7
    go_wp2_with fail
    refine Calls.mono (new_err w n HV.out) ?_
    rintro e w1 ⟨rfl, rfl⟩
    go_wp2_with fail
    refine Calls.mono (new_refErr w n HV.out) ?_
    rintro e w1 ⟨rfl, rfl⟩
    go_wp2_with fail
    go_loopw [9] (fun i wr => i = .int .i64 0 ∧ w = wr) (fun i _ => 0)
    case atStart => exact ⟨rfl, rfl⟩
    case round =>
      obtain ⟨rfl, rfl⟩ := hrel
      by_cases hlt : 0 < len
      · go_wp2_with fail
        refine Calls.mono (awake_any _) ?_
        rintro e w9 ⟨rfl, hb9⟩
        go_wp2
        go_ret
        exact ⟨rfl, hb9⟩
      · go_wp2_with fail
        refine Calls.mono (awake_any _) ?_
        rintro e w9 ⟨rfl, hb9⟩
        go_wp2
        go_ret
        exact ⟨rfl, hb9⟩
end Go.Proofs.Ytdhidcoglioalaa.Walks
