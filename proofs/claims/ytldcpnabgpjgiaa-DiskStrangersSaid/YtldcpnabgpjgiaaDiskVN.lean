/-
  The walk of the client's take, of a note that does not count.
-/
import Derived.Test.YtldcpnabgpjgiaaDiskV
namespace Go.Proofs.Ytldcpnabgpjgiaa.Walks
open Go.RowKit Plain
set_option linter.unusedVariables false
attribute [local go_sem] isPV_mk adV_mk cells_agg cells_agg' held_drew room_drew cellsAt_drew isA4_mk isSl_mk isI_mk intOf_mk
attribute [local go_sem ↓] exec_load88 exec_store88 exec_load81 exec_store81 exec_load90 exec_store90 Go.wp_at_zero Go.wp_at_succ exec_alloc81 exec_build81r exec_build81s exec_bs69 exec_alloc90 exec_build90n
attribute [local irreducible] out0

theorem miss_cases {c : Cl} {n : No} (hw : c.way ≠ 0) (h : heardB c n = false) : n.kind ≠ 2 ∨ (n.kind = 2 ∧ n.node ≠ c.name) ∨ (n.kind = 2 ∧ n.node = c.name ∧ hasC 1 c.crew n.fr = false) ∨
    (n.kind = 2 ∧ n.node = c.name ∧ hasC 1 c.crew n.fr = true ∧ n.stamp ≠ c.wish.stamp) ∨ (n.kind = 2 ∧ n.node = c.name ∧ hasC 1 c.crew n.fr = true ∧ n.stamp = c.wish.stamp ∧ n.group ≠ c.wish.group) ∨
    (n.kind = 2 ∧ n.node = c.name ∧ hasC 1 c.crew n.fr = true ∧ n.stamp = c.wish.stamp ∧ n.group = c.wish.group ∧ n.epoch ≠ c.wish.epoch) := by
  by_cases h1 : n.kind = 2
  · by_cases h2 : n.node = c.name
    · cases h3 : hasC 1 c.crew n.fr
      · exact .inr (.inr (.inl ⟨h1, h2, rfl⟩))
      · by_cases h4 : n.stamp = c.wish.stamp
        · by_cases h5 : n.group = c.wish.group
          · refine .inr (.inr (.inr (.inr (.inr ⟨h1, h2, rfl, h4, h5, fun h6 => ?_⟩))))
            simp [heardB, hw, h1, h2, h3, h4, h5, h6] at h
          · exact .inr (.inr (.inr (.inr (.inl ⟨h1, h2, rfl, h4, h5⟩))))
        · exact .inr (.inr (.inr (.inl ⟨h1, h2, rfl, h4⟩)))
    · exact .inr (.inl ⟨h1, h2⟩)
  · exact .inl h1
set_option maxRecDepth 100000 in
set_option maxHeartbeats 40000000 in
theorem take_miss (p r1 r2 N : Nat) (c : Cl) (n : No) (da : Option Addr) (dc : Nat) (na : Option Addr) (nc : Nat) (w : World) (h : CliAt w p r1 r2 N c) (hw : c.way ≠ 0) (hh : heardB c n = false) (hg : goodC 1 c.crew = true) :
    Calls Try.prog 52 #[.pointer (some ⟨p, 0, none⟩), .agg (noteOf n da dc na nc).toArray] w (GiveP [p] p r1 r2 N c Ou.zero 0 w) := by
  have HC := Lib.hid h
  have HG := Lib.hid hg
  have HW := Lib.hid hw
  have HCA := Lib.hid (miss_cases hw hh)
  clear h hg hh hw
  go_enter Try.func52, Try.ntmps52
  go_upto_region 2 with (fail)
  obtain ⟨w1, hw1, hb1, hz1, hB, hX, hO⟩ := three_blk w 81 90 90 (noteOf n da dc na nc) out0 out0
  rw [← hw1]
  clear hw1
  have HC1 := Lib.hid (HC.out.below hb1)
  have HB1 := Lib.hid hb1
  have HB := Lib.hid hB
  have HX := Lib.hid hX
  have HO := Lib.hid hO
  have c4 := HC1.out.c4
  clear hb1 hz1 hB hX hO
  go_wp2_with fail
  refine Calls.mono (cnone_is p r1 w1 c4) ?_
  rintro e w2 ⟨rfl, rfl⟩
  obtain ⟨c19, c79, hMA, ca, cc, c20, hI, hIn⟩ := HC1.out.crewC HW.out
  have HI := Lib.hid hI
  have hl7 : c.crew.length ≤ 7 := by have := goodC_len HG.out; omega
  have b0 := HB.out.cell (i := 0) rfl
  have b1 := HB.out.cell (i := 1) rfl
  have b44 := HB.out.cell (i := 44) rfl
  have c7 := HC1.out.c7
  have c0 := HC1.out.c0
  have hq0 : (c.way == 0) = false := by simpa using HW.out
  clear hI hIn hMA c79 c4
  go_upto_region 4 with (fail)
  have hca := HCA.out
  clear HCA
  rcases hca with h1 | ⟨h1, h2⟩ | ⟨h1, h2, h3⟩ | ⟨h1, h2, h3, h4⟩ | ⟨h1, h2, h3, h4, h5⟩ | ⟨h1, h2, h3, h4, h5, h6⟩
  · have hk : (n.kind != 2) = true := by simpa using h1
    go_cut [11] from 12 to 40 (fun v11 wx => FlagB w1 wx true v11)
    case first =>
      go_quiet (fail)
      all_goals
        go_wp2_with fail
        go_meet
        exact ⟨rfl, below_drewN (Below.refl _ _) _⟩
    case rest =>
      obtain ⟨rfl, hS2⟩ := hcut
      clear c19 c20 b0 b1 b44 c7 c0 hq0
      have hS3 : Below w1.heap.size w1 wc := hS2
      have hx3 := HX.out.below hS3
      have hO3 : Only [p] w wc := Only.of_below (Below.step HB1.out hS3)
      obtain ⟨e1, e2, e3, e4, G1, G2, r0, G4⟩ := out_facts (HC1.out.below hS3) (HO.out.below hS3) (out0_v _) hx3 (by omega) hO3
      have R0 := Lib.hid r0
      clear hx3 hO3 r0 hS3
      go_wp2_with fail
      have r0 := R0.out
      refine bodyPost_ret (v := .tuple #[.agg out0.toArray, .int .i64 0]) (by simp [results, Try.results52, asAddr, r0]) rfl ?_
      exact ⟨out0, r2, rfl, .inl rfl, G1.out, G2.out, G4.out⟩
  · rw [h1] at b0
    have hk : (n.node != c.name) = true := by simpa using h2
    go_cut [11] from 12 to 40 (fun v11 wx => FlagB w1 wx true v11)
    case first =>
      go_quiet (fail)
      all_goals
        go_wp2_with fail
        go_meet
        exact ⟨rfl, below_drewN (Below.refl _ _) _⟩
    case rest =>
      obtain ⟨rfl, hS2⟩ := hcut
      clear c19 c20 b0 b1 b44 c7 c0 hq0
      have hS3 : Below w1.heap.size w1 wc := hS2
      have hx3 := HX.out.below hS3
      have hO3 : Only [p] w wc := Only.of_below (Below.step HB1.out hS3)
      obtain ⟨e1, e2, e3, e4, G1, G2, r0, G4⟩ := out_facts (HC1.out.below hS3) (HO.out.below hS3) (out0_v _) hx3 (by omega) hO3
      have R0 := Lib.hid r0
      clear hx3 hO3 r0 hS3
      go_wp2_with fail
      have r0 := R0.out
      refine bodyPost_ret (v := .tuple #[.agg out0.toArray, .int .i64 0]) (by simp [results, Try.results52, asAddr, r0]) rfl ?_
      exact ⟨out0, r2, rfl, .inl rfl, G1.out, G2.out, G4.out⟩
  · rw [h1] at b0
    rw [h2] at b44
    have H3 := Lib.hid h3
    clear h1 h2 h3
    go_cut [11] from 12 to 40 (fun v11 wx => FlagB w1 wx true v11)
    case first =>
      go_region_with
        ((go_at_call 79; go_loud ((with_reducible refine Calls.mono (has_any 1 ca cc c.crew n.fr _ ?_ (by omega)) ?_); (first | exact HI.out.ints | exact (HI.out.below (Below.refl _ _).drew).ints); rintro e wd ⟨rfl, hb⟩; rw [H3.out]; have hS : Below w1.heap.size w1 wd := (by first | exact hb | exact Below.step (Below.refl _ _).drew hb))))
      all_goals
        go_wp2_with fail
        go_meet
        exact ⟨rfl, hS⟩
    case rest =>
      obtain ⟨rfl, hS2⟩ := hcut
      clear c19 c20 b0 b1 b44 c7 c0 hq0
      have hS3 : Below w1.heap.size w1 wc := hS2
      have hx3 := HX.out.below hS3
      have hO3 : Only [p] w wc := Only.of_below (Below.step HB1.out hS3)
      obtain ⟨e1, e2, e3, e4, G1, G2, r0, G4⟩ := out_facts (HC1.out.below hS3) (HO.out.below hS3) (out0_v _) hx3 (by omega) hO3
      have R0 := Lib.hid r0
      clear hx3 hO3 r0 hS3
      go_wp2_with fail
      have r0 := R0.out
      refine bodyPost_ret (v := .tuple #[.agg out0.toArray, .int .i64 0]) (by simp [results, Try.results52, asAddr, r0]) rfl ?_
      exact ⟨out0, r2, rfl, .inl rfl, G1.out, G2.out, G4.out⟩
  · have H4 := Lib.hid h4
    clear h4
    rw [h1] at b0
    rw [h2] at b44
    have H3 := Lib.hid h3
    clear h1 h2 h3
    go_cut [11] from 12 to 40 (fun v11 wx => FlagB w1 wx false v11)
    case first =>
      go_region_with
        ((go_at_call 79; go_loud ((with_reducible refine Calls.mono (has_any 1 ca cc c.crew n.fr _ ?_ (by omega)) ?_); (first | exact HI.out.ints | exact (HI.out.below (Below.refl _ _).drew).ints); rintro e wd ⟨rfl, hb⟩; rw [H3.out]; have hS : Below w1.heap.size w1 wd := (by first | exact hb | exact Below.step (Below.refl _ _).drew hb))))
      all_goals
        go_wp2_with fail
        go_meet
        exact ⟨rfl, hS⟩
    case rest =>
      obtain ⟨rfl, hS2⟩ := hcut
      have HBb := Lib.hid (HB.out.below hS2)
      obtain ⟨g, wa, wcc, c59, c23, c24, hg⟩ := (HC1.out.below hS2).saidC HW.out
      have g1 := hg.cell (i := 1) rfl
      have b2 := HBb.out.cell (i := 2) rfl
      have b3 := HBb.out.cell (i := 3) rfl
      have b43 := HBb.out.cell (i := 43) rfl
      have hk : (n.stamp != c.wish.stamp) = true := by simpa using H4.out
      clear hg c19 c20 b0 b1 b44 c7 c0 hq0
      go_upto_region 6 with (fail)
      go_quiet (fail)
      obtain ⟨w3, hw3⟩ : ∃ x, x = wc.drewN nq := ⟨_, rfl⟩
      have hSq : Below wc.heap.size wc w3 := by rw [hw3]; exact below_drewN (Below.refl _ _) _
      rw [← hw3]
      clear hw3
      clear c59 c23 c24 g1 b2 b3 b43
      have hS3 : Below w1.heap.size w1 w3 := Below.step hS2 hSq
      have hx3 := HX.out.below hS3
      have hO3 : Only [p] w w3 := Only.of_below (Below.step HB1.out hS3)
      obtain ⟨e1, e2, e3, e4, G1, G2, r0, G4⟩ := out_facts (HC1.out.below hS3) (HO.out.below hS3) (out0_v _) hx3 (by omega) hO3
      have R0 := Lib.hid r0
      clear hx3 hO3 r0 hS3
      go_wp2_with fail
      have r0 := R0.out
      refine bodyPost_ret (v := .tuple #[.agg out0.toArray, .int .i64 0]) (by simp [results, Try.results52, asAddr, r0]) rfl ?_
      exact ⟨out0, r2, rfl, .inl rfl, G1.out, G2.out, G4.out⟩
  · have H4 := Lib.hid h4
    have H5 := Lib.hid h5
    clear h4 h5
    rw [h1] at b0
    rw [h2] at b44
    have H3 := Lib.hid h3
    clear h1 h2 h3
    go_cut [11] from 12 to 40 (fun v11 wx => FlagB w1 wx false v11)
    case first =>
      go_region_with
        ((go_at_call 79; go_loud ((with_reducible refine Calls.mono (has_any 1 ca cc c.crew n.fr _ ?_ (by omega)) ?_); (first | exact HI.out.ints | exact (HI.out.below (Below.refl _ _).drew).ints); rintro e wd ⟨rfl, hb⟩; rw [H3.out]; have hS : Below w1.heap.size w1 wd := (by first | exact hb | exact Below.step (Below.refl _ _).drew hb))))
      all_goals
        go_wp2_with fail
        go_meet
        exact ⟨rfl, hS⟩
    case rest =>
      obtain ⟨rfl, hS2⟩ := hcut
      have HBb := Lib.hid (HB.out.below hS2)
      obtain ⟨g, wa, wcc, c59, c23, c24, hg⟩ := (HC1.out.below hS2).saidC HW.out
      have g1 := hg.cell (i := 1) rfl
      have b2 := HBb.out.cell (i := 2) rfl
      have b3 := HBb.out.cell (i := 3) rfl
      have b43 := HBb.out.cell (i := 43) rfl
      rw [H4.out] at b43
      have hk : (n.group != c.wish.group) = true := by simpa using H5.out
      clear hg c19 c20 b0 b1 b44 c7 c0 hq0
      go_upto_region 6 with (fail)
      go_quiet (fail)
      obtain ⟨w3, hw3⟩ : ∃ x, x = wc.drewN nq := ⟨_, rfl⟩
      have hSq : Below wc.heap.size wc w3 := by rw [hw3]; exact below_drewN (Below.refl _ _) _
      rw [← hw3]
      clear hw3
      clear c59 c23 c24 g1 b2 b3 b43
      have hS3 : Below w1.heap.size w1 w3 := Below.step hS2 hSq
      have hx3 := HX.out.below hS3
      have hO3 : Only [p] w w3 := Only.of_below (Below.step HB1.out hS3)
      obtain ⟨e1, e2, e3, e4, G1, G2, r0, G4⟩ := out_facts (HC1.out.below hS3) (HO.out.below hS3) (out0_v _) hx3 (by omega) hO3
      have R0 := Lib.hid r0
      clear hx3 hO3 r0 hS3
      go_wp2_with fail
      have r0 := R0.out
      refine bodyPost_ret (v := .tuple #[.agg out0.toArray, .int .i64 0]) (by simp [results, Try.results52, asAddr, r0]) rfl ?_
      exact ⟨out0, r2, rfl, .inl rfl, G1.out, G2.out, G4.out⟩
  · have H4 := Lib.hid h4
    have H5 := Lib.hid h5
    have H6 := Lib.hid h6
    clear h4 h5 h6
    rw [h1] at b0
    rw [h2] at b44
    have H3 := Lib.hid h3
    clear h1 h2 h3
    go_cut [11] from 12 to 40 (fun v11 wx => FlagB w1 wx false v11)
    case first =>
      go_region_with
        ((go_at_call 79; go_loud ((with_reducible refine Calls.mono (has_any 1 ca cc c.crew n.fr _ ?_ (by omega)) ?_); (first | exact HI.out.ints | exact (HI.out.below (Below.refl _ _).drew).ints); rintro e wd ⟨rfl, hb⟩; rw [H3.out]; have hS : Below w1.heap.size w1 wd := (by first | exact hb | exact Below.step (Below.refl _ _).drew hb))))
      all_goals
        go_wp2_with fail
        go_meet
        exact ⟨rfl, hS⟩
    case rest =>
      obtain ⟨rfl, hS2⟩ := hcut
      have HBb := Lib.hid (HB.out.below hS2)
      obtain ⟨g, wa, wcc, c59, c23, c24, hg⟩ := (HC1.out.below hS2).saidC HW.out
      have g1 := hg.cell (i := 1) rfl
      have b2 := HBb.out.cell (i := 2) rfl
      have b3 := HBb.out.cell (i := 3) rfl
      have b43 := HBb.out.cell (i := 43) rfl
      rw [H4.out] at b43
      rw [H5.out] at b2
      have hk : (n.epoch != c.wish.epoch) = true := by simpa using H6.out
      clear hg c19 c20 b0 b1 b44 c7 c0 hq0
      go_upto_region 6 with (fail)
      go_quiet (fail)
      obtain ⟨w3, hw3⟩ : ∃ x, x = wc.drewN nq := ⟨_, rfl⟩
      have hSq : Below wc.heap.size wc w3 := by rw [hw3]; exact below_drewN (Below.refl _ _) _
      rw [← hw3]
      clear hw3
      clear c59 c23 c24 g1 b2 b3 b43
      have hS3 : Below w1.heap.size w1 w3 := Below.step hS2 hSq
      have hx3 := HX.out.below hS3
      have hO3 : Only [p] w w3 := Only.of_below (Below.step HB1.out hS3)
      obtain ⟨e1, e2, e3, e4, G1, G2, r0, G4⟩ := out_facts (HC1.out.below hS3) (HO.out.below hS3) (out0_v _) hx3 (by omega) hO3
      have R0 := Lib.hid r0
      clear hx3 hO3 r0 hS3
      go_wp2_with fail
      have r0 := R0.out
      refine bodyPost_ret (v := .tuple #[.agg out0.toArray, .int .i64 0]) (by simp [results, Try.results52, asAddr, r0]) rfl ?_
      exact ⟨out0, r2, rfl, .inl rfl, G1.out, G2.out, G4.out⟩
end Go.Proofs.Ytldcpnabgpjgiaa.Walks
