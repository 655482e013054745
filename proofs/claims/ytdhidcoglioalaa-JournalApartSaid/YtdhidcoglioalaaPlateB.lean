/-
  The power goes.
-/
import Derived.Test.YtdhidcoglioalaaPlateA
import Derived.Test.YtdhidcoglioalaaBoolM
import Derived.Test.YtdhidcoglioalaaPlateK
namespace Go.Proofs.Ytdhidcoglioalaa.Walks
open Go.RowKit Plain
set_option linter.unusedVariables false
attribute [local go_sem ↓] exec_load88 exec_store88 exec_alloc88
attribute [local go_sem] isPt_mk adOf_mk isSec_mk sOf_mk alloc_setCells is_new at_new room_new is_past at_past room_past is_drew at_drew room_drew setCells_past setCells_size setCells_drew

def midP (P : Pl) (l : List Bool) (k : Nat) : Pl := { P with stays := P.midS l k }
theorem midP_zero (P : Pl) (l : List Bool) : midP P l 0 = P := by unfold midP; rw [Pl.midS_zero]
set_option maxHeartbeats 1000000 in
set_option maxRecDepth 10000 in
theorem gone_any (w : World) (q : PLoc) (P : Pl) (h : PlateAt w q P) (a : Option Addr) (l : List Bool) (cap : Nat) (hB : Bools w a l) (hdis : l ≠ [] → ∀ ad, a = some ad → ad.block ∉ q.R) :
    Calls Try.prog 46 #[pv q, .slice a l.length cap] w fun e w' => (∃ v, e = .returned v) ∧ PlateAt w' q (P.gone l) ∧ Only q.R w w' := by
  have c1 := h.c1
  have hp := h.lt _ q.inP
  obtain ⟨m, hm⟩ : ∃ m, m = P.ws.length := ⟨_, rfl⟩
  obtain ⟨n, hn⟩ : ∃ n, n = l.length := ⟨_, rfl⟩
  have hmm : m ≤ 4096 := by
    have h1 : P.ws.length ≤ (List.range P.n).length := List.length_filter_le _ _
    have h2 := h.ok.most
    rw [List.length_range] at h1
    omega
  have hk := sorted44 w q P h
  rw [← hm] at hk
  rw [← hn]
  have HM := Lib.hid hm
  have HN := Lib.hid hn
  have HK := Lib.hid hk
  have HP := Lib.hid h
  have HB := Lib.hid hB
  have HD := Lib.hid hdis
  have hn' : n ≤ 140737488355328 := by have := hB.1; omega
  clear hm hn hk h hB hdis
  go_enter Try.func46, Try.ntmps46
  go_wp2_with fail
  refine Calls.mono (keys45 _ _) ?_
  rintro e w1 ⟨rfl, rfl⟩
  go_wp2_with fail
  refine Calls.mono HK.out ?_
  rintro e w2 ⟨a2, cap2, rfl, hI, hfr, hb⟩
  have HI := Lib.hid hI
  have HF := Lib.hid hfr
  have HBe := Lib.hid hb
  have H2 := Lib.hid (HP.out.below hb)
  have HB2 := Lib.hid (HB.out.below hb)
  have HLt := Lib.hid (HP.out.lt)
  clear hI hfr hb HK c1 hp
  go_wp2_with fail
  go_loopw [13] (fun i wr => ∃ k : Nat, k ≤ m ∧ i = .int .i64 k ∧ Hid (PlateAt wr q (midP P l k)) ∧ Hid (Only q.R w2 wr)) (fun i _ => m - (RowKit.intOf i).toNat)
  case atStart => exact ⟨0, by omega, rfl, Lib.hid (by rw [midP_zero]; exact H2.out), Lib.hid (Only.refl _ _)⟩
  case round =>
    obtain ⟨k, hk, rfl, HW, HO⟩ := hrel
    by_cases hlt : k < m
    · have hk1 : k < P.ws.length := by have := HM.out; omega
      obtain ⟨b, off, rfl, hb0, hc⟩ := HI.out.at_lt (k := k) (by simpa using hk1)
      obtain ⟨i, hi⟩ : ∃ i, i = P.ws[k] := ⟨_, rfl⟩
      have hcell : wr.cell? ⟨b, off + k, none⟩ = some (.int .i64 (i : Int)) := by
        have h1 := hc k (by simpa using hk1)
        rw [List.getElem_map, ← hi] at h1
        exact HO.out.cell (fun hm => Nat.lt_irrefl _ (Nat.lt_of_lt_of_le (HLt.out _ hm) (HF.out ⟨b, off, none⟩ rfl))) h1
      obtain ⟨hr1, hr2, hr3⟩ := P.ws_at hk1
      rw [← hi] at hr1 hr2 hr3
      have c0 := HW.out.c0
      have c1 := HW.out.c1
      obtain ⟨s, hs⟩ := Option.isSome_iff_exists.1 hr2
      have hwf : Wf (i : Int) := Wf.of (by omega) (by have := HP.out.ok.most; omega)
      have hlk : (Instr.lookup 60 (.map (some q.mb)) (.int .i64 (i : Int)) false).run Try.prog wr.drew = .ok (secV s) wr.drew := by
        have := HW.out.drew.mp.look (t := 60) (e := 88) false Try.underlying60 (zero88 _) hwf
        have hm : wmap (midP P l k).waits (i : Int) = some (secV s) := by unfold wmap midP; simp [hs]
        rw [hm] at this
        exact this
      have hroom := HW.out.drew.room (i := i) (by exact hr3)
      have hlt0 := HW.out.lt _ q.inP
      have hn0 : (midP P l k).n = P.n := rfl
      rw [hn0] at c0
      obtain ⟨pn, hpn⟩ : ∃ pn, pn = P.n := ⟨_, rfl⟩
      rw [← hpn] at c0 hr3
      have HI1 := Lib.hid hi
      have HK1 := Lib.hid hk1
      have HPN := Lib.hid hpn
      have HS := Lib.hid hs
      clear hc hi hr1 hr2 hs hwf hn0 hpn hk
      by_cases hkn : k < n
      · have hkl : k < l.length := by have := HN.out; omega
        obtain ⟨b', off', rfl, hb0', hc'⟩ := HB2.out.at_lt hkl
        obtain ⟨t, ht⟩ : ∃ t, t = l[k] := ⟨_, rfl⟩
        have hcell' : wr.cell? ⟨b', off' + k, none⟩ = some (.bool t) := by
          rw [ht]; exact HO.out.cell (HD.out (List.ne_nil_of_length_pos (by omega)) ⟨b', off', none⟩ rfl) (hc' k hkl)
        have hgt : l.getD k false = t := by rw [ht, List.getD_eq_getElem?_getD, List.getElem?_eq_getElem hkl]; rfl
        have HGT := Lib.hid hgt
        clear hc' ht hkl hgt
        cases t
        · go_wp2
          go_roundw
          case rel =>
            refine ⟨k + 1, by omega, by go_num, Lib.hid ?_, HO⟩
            unfold midP
            rw [Pl.midS_drop P l HK1.out HGT.out]
            exact HW.out
          case measure => simp [RowKit.intOf]; omega
        · go_wp2_with fail
          go_region
          go_wp2
          go_roundw
          case rel =>
            refine ⟨k + 1, by omega, by go_num, Lib.hid ?_, Lib.hid ?_⟩
            · have h1 := HW.out.setSec (i := i) (by exact HPN.out ▸ hr3) s
              unfold midP
              rw [Pl.midS_keep P l HK1.out HGT.out, ← HI1.out, HS.out]
              exact h1.drew
            · exact (Only.setCells q.inS _ _ HO.out).drew
          case measure => simp [RowKit.intOf]; omega
      · have hgt : l.getD k false = false := by
          rw [List.getD_eq_getElem?_getD, List.getElem?_eq_none (by have := HN.out; omega)]; rfl
        have HGT := Lib.hid hgt
        clear hgt
        go_wp2
        go_roundw
        case rel =>
          refine ⟨k + 1, by omega, by go_num, Lib.hid ?_, HO⟩
          unfold midP
          rw [Pl.midS_drop P l HK1.out HGT.out]
          exact HW.out
        case measure => simp [RowKit.intOf]; omega
    · obtain rfl : k = m := by omega
      have c1 := HW.out.c1
      obtain ⟨w3, hcl, hm3, hg3, hz3⟩ := HW.out.mp.clear (t := 60) (e := 88) Try.underlying60 0
      have h3 : PlateAt w3 q { midP P l k with waits := fun _ => none } := HW.out.setMap hg3 (by rw [wmap_none]; exact hm3) (fun _ _ => rfl)
      have c2 := h3.c2
      have c3 := h3.c3
      have f2 := h3.fz 2
      have f3 := h3.fz 3
      have hp := h3.lt _ q.inP
      have H3 := Lib.hid h3
      have HM3 := Lib.hid hm3
      have HO3 := Lib.hid ((HO.out).trans (Only.of_grown hg3 q.inM))
      clear h3 hm3 hg3
      go_wp2
      go_end0
      refine ⟨⟨_, rfl⟩, ?_, ?_⟩
      · have h1 := H3.out.setCell (i := 2) (v := .bool true) (by omega) { midP P l k with waits := fun _ => none, dead := true } rfl rfl rfl rfl ⟨HP.out.ok.pos, HP.out.ok.most, fun _ _ => rfl, HP.out.ok.left⟩ (by simp) (by simp) (by simp) (by simp)
        have h2 := h1.setCell (i := 3) (v := .bool false) (by omega) { midP P l k with waits := fun _ => none, dead := true, fails := false } rfl rfl rfl rfl ⟨HP.out.ok.pos, HP.out.ok.most, fun _ _ => rfl, HP.out.ok.left⟩ (by simp) (by simp) (by simp) (by simp)
        refine h2.congr rfl (fun i hi => ?_) rfl rfl rfl rfl rfl
        have := HM.out
        subst this
        exact congrArg secL (Pl.midS_end P l hi).symm
      · exact (Only.of_below HBe.out).trans ((HO3.out.setCell q.inP _).setCell q.inP _)
end Go.Proofs.Ytdhidcoglioalaa.Walks
