/-
  The document's plate: the power goes; reading; falling.
-/
import Derived.Test.YtdhidcoglioalaaRefA
namespace Go.Proofs.Ytdhidcoglioalaa.Walks
open Go.RowKit Plain
set_option linter.unusedVariables false

/-- The plate, when so many sectors have been looked at. -/
def gS (P : Pl) (keep : List Bool) (i j : Nat) : Sec := if j < i then P.goneAt keep j else P.stays j
def gN (P : Pl) (keep : List Bool) (i j : Nat) : Sec := if j < i then P.goneAt keep j else P.seen j
def gF (P : Pl) (i j : Nat) : Bool := if j < i then false else waitB P j
theorem g_at {α : Type} (A B : Nat → α) (i j : Nat) (x : α) (hx : x = A i) : (if j < i + 1 then A j else B j) = upd (fun j => if j < i then A j else B j) i x j := by
  by_cases e : j = i
  · subst e; rw [upd_same, if_pos (by omega), hx]
  · rw [upd_other _ _ e]
    by_cases h : j < i
    · rw [if_pos h, if_pos (by omega)]
    · rw [if_neg h, if_neg (by omega)]
theorem g_same {α : Type} (A B : Nat → α) (i j : Nat) (hx : A i = B i) : (if j < i + 1 then A j else B j) = (if j < i then A j else B j) := by
  by_cases e : j = i
  · subst e; rw [if_pos (by omega), if_neg (by omega), hx]
  · by_cases h : j < i
    · rw [if_pos h, if_pos (by omega)]
    · rw [if_neg h, if_neg (by omega)]
structure GoneR (w wr : World) (r : RLoc) (P : Pl) (keep : List Bool) (i : Nat) : Prop where
  x : RefX wr r P.n (gS P keep i) (gN P keep i) (gF P i) P.dead P.fails P.left P.keep
  o : Only r.R w wr
set_option maxRecDepth 10000 in
set_option maxHeartbeats 1000000 in
theorem rf_gone (w : World) (r : RLoc) (P : Pl) (h : RefAt w r P) (a : Option Addr) (l : List Bool) (cap : Nat) (hB : Bools w a l) (hdis : l ≠ [] → ∀ ad, a = some ad → ad.block ∉ r.R) :
    Calls Try.prog 80 #[rv r, .slice a l.length cap] w fun e w' => (∃ v, e = .returned v) ∧ RefAt w' r (P.gone l) ∧ Only r.R w w' := by
  obtain ⟨n, hn⟩ : ∃ n, n = P.n := ⟨_, rfl⟩
  obtain ⟨m, hm⟩ : ∃ m, m = l.length := ⟨_, rfl⟩
  have hn4 : n ≤ 4096 := by have := h.x.n2; omega
  have hm4 : m ≤ 140737488355328 := by have := hB.1; omega
  rw [← hm]
  have HN := Lib.hid hn
  have HM := Lib.hid hm
  have H := Lib.hid h
  have HB := Lib.hid hB
  have HD := Lib.hid hdis
  clear hn hm h hB hdis
  go_enter Try.func80, Try.ntmps80
  go_wp2_with fail
  go_loopw [4, 5] (fun kk i wr => ∃ j : Nat, j ≤ n ∧ i = .int .i64 j ∧ kk = .int .i64 (P.rank j : Nat) ∧ Hid (GoneR w wr r P l j)) (fun _ i _ => n - (RowKit.intOf i).toNat)
  case atStart =>
    refine ⟨0, by omega, rfl, rfl, Lib.hid ⟨H.out.x.congr (fun i hi => ?_) (fun i hi => ?_) (fun i hi => ?_), Only.refl _ _⟩⟩
    · unfold gS; rw [if_neg (by omega)]
    · unfold gN; rw [if_neg (by omega)]
    · unfold gF; rw [if_neg (by omega)]
  case round =>
    obtain ⟨j, hj, rfl, rfl, HG⟩ := hrel
    obtain ⟨x1, c1⟩ := HG.out.x.c1
    rw [← HN.out] at c1
    by_cases hlt : j < n
    · have hjn : j < P.n := by have := HN.out; omega
      obtain ⟨x0, c0⟩ := HG.out.x.c0
      obtain ⟨x2, c2⟩ := HG.out.x.c2
      rw [← HN.out] at c0 c2
      obtain ⟨ff, fc⟩ := HG.out.x.fl j hjn
      have eF : gF P j j = waitB P j := by unfold gF; rw [if_neg (by omega)]
      rw [eF] at fc
      obtain ⟨sf, sv, sc, srow⟩ := HG.out.x.st j hjn
      obtain ⟨nf, nv, nc, nrow⟩ := HG.out.x.sn j hjn
      have eS : gS P l j j = P.stays j := by unfold gS; rw [if_neg (by omega)]
      have eN : gN P l j j = P.seen j := by unfold gN; rw [if_neg (by omega)]
      rw [eS] at srow
      rw [eN] at nrow
      obtain ⟨e1, e2, e3, e4, e5, e6⟩ := HG.out.x.ne
      have hrk : P.rank j ≤ j := by
        unfold Pl.rank
        have := List.length_filter_le (fun j => (P.waits j).isSome) (List.range j)
        rwa [List.length_range] at this
      obtain ⟨k, hk⟩ : ∃ k, k = P.rank j := ⟨_, rfl⟩
      rw [← hk] at hrk ⊢
      have HK := Lib.hid hk
      have HJ := Lib.hid hjn
      cases hw : P.waits j with
      | none =>
        have efc : waitB P j = false := by unfold waitB; rw [hw]; rfl
        rw [efc] at fc
        have HW := Lib.hid hw
        clear eF eS eN hk hjn hw efc sf sc srow nf nc nrow sv nv
        go_wp2
        go_roundw
        case rel =>
          refine ⟨j + 1, by omega, by go_num, ?_, Lib.hid ⟨HG.out.x.congr (fun i hi => ?_) (fun i hi => ?_) (fun i hi => ?_), HG.out.o⟩⟩
          · rw [Pl.rank_succ, HW.out, HK.out]; rfl
          · exact congrArg secL (g_same _ _ j i (by unfold Pl.goneAt; rw [HW.out]))
          · exact congrArg secL (g_same _ _ j i (by unfold Pl.goneAt Pl.seen; rw [HW.out]; rfl))
          · exact g_same (fun _ => false) (waitB P) j i (by show false = waitB P j; unfold waitB; rw [HW.out]; rfl)
        case measure => simp [RowKit.intOf]; omega
      | some s =>
        have efc : waitB P j = true := by unfold waitB; rw [hw]; rfl
        rw [efc] at fc
        have hseen : P.seen j = s := by unfold Pl.seen; rw [hw]; rfl
        have hga : P.goneAt l j = if l.getD k false then s else P.stays j := by unfold Pl.goneAt; rw [hw, hk]
        rw [hseen] at nrow
        obtain ⟨sg, so, sx, rfl, hsr, hsg⟩ := srow
        obtain ⟨ng, no, nx, rfl, hnr, hng⟩ := nrow
        have HW := Lib.hid hw
        have HS : Hid (RowV wr r.N (.slice (some ⟨sg, so, none⟩) 64 sx) (P.stays j)) := Lib.hid ⟨sg, so, sx, rfl, hsr, hsg⟩
        have HNr : Hid (RowV wr r.N (.slice (some ⟨ng, no, none⟩) 64 nx) s) := Lib.hid ⟨ng, no, nx, rfl, hnr, hng⟩
        have HGA := Lib.hid hga
        have hwrap := IntWalk.i64_in (n := (k : Int) + 1) (by omega)
        have hrs : P.rank (j + 1) = k + 1 := by rw [Pl.rank_succ, hw, hk]; rfl
        have HRS := Lib.hid hrs
        clear eF eS eN hk hjn hw efc hseen hga hsr hsg hnr hng hrs
        by_cases hkm : k < m
        · have hkl : k < l.length := by have := HM.out; omega
          obtain ⟨b', off', rfl, _, hc'⟩ := HB.out.at_lt hkl
          obtain ⟨v, hv⟩ : ∃ v, v = l[k] := ⟨_, rfl⟩
          have hkc : wr.cell? ⟨b', off' + k, none⟩ = some (.bool v) := by
            rw [hv]
            exact HG.out.o.cell (HD.out (List.ne_nil_of_length_pos (by omega)) ⟨b', off', none⟩ rfl) (hc' k hkl)
          have hgt : l.getD k false = v := by rw [hv, List.getD_eq_getElem?_getD, List.getElem?_eq_getElem hkl]; rfl
          rw [hgt] at HGA
          clear hc' hv hgt hkl
          cases v
          · have HGb := Lib.hid (show P.goneAt l j = P.stays j from HGA.out)
            clear HGA
            go_wp2_with fail
            go_region
            go_wp2
            go_roundw
            case rel =>
              have h2 := HG.out.x.setN (i := j) HS.out
              have h3 := h2.setW (i := j) false
              refine ⟨j + 1, by omega, by go_num, by rw [HRS.out]; go_num, Lib.hid ⟨(h3.congr (fun i hi => ?_) (fun i hi => ?_) (fun i hi => ?_)).below (below_drewN (Below.refl _ _) 1), ?_⟩⟩
              · exact congrArg secL (g_same _ _ j i HGb.out)
              · exact congrArg secL (g_at _ _ j i _ HGb.out.symm)
              · exact g_at (fun _ => false) (waitB P) j i false rfl
              · exact ((HG.out.o.setCell (p := ⟨r.nb, j, none⟩) r.inN _).setCell (p := ⟨r.wb, j, none⟩) r.inW _).drew
            case measure => simp [RowKit.intOf]; omega
          · have HGb := Lib.hid (show P.goneAt l j = s from HGA.out)
            clear HGA
            go_wp2_with fail
            go_region
            go_wp2_with fail
            go_region
            go_wp2
            go_roundw
            case rel =>
              have h1 := HG.out.x.setS (i := j) HNr.out
              have h2 := h1.setN (i := j) (HNr.out.of (only_cell ((Only.refl r.R wr).setCell (p := ⟨r.sb, j, none⟩) r.inS _) (fun b hb => r.inN' hb)))
              have h3 := h2.setW (i := j) false
              refine ⟨j + 1, by omega, by go_num, by rw [HRS.out]; go_num, Lib.hid ⟨(h3.congr (fun i hi => ?_) (fun i hi => ?_) (fun i hi => ?_)).below (below_drewN (Below.refl _ _) 2), ?_⟩⟩
              · exact congrArg secL (g_at _ _ j i s HGb.out.symm)
              · exact congrArg secL (g_at _ _ j i s HGb.out.symm)
              · exact g_at (fun _ => false) (waitB P) j i false rfl
              · exact ((((HG.out.o.setCell (p := ⟨r.sb, j, none⟩) r.inS _).setCell (p := ⟨r.nb, j, none⟩) r.inN _).setCell (p := ⟨r.wb, j, none⟩) r.inW _).drew).drew
            case measure => simp [RowKit.intOf]; omega
        · have hgt : l.getD k false = false := by
            rw [List.getD_eq_getElem?_getD, List.getElem?_eq_none (by have := HM.out; omega)]; rfl
          rw [hgt] at HGA
          have HGb := Lib.hid (show P.goneAt l j = P.stays j from HGA.out)
          clear HGA hgt
          go_wp2_with fail
          go_region
          go_wp2
          go_roundw
          case rel =>
            have h2 := HG.out.x.setN (i := j) HS.out
            have h3 := h2.setW (i := j) false
            refine ⟨j + 1, by omega, by go_num, by rw [HRS.out]; go_num, Lib.hid ⟨(h3.congr (fun i hi => ?_) (fun i hi => ?_) (fun i hi => ?_)).below (below_drewN (Below.refl _ _) 1), ?_⟩⟩
            · exact congrArg secL (g_same _ _ j i HGb.out)
            · exact congrArg secL (g_at _ _ j i _ HGb.out.symm)
            · exact g_at (fun _ => false) (waitB P) j i false rfl
            · exact ((HG.out.o.setCell (p := ⟨r.nb, j, none⟩) r.inN _).setCell (p := ⟨r.wb, j, none⟩) r.inW _).drew
          case measure => simp [RowKit.intOf]; omega
    · obtain rfl : j = n := by omega
      have c3 := HG.out.x.c3
      have c4 := HG.out.x.c4
      have f3 := HG.out.x.fz 3
      have f4 := HG.out.x.fz 4
      go_wp2
      go_end0
      have h1 := HG.out.x.setP (i := 3) (v := .bool true) (dead' := true) (fails' := P.fails) (left' := P.left) (keep' := P.keep) (by simp) (by simp) (by simp) (by simp) (by omega)
      have h2 := h1.setP (i := 4) (v := .bool false) (dead' := true) (fails' := false) (left' := P.left) (keep' := P.keep) (by simp) (by simp) (by simp) (by simp) (by omega)
      refine ⟨⟨_, rfl⟩, ⟨h2.congr (fun i hi => ?_) (fun i hi => ?_) (fun i hi => ?_), H.out.ok.gone l⟩, (HG.out.o.setCell r.inP _).setCell r.inP _⟩
      · have := HN.out
        show secL (P.goneAt l i) = secL (gS P l j i)
        unfold gS
        rw [if_pos (by omega)]
      · have := HN.out
        show secL (P.goneAt l i) = secL (gN P l j i)
        unfold gN
        rw [if_pos (by omega)]
      · have := HN.out
        show false = gF P j i
        unfold gF
        rw [if_pos (by omega)]
end Go.Proofs.Ytdhidcoglioalaa.Walks
