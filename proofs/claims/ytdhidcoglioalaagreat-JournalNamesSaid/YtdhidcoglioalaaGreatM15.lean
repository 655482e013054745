/-
  The document's plate: the power goes; reading; falling.
  The document's plate: doings, falling, failing, reading, writing.
  The document's plate: reading, writing, flushing, what waits.
-/
import Derived.Test.YtdhidcoglioalaaGreatM13
namespace Go.Proofs.YtdhidcoglioalaaGreat.Walks
open Go.RowKit Plain
set_option linter.unusedVariables false

/-- The plate, when so many sectors have been looked at. -/
def gS (P : Pl) (keep : List Bool) (i j : Nat) : Sec := if j < i then P.goneAt keep j else P.stays j
def gN (P : Pl) (keep : List Bool) (i j : Nat) : Sec := if j < i then P.goneAt keep j else P.seen j
def gF (P : Pl) (i j : Nat) : Bool := if j < i then false else waitB P j
theorem g_at {α : Type} (A B : Nat → α) (i j : Nat) (x : α) (hx : x = A i) : (if j < i + 1 then A j else B j) = upd (fun j => if j < i then A j else B j) i x j := by
  by_cases e : j = i
  · subst e; rw [upd_same, if_pos (by omega), hx]
  · rw [upd_other _ _ e]
    by_cases h : j < i
    · rw [if_pos h, if_pos (by omega)]
    · rw [if_neg h, if_neg (by omega)]
theorem g_same {α : Type} (A B : Nat → α) (i j : Nat) (hx : A i = B i) : (if j < i + 1 then A j else B j) = (if j < i then A j else B j) := by
  by_cases e : j = i
  · subst e; rw [if_pos (by omega), if_neg (by omega), hx]
  · by_cases h : j < i
    · rw [if_pos h, if_pos (by omega)]
    · rw [if_neg h, if_neg (by omega)]
structure GoneR (w wr : World) (r : RLoc) (P : Pl) (keep : List Bool) (i : Nat) : Prop where
  x : RefX wr r P.n (gS P keep i) (gN P keep i) (gF P i) P.dead P.fails P.left P.keep
  o : Only r.R w wr
set_option maxRecDepth 10000 in
set_option maxHeartbeats 1000000 in
theorem rf_gone (w : World) (r : RLoc) (P : Pl) (h : RefAt w r P) (a : Option Addr) (l : List Bool) (cap : Nat) (hB : Bools w a l) (hdis : l ≠ [] → ∀ ad, a = some ad → ad.block ∉ r.R) :
    Calls Tryz.prog 106 #[rv r, .slice a l.length cap] w fun e w' => (∃ v, e = .returned v) ∧ RefAt w' r (P.gone l) ∧ Only r.R w w' := by
  obtain ⟨n, hn⟩ : ∃ n, n = P.n := ⟨_, rfl⟩
  obtain ⟨m, hm⟩ : ∃ m, m = l.length := ⟨_, rfl⟩
  have hn4 : n ≤ 4096 := by have := h.x.n2; omega
  have hm4 : m ≤ 140737488355328 := by have := hB.1; omega
  rw [← hm]
  have HN := Lib.hid hn
  have HM := Lib.hid hm
  have H := Lib.hid h
  have HB := Lib.hid hB
  have HD := Lib.hid hdis
  clear hn hm h hB hdis
  go_enter Tryz.func106, Tryz.ntmps106
  go_wp2_with fail
  go_loopw [4, 5] (fun kk i wr => ∃ j : Nat, j ≤ n ∧ i = .int .i64 j ∧ kk = .int .i64 (P.rank j : Nat) ∧ Hid (GoneR w wr r P l j)) (fun _ i _ => n - (RowKit.intOf i).toNat)
  case atStart =>
    refine ⟨0, by omega, rfl, rfl, Lib.hid ⟨H.out.x.congr (fun i hi => ?_) (fun i hi => ?_) (fun i hi => ?_), Only.refl _ _⟩⟩
    · unfold gS; rw [if_neg (by omega)]
    · unfold gN; rw [if_neg (by omega)]
    · unfold gF; rw [if_neg (by omega)]
  case round =>
    obtain ⟨j, hj, rfl, rfl, HG⟩ := hrel
    obtain ⟨x1, c1⟩ := HG.out.x.c1
    rw [← HN.out] at c1
    by_cases hlt : j < n
    · have hjn : j < P.n := by have := HN.out; omega
      obtain ⟨x0, c0⟩ := HG.out.x.c0
      obtain ⟨x2, c2⟩ := HG.out.x.c2
      rw [← HN.out] at c0 c2
      obtain ⟨ff, fc⟩ := HG.out.x.fl j hjn
      have eF : gF P j j = waitB P j := by unfold gF; rw [if_neg (by omega)]
      rw [eF] at fc
      obtain ⟨sf, sv, sc, srow⟩ := HG.out.x.st j hjn
      obtain ⟨nf, nv, nc, nrow⟩ := HG.out.x.sn j hjn
      have eS : gS P l j j = P.stays j := by unfold gS; rw [if_neg (by omega)]
      have eN : gN P l j j = P.seen j := by unfold gN; rw [if_neg (by omega)]
      rw [eS] at srow
      rw [eN] at nrow
      obtain ⟨e1, e2, e3, e4, e5, e6⟩ := HG.out.x.ne
      have hrk : P.rank j ≤ j := by
        unfold Pl.rank
        have := List.length_filter_le (fun j => (P.waits j).isSome) (List.range j)
        rwa [List.length_range] at this
      obtain ⟨k, hk⟩ : ∃ k, k = P.rank j := ⟨_, rfl⟩
      rw [← hk] at hrk ⊢
      have HK := Lib.hid hk
      have HJ := Lib.hid hjn
      cases hw : P.waits j with
      | none =>
        have efc : waitB P j = false := by unfold waitB; rw [hw]; rfl
        rw [efc] at fc
        have HW := Lib.hid hw
        clear eF eS eN hk hjn hw efc sf sc srow nf nc nrow sv nv
        go_wp2
        go_roundw
        case rel =>
          refine ⟨j + 1, by omega, by go_num, ?_, Lib.hid ⟨HG.out.x.congr (fun i hi => ?_) (fun i hi => ?_) (fun i hi => ?_), HG.out.o⟩⟩
          · rw [Pl.rank_succ, HW.out, HK.out]; rfl
          · exact congrArg secL (g_same _ _ j i (by unfold Pl.goneAt; rw [HW.out]))
          · exact congrArg secL (g_same _ _ j i (by unfold Pl.goneAt Pl.seen; rw [HW.out]; rfl))
          · exact g_same (fun _ => false) (waitB P) j i (by show false = waitB P j; unfold waitB; rw [HW.out]; rfl)
        case measure => simp [RowKit.intOf]; omega
      | some s =>
        have efc : waitB P j = true := by unfold waitB; rw [hw]; rfl
        rw [efc] at fc
        have hseen : P.seen j = s := by unfold Pl.seen; rw [hw]; rfl
        have hga : P.goneAt l j = if l.getD k false then s else P.stays j := by unfold Pl.goneAt; rw [hw, hk]
        rw [hseen] at nrow
        obtain ⟨sg, so, sx, rfl, hsr, hsg⟩ := srow
        obtain ⟨ng, no, nx, rfl, hnr, hng⟩ := nrow
        have HW := Lib.hid hw
        have HS : Hid (RowV wr r.N (.slice (some ⟨sg, so, none⟩) 64 sx) (P.stays j)) := Lib.hid ⟨sg, so, sx, rfl, hsr, hsg⟩
        have HNr : Hid (RowV wr r.N (.slice (some ⟨ng, no, none⟩) 64 nx) s) := Lib.hid ⟨ng, no, nx, rfl, hnr, hng⟩
        have HGA := Lib.hid hga
        have hwrap := IntWalk.i64_in (n := (k : Int) + 1) (by omega)
        have hrs : P.rank (j + 1) = k + 1 := by rw [Pl.rank_succ, hw, hk]; rfl
        have HRS := Lib.hid hrs
        clear eF eS eN hk hjn hw efc hseen hga hsr hsg hnr hng hrs
        by_cases hkm : k < m
        · have hkl : k < l.length := by have := HM.out; omega
          obtain ⟨b', off', rfl, _, hc'⟩ := HB.out.at_lt hkl
          obtain ⟨v, hv⟩ : ∃ v, v = l[k] := ⟨_, rfl⟩
          have hkc : wr.cell? ⟨b', off' + k, none⟩ = some (.bool v) := by
            rw [hv]
            exact HG.out.o.cell (HD.out (List.ne_nil_of_length_pos (by omega)) ⟨b', off', none⟩ rfl) (hc' k hkl)
          have hgt : l.getD k false = v := by rw [hv, List.getD_eq_getElem?_getD, List.getElem?_eq_getElem hkl]; rfl
          rw [hgt] at HGA
          clear hc' hv hgt hkl
          cases v
          · have HGb := Lib.hid (show P.goneAt l j = P.stays j from HGA.out)
            clear HGA
            go_wp2_with fail
            go_region
            go_wp2
            go_roundw
            case rel =>
              have h2 := HG.out.x.setN (i := j) HS.out
              have h3 := h2.setW (i := j) false
              refine ⟨j + 1, by omega, by go_num, by rw [HRS.out]; go_num, Lib.hid ⟨(h3.congr (fun i hi => ?_) (fun i hi => ?_) (fun i hi => ?_)).below (below_drewN (Below.refl _ _) 1), ?_⟩⟩
              · exact congrArg secL (g_same _ _ j i HGb.out)
              · exact congrArg secL (g_at _ _ j i _ HGb.out.symm)
              · exact g_at (fun _ => false) (waitB P) j i false rfl
              · exact ((HG.out.o.setCell (p := ⟨r.nb, j, none⟩) r.inN _).setCell (p := ⟨r.wb, j, none⟩) r.inW _).drew
            case measure => simp [RowKit.intOf]; omega
          · have HGb := Lib.hid (show P.goneAt l j = s from HGA.out)
            clear HGA
            go_wp2_with fail
            go_region
            go_wp2_with fail
            go_region
            go_wp2
            go_roundw
            case rel =>
              have h1 := HG.out.x.setS (i := j) HNr.out
              have h2 := h1.setN (i := j) (HNr.out.of (only_cell ((Only.refl r.R wr).setCell (p := ⟨r.sb, j, none⟩) r.inS _) (fun b hb => r.inN' hb)))
              have h3 := h2.setW (i := j) false
              refine ⟨j + 1, by omega, by go_num, by rw [HRS.out]; go_num, Lib.hid ⟨(h3.congr (fun i hi => ?_) (fun i hi => ?_) (fun i hi => ?_)).below (below_drewN (Below.refl _ _) 2), ?_⟩⟩
              · exact congrArg secL (g_at _ _ j i s HGb.out.symm)
              · exact congrArg secL (g_at _ _ j i s HGb.out.symm)
              · exact g_at (fun _ => false) (waitB P) j i false rfl
              · exact ((((HG.out.o.setCell (p := ⟨r.sb, j, none⟩) r.inS _).setCell (p := ⟨r.nb, j, none⟩) r.inN _).setCell (p := ⟨r.wb, j, none⟩) r.inW _).drew).drew
            case measure => simp [RowKit.intOf]; omega
        · have hgt : l.getD k false = false := by
            rw [List.getD_eq_getElem?_getD, List.getElem?_eq_none (by have := HM.out; omega)]; rfl
          rw [hgt] at HGA
          have HGb := Lib.hid (show P.goneAt l j = P.stays j from HGA.out)
          clear HGA hgt
          go_wp2_with fail
          go_region
          go_wp2
          go_roundw
          case rel =>
            have h2 := HG.out.x.setN (i := j) HS.out
            have h3 := h2.setW (i := j) false
            refine ⟨j + 1, by omega, by go_num, by rw [HRS.out]; go_num, Lib.hid ⟨(h3.congr (fun i hi => ?_) (fun i hi => ?_) (fun i hi => ?_)).below (below_drewN (Below.refl _ _) 1), ?_⟩⟩
            · exact congrArg secL (g_same _ _ j i HGb.out)
            · exact congrArg secL (g_at _ _ j i _ HGb.out.symm)
            · exact g_at (fun _ => false) (waitB P) j i false rfl
            · exact ((HG.out.o.setCell (p := ⟨r.nb, j, none⟩) r.inN _).setCell (p := ⟨r.wb, j, none⟩) r.inW _).drew
          case measure => simp [RowKit.intOf]; omega
    · obtain rfl : j = n := by omega
      have c3 := HG.out.x.c3
      have c4 := HG.out.x.c4
      have f3 := HG.out.x.fz 3
      have f4 := HG.out.x.fz 4
      go_wp2
      go_end0
      have h1 := HG.out.x.setP (i := 3) (v := .bool true) (dead' := true) (fails' := P.fails) (left' := P.left) (keep' := P.keep) (by simp) (by simp) (by simp) (by simp) (by omega)
      have h2 := h1.setP (i := 4) (v := .bool false) (dead' := true) (fails' := false) (left' := P.left) (keep' := P.keep) (by simp) (by simp) (by simp) (by simp) (by omega)
      refine ⟨⟨_, rfl⟩, ⟨h2.congr (fun i hi => ?_) (fun i hi => ?_) (fun i hi => ?_), H.out.ok.gone l⟩, (HG.out.o.setCell r.inP _).setCell r.inP _⟩
      · have := HN.out
        show secL (P.goneAt l i) = secL (gS P l j i)
        unfold gS
        rw [if_pos (by omega)]
      · have := HN.out
        show secL (P.goneAt l i) = secL (gN P l j i)
        unfold gN
        rw [if_pos (by omega)]
      · have := HN.out
        show false = gF P j i
        unfold gF
        rw [if_pos (by omega)]
end Go.Proofs.YtdhidcoglioalaaGreat.Walks
namespace Go.Proofs.YtdhidcoglioalaaGreat.Walks
open Go.RowKit Plain
set_option linter.unusedVariables false

set_option maxRecDepth 10000 in
theorem rf_fails (w : World) (r : RLoc) (P : Pl) (h : RefAt w r P) : Calls Tryz.prog 108 #[rv r] w fun e w' => e = .returned (.bool P.goes) ∧ RefAt w' r P.did ∧ Only r.R w w' := by
  have c4 := h.x.c4
  have c5 := h.x.c5
  obtain ⟨ka, kc, c6, hB, hdis⟩ := h.x.c6
  have f5 := h.x.fz 5
  have hok := h.ok
  have HG := Lib.hid (rf_gone w r P h ka P.keep kc hB (fun h0 ad e => r.notR (hdis h0 ad e)))
  have H := Lib.hid h
  clear h hB hdis
  cases hf : P.fails
  · have e1 : P.goes = false := by simp [Pl.goes, hf]
    have e2 : P.did = P := by simp [Pl.did, hf]
    rw [e1, e2]
    rw [hf] at c4
    clear hf e1 e2 c5 c6 hok
    go_enter Tryz.func108, Tryz.ntmps108
    go_wp2
    go_ret
    exact ⟨rfl, H.out, Only.refl _ _⟩
  · by_cases hl : 0 < P.left
    · have e1 : P.goes = false := by simp [Pl.goes, hf, hl]
      have e2 : P.did = { P with left := P.left - 1 } := by simp [Pl.did, hf, hl]
      rw [e1, e2]
      rw [hf] at c4
      have hL := hok.left
      have HOk := Lib.hid (show ({ P with left := P.left - 1 } : Pl).Ok from ⟨hok.pos, hok.most, hok.waits, by show _ ≤ P.left - 1 ∧ P.left - 1 ≤ _; omega⟩)
      obtain ⟨z, hz⟩ : ∃ z, z = P.left := ⟨_, rfl⟩
      rw [← hz] at c5 hl hL
      have hw := IntWalk.i64_in (n := z - 1) (by omega)
      have HZ := Lib.hid hz
      clear hf e1 e2 c6 hok hz
      go_enter Tryz.func108, Tryz.ntmps108
      go_wp2
      go_ret
      refine ⟨rfl, ⟨?_, HOk.out⟩, (Only.refl _ _).setCell r.inP _⟩
      exact H.out.x.setP (i := 5) (dead' := P.dead) (fails' := P.fails) (left' := P.left - 1) (keep' := P.keep) (by simp) (by simp) (by simp [HZ.out]) (by simp) (by omega)
    · have e1 : P.goes = true := by simp [Pl.goes, hf, hl]
      have e2 : P.did = P.gone P.keep := by simp [Pl.did, hf, hl]
      rw [e1, e2]
      rw [hf] at c4
      obtain ⟨z, hz⟩ : ∃ z, z = P.left := ⟨_, rfl⟩
      rw [← hz] at c5 hl
      clear hf e1 e2 hok hz
      go_enter Tryz.func108, Tryz.ntmps108
      go_wp2_with fail
      refine Calls.mono HG.out ?_
      rintro e w' ⟨⟨v, rfl⟩, hP, hO⟩
      have HP := Lib.hid hP
      have HO := Lib.hid hO
      clear hP hO
      go_wp2
      go_ret
      exact ⟨rfl, HP.out, HO.out⟩
set_option maxRecDepth 10000 in
theorem rf_crash (w : World) (r : RLoc) (P : Pl) (h : RefAt w r P) (a : Option Addr) (l : List Bool) (cap : Nat) (hB : Bools w a l) (hdis : l ≠ [] → ∀ ad, a = some ad → ad.block ∉ r.R) :
    Calls Tryz.prog 74 #[rv r, .slice a l.length cap] w fun e w' => e = .returned (.int .i64 P.may) ∧ RefAt w' r (P.crash l) ∧ Only r.R w w' := by
  have c3 := h.x.c3
  have HG := Lib.hid (rf_gone w r P h a l cap hB hdis)
  have H := Lib.hid h
  clear h hB hdis
  obtain ⟨n, hn⟩ : ∃ n, n = l.length := ⟨_, rfl⟩
  rw [← hn] at HG ⊢
  clear hn
  cases hd : P.dead
  · rw [may_live hd]
    rw [hd] at c3
    have e2 : P.crash l = P.gone l := by simp [Pl.crash, hd]
    rw [e2]
    clear hd e2
    go_enter Tryz.func74, Tryz.ntmps74
    go_wp2_with fail
    refine Calls.mono HG.out ?_
    rintro e w' ⟨⟨v, rfl⟩, hP, hO⟩
    have HP := Lib.hid hP
    have HO := Lib.hid hO
    clear hP hO
    go_wp2
    go_ret
    exact ⟨rfl, HP.out, HO.out⟩
  · rw [may_dead hd]
    rw [hd] at c3
    have e2 : P.crash l = P := by simp [Pl.crash, hd]
    rw [e2]
    clear hd e2
    go_enter Tryz.func74, Tryz.ntmps74
    go_wp2
    go_ret
    exact ⟨rfl, H.out, Only.refl _ _⟩
/-- append(nil, l...), of bools. -/
theorem wp_append_nilbools {w : World} {ops : Array Oper} {rest : List Oper} {o : Oper} {a : Act} {Q : Exit → Act → World → Prop} (hgd : o.guard = none) (s x : Operand)
    (ho : o.op = .call { callee := .builtin .append, args := #[s, x], argTypes := #[41, 41] }) (hs : a.eval s = .slice none 0 0)
    (ao : Option Addr) (c : Nat) (l : List Bool) (n : Nat) (hln : l.length = n) (hx : a.eval x = .slice ao n c) (hB : Bools w ao l) (hn : ao = none → c = 0)
    (h : ∀ a' cap' w', Bools w' a' l ∧ (∀ ad, a' = some ad → w.heap.size ≤ ad.block) → Below w.heap.size w w' → wpList Tryz.prog ops Q rest (a.put o.dst (.slice a' n cap')) w') : wpList Tryz.prog ops Q (o :: rest) a w := by
  obtain ⟨i0, hi, hz0, hz1, hz2⟩ := info_parts info4
  subst hln
  have hm := hB.1
  have fin : ∀ v' w', w'.ownsRow w.heap.size 4 1 v' (0 + l.length) ([] ++ l.map Value.bool) → w.grownBy w' (Value.slice none 0 0).ownBlock → (v' = .slice none 0 0 ↔ Value.slice none 0 0 = .slice none 0 0 ∧ l.length = 0) → wpList Tryz.prog ops Q rest (a.put o.dst v') w' := by
    intro v' w' h1 h2 h3
    rw [List.nil_append, Nat.zero_add] at h1
    have hbe : Below w.heap.size w w' := ⟨h2.os, h2.tape, h2.output, h2.size, fun i hi => h2.block i hi (by simp [Value.ownBlock])⟩
    have h1' := h1
    obtain ⟨_, ⟨e, h0⟩ | ⟨g, cap', cur, e, _⟩⟩ := h1'
    · subst e
      have := h none 0 w' (OwnBo.bools (cap := 0) (by rw [OwnBo, h0]; rw [h0] at h1; exact h1) hm) hbe
      rw [h0] at this
      exact this
    · subst e
      exact h _ _ w' (OwnBo.bools h1 hm) hbe
  rcases Option.eq_none_or_eq_some ao with rfl | ⟨ad, rfl⟩
  · have hc0 := hn rfl
    subst hc0
    have hl : l = [] := by
      rcases hB.2 with h | ⟨b, off, h, _⟩
      · exact h
      · cases h
    subst hl
    refine wpList_append_own_none hgd s x 41 ho w.heap.size 4 i0 1 Tryz.underlying41 hi (.slice none 0 0) 0 [] hs (World.ownsRow_nil _ _ _ _) hx (fin _ w (by simpa using World.ownsRow_nil _ _ _ _) ⟨rfl, rfl, rfl, Nat.le_refl _, fun _ _ _ => rfl⟩ ⟨fun e => ⟨e, rfl⟩, fun e => e.1⟩)
  · exact wpList_append_own w hgd s x 41 ho w.heap.size 4 i0 (.bool false) 1 1 Tryz.underlying41 hi hz0 hz1 hz2 rfl (by decide) (.slice none 0 0) 0 [] hs (World.ownsRow_nil _ _ _ _) ad l.length c (l.map Value.bool) hx (by simp) (news_bools hB) (bools_one _)
      (by unfold maxLen; omega) (by omega) (Nat.le_refl _) fin
set_option maxRecDepth 10000 in
theorem rf_fail (w : World) (r : RLoc) (P : Pl) (h : RefAt w r P) (n : Int) (hn : -9223372036854775808 ≤ n ∧ n ≤ 9223372036854775807) (a : Option Addr) (l : List Bool) (cap : Nat) (hB : Bools w a l) (hcap : a = none → cap = 0) (hdis : l ≠ [] → ∀ ad, a = some ad → ad.block ∉ r.R) :
    Calls Tryz.prog 75 #[rv r, .int .i64 n, .slice a l.length cap] w fun e w' => e = .returned (.int .i64 P.may) ∧ RefAt w' r (P.fail n l) ∧ Only r.R w w' := by
  have c3 := h.x.c3
  have c4 := h.x.c4
  have c5 := h.x.c5
  obtain ⟨a0, cap0, c6, _, _⟩ := h.x.c6
  obtain ⟨n0, hn0⟩ : ∃ n0, n0 = P.keep.length := ⟨_, rfl⟩
  rw [← hn0] at c6
  have f4 := h.x.fz 4
  have f5 := h.x.fz 5
  have f6 := h.x.fz 6
  have hp := h.x.lt _ r.inP
  have H := Lib.hid h
  have HB := Lib.hid hB
  have HC := Lib.hid hcap
  have HN := Lib.hid hn
  have HD := Lib.hid hdis
  clear h hB hcap hn hdis hn0
  obtain ⟨m, hm⟩ : ∃ m, m = l.length := ⟨_, rfl⟩
  rw [← hm]
  have HM := Lib.hid hm.symm
  clear hm
  cases hd : P.dead
  · rw [may_live hd]
    rw [hd] at c3
    have e2 : P.fail n l = P.failed n l := by simp [Pl.fail, hd]
    rw [e2]
    clear hd e2
    go_enter Tryz.func75, Tryz.ntmps75
    obtain ⟨wx, hwx⟩ : ∃ x, x = (w.setCell ⟨r.p, 4, none⟩ (.bool (decide (0 ≤ n)))).setCell ⟨r.p, 5, none⟩ (.int .i64 n) := ⟨_, rfl⟩
    have hOx : Only [r.p] w wx := by rw [hwx]; exact ((Only.refl _ _).setCell (by simp) _).setCell (by simp) _
    have hBx : Bools wx a l := by
      refine ⟨HB.out.1, ?_⟩
      rcases HB.out.2 with h0 | ⟨b, off, rfl, hh⟩
      · exact .inl h0
      · by_cases h0 : l = []
        · exact .inl h0
        · exact .inr ⟨b, off, rfl, fun i hi => hOx.cell (by simp; exact fun e => HD.out h0 ⟨b, off, none⟩ rfl (by show b ∈ r.R; rw [e]; exact r.inP)) (hh i hi)⟩
    have h1 := H.out.x.setP (i := 4) (v := .bool (decide (0 ≤ n))) (dead' := P.dead) (fails' := decide (0 ≤ n)) (left' := P.left) (keep' := P.keep) (by simp) (by simp) (by simp) (by simp) (by omega)
    have h2 := h1.setP (i := 5) (v := .int .i64 n) (dead' := P.dead) (fails' := decide (0 ≤ n)) (left' := n) (keep' := P.keep) (by simp) (by simp) (by simp) (by simp) (by omega)
    rw [← hwx] at h2
    have HX := Lib.hid h2
    have HBX := Lib.hid hBx
    have HOX := Lib.hid (hOx.mono (R' := r.R) (fun x hx => by simp at hx; rw [hx]; exact r.inP))
    have hpx : r.p < wx.heap.size := Nat.lt_of_lt_of_le hp hOx.size
    have c6x := h2.c6
    obtain ⟨a1, cap1, c6x, _, _⟩ := c6x
    obtain ⟨n1, hn1⟩ : ∃ n1, n1 = P.keep.length := ⟨_, rfl⟩
    rw [← hn1] at c6x
    have f6x := h2.fz 6
    have HWX := Lib.hid hwx
    clear h1 h2 hOx hBx hn1 hwx
    go_wp2_with (first | (at_builtin; go_loud (rw [← HWX.out]; refine wp_append_nilbools rfl (.tmp 22) (.tmp 23) rfl rfl a cap l m HM.out rfl HBX.out HC.out ?_)))
    intro a' cap' w' k1 k2 hb
    have hO' : Only r.R w w' := HOX.out.trans (Only.of_below hb)
    have c6' := keepc hb c6x
    have f6' : w'.frozen? ⟨r.p, 6, none⟩ = false := (hb.frozen (p := ⟨r.p, 6, none⟩) hpx).trans f6x
    have K1 := Lib.hid k1
    have K2 := Lib.hid k2
    have HBe := Lib.hid hb
    clear k1 k2 hb hO' c6 c5 c4 c3
    go_wp2
    go_ret
    have h3 := (HX.out.below HBe.out).setP (i := 6) (v := .slice a' l.length cap') (dead' := P.dead) (fails' := decide (0 ≤ n)) (left' := n) (keep' := l) (by simp) (by simp) (by simp) (by
      rw [if_pos rfl]
      refine ⟨a', cap', rfl, Only.bools (R := [r.p]) ((Only.refl _ _).setCell (by simp) _) (fun _ ad e hm => ?_) K1.out, fun _ ad e hm => ?_⟩
      · have h1 := K2.out ad e
        simp at hm
        rw [hm] at h1
        omega
      · have h1 := K2.out ad e
        have h2 := HX.out.ltN _ hm
        omega) (by omega)
    rw [HM.out] at h3
    refine ⟨rfl, ⟨h3, H.out.ok.failed HN.out⟩, ((HOX.out.trans (Only.of_below HBe.out))).setCell r.inP _⟩
  · rw [may_dead hd]
    rw [hd] at c3
    have e2 : P.fail n l = P := by simp [Pl.fail, hd]
    rw [e2]
    clear hd e2
    go_enter Tryz.func75, Tryz.ntmps75
    go_wp2
    go_ret
    exact ⟨rfl, H.out, Only.refl _ _⟩
end Go.Proofs.YtdhidcoglioalaaGreat.Walks
namespace Go.Proofs.YtdhidcoglioalaaGreat.Walks
open Go.RowKit Plain
set_option linter.unusedVariables false

theorem bytes_secOf {l : List Byte} (h : l.length = 64) : bytesOf (secOf l) = l := by
  apply List.ext_getElem
  · rw [bytesOf_length, h]
  · intro i h1 h2
    simp [bytesOf, secOf, List.getD_eq_getElem?_getD, h2]
theorem rf_wrote {w : World} {r : RLoc} {Q : Pl} {k : Nat} {s : Sec} (h : RefX w r Q.n Q.stays (upd Q.seen k s) (upd (waitB Q) k true) Q.dead Q.fails Q.left Q.keep) (hok : Q.Ok) (hk : k < Q.n) :
    RefAt w r { Q with waits := upd Q.waits k (some s) } :=
  ⟨h.congr (fun _ _ => rfl) (fun i _ => by
    show secL ((upd Q.waits k (some s) i).getD (Q.stays i)) = _
    by_cases e : i = k
    · rw [e, upd_same, upd_same]; rfl
    · rw [upd_other _ _ e, upd_other _ _ e]; rfl) (fun i _ => by
    show (upd Q.waits k (some s) i).isSome = _
    by_cases e : i = k
    · rw [e, upd_same, upd_same]; rfl
    · rw [upd_other _ _ e, upd_other _ _ e]; rfl), hok.put hk s⟩
theorem rf_copyN {w : World} (a : Option Addr) (cap : Nat) (l : List Byte) (n : Nat) (hl : l.length = n) (hB : Bys w a l) (hn : a = none → cap = 0) :
    Calls Tryz.prog 64 #[.slice a n cap] w fun e w' => ∃ a' cap', e = .returned (.slice a' n cap') ∧ Bys w' a' l ∧ (∀ ad, a' = some ad → w.heap.size ≤ ad.block ∧ ∀ j, w'.frozen? ⟨ad.block, j, none⟩ = false) ∧ (a' = none → cap' = 0) ∧ Below w.heap.size w w' := by
  subst hl
  exact rf_copy w a cap l hB hn
theorem there_of {P : Pl} {i : Int} (h : P.dead = false) : thereB P i = decide (P.has i = 0) := by
  unfold thereB Pl.has
  rw [h]
  by_cases h1 : i < 0 ∨ (P.n : Int) ≤ i
  · rw [if_neg (by simp), if_pos h1]
    by_cases h2 : 0 ≤ i
    · rw [decide_eq_true h2, decide_eq_false (by omega)]; rfl
    · rw [decide_eq_false h2]; rfl
  · rw [if_neg (by simp), if_neg h1, decide_eq_true (by omega), decide_eq_true (by omega)]; rfl
theorem has_nine {P : Pl} {i : Int} (h : P.dead = false) (h0 : P.has i ≠ 0) : P.has i = 9 := by
  unfold Pl.has at h0 ⊢
  rw [h] at h0 ⊢
  by_cases h1 : i < 0 ∨ (P.n : Int) ≤ i
  · rw [if_neg (by simp), if_pos h1]
  · rw [if_neg (by simp), if_neg h1] at h0
    exact absurd rfl h0
theorem has_dead {P : Pl} {i : Int} (h : P.dead = true) : P.has i = 50 := by
  unfold Pl.has
  rw [if_pos h]
theorem RowV.bys {w : World} {R : List Nat} {g o c : Nat} {s : Sec} (h : w.rangeAt g o (secL s)) : Bys w (some ⟨g, o, none⟩) (bytesOf s) :=
  ⟨by rw [bytesOf_length]; omega, .inr ⟨g, o, rfl, fun i hi => by
    rw [bytesOf_length] at hi
    rw [h i _ (secL_get s hi)]
    simp [bytesOf]⟩⟩
theorem rangeAt_bys {w : World} {b o : Nat} {s : Sec} (h : Bys w (some ⟨b, o, none⟩) (bytesOf s)) : w.rangeAt b o (secL s) := by
  obtain ⟨b', o', e, _, hc⟩ := h.at_lt (i := 0) (by rw [bytesOf_length]; omega)
  cases e
  intro j v hv
  have hj : j < 64 := by
    have := (List.getElem?_eq_some_iff.1 hv).1
    rwa [secL_length] at this
  rw [secL_get _ hj] at hv
  rw [← hv, hc j (by rw [bytesOf_length]; exact hj)]
  simp [bytesOf]
set_option maxRecDepth 10000 in
theorem rf_read (w : World) (r : RLoc) (P : Pl) (h : RefAt w r P) (k : Nat) (hk : k < P.n) (hd : P.dead = false) : Calls Tryz.prog 92 #[rv r, .int .i64 k] w fun e w' => ∃ a c, e = .returned (.tuple #[.slice a 64 c, .int .i64 0]) ∧ Bys w' a (bytesOf (P.seen k)) ∧ Below w.heap.size w w' := by
  have c3 := h.x.c3
  obtain ⟨x1, c1⟩ := h.x.c1
  have ht := rf_there w r P h k
  have e0 : thereB P k = true := by unfold thereB; simp; omega
  rw [e0] at ht
  rw [hd] at c3
  obtain ⟨nf, nv, nc, g, o, c, rfl, hr, hg⟩ := h.x.sn k hk
  have hcp := rf_copy w (some ⟨g, o, none⟩) c (bytesOf (P.seen k)) (RowV.bys (R := r.R) (c := c) hr) (fun e => by cases e)
  rw [bytesOf_length] at hcp
  have HT := Lib.hid ht
  have HC := Lib.hid hcp
  obtain ⟨n, hn⟩ : ∃ n, n = P.n := ⟨_, rfl⟩
  rw [← hn] at c1
  have hkn : k < n := by omega
  clear h hk hd ht e0 hr hg hcp hn nf
  go_enter Tryz.func92, Tryz.ntmps92
  go_wp2_with fail
  refine Calls.mono HT.out ?_
  rintro e w' ⟨rfl, rfl⟩
  go_wp2_with fail
  refine Calls.mono HC.out ?_
  rintro e w' ⟨a', c', rfl, hB, _, _, hb⟩
  have HB := Lib.hid hB
  have HBe := Lib.hid hb
  clear hB hb
  go_wp2
  refine bodyPost_ret (results_tmp2 rfl _ _ _) rfl ?_
  exact ⟨a', c', rfl, HB.out, HBe.out⟩
set_option maxRecDepth 10000 in
theorem rf_readNo (w : World) (r : RLoc) (P : Pl) (h : RefAt w r P) (i : Int) (h0 : P.has i ≠ 0) : Calls Tryz.prog 92 #[rv r, .int .i64 i] w fun e w' => e = .returned (.tuple #[.slice none 0 0, .int .i64 (P.has i)]) ∧ w = w' := by
  have c3 := h.x.c3
  cases hd : P.dead
  · have ht := rf_there w r P h i
    rw [there_of hd, decide_eq_false h0] at ht
    rw [has_nine hd h0]
    rw [hd] at c3
    have HT := Lib.hid ht
    clear h h0 hd ht
    go_enter Tryz.func92, Tryz.ntmps92
    go_wp2_with fail
    refine Calls.mono HT.out ?_
    rintro e w' ⟨rfl, rfl⟩
    go_wp2
    refine bodyPost_ret (results_tmp2 rfl _ _ _) rfl ?_
    exact ⟨rfl, rfl⟩
  · rw [has_dead hd]
    rw [hd] at c3
    clear h h0 hd
    go_enter Tryz.func92, Tryz.ntmps92
    go_wp2
    refine bodyPost_ret (results_tmp2 rfl _ _ _) rfl ?_
    exact ⟨rfl, rfl⟩
set_option maxRecDepth 10000 in
set_option maxHeartbeats 1000000 in
theorem rf_write (w : World) (r : RLoc) (P : Pl) (h : RefAt w r P) (i : Int) (a : Option Addr) (l : List Byte) (cap : Nat) (hB : Bys w a l) (hcap : a = none → cap = 0) (hdis : l ≠ [] → ∀ ad, a = some ad → ad.block ∉ r.R) :
    Calls Tryz.prog 78 #[rv r, .int .i64 i, .slice a l.length cap] w fun e w' => e = .returned (.int .i64 (P.writeE i l)) ∧ RefAt w' r (P.write i l) ∧ Only r.R w w' := by
  have c3 := h.x.c3
  cases hd : P.dead
  · rw [hd] at c3
    have ht := rf_there w r P h i
    rw [there_of hd] at ht
    by_cases h0 : P.has i = 0
    · rw [decide_eq_true h0] at ht
      obtain ⟨_, h1, h2⟩ := Pl.has_zero h0
      obtain ⟨k, rfl⟩ : ∃ k : Nat, i = k := ⟨i.toNat, by omega⟩
      have hk : k < P.n := by omega
      by_cases hl : l.length = 64
      · have hf := rf_fails w r P h
        cases hg : P.goes
        · have e1 : P.writeE k l = 0 := by simp [Pl.writeE, h0, hl, hg]
          have e2 : P.write k l = { P.did with waits := upd P.did.waits k (some (secOf l)) } := by simp [Pl.write, h0, hl, hg]
          rw [e1, e2]
          rw [hg] at hf
          obtain ⟨e4, e5⟩ := did_waits P hg
          have HT := Lib.hid ht
          have HF := Lib.hid hf
          have HB := Lib.hid hB
          have HC := Lib.hid hcap
          have HD := Lib.hid hdis
          have HL := Lib.hid hl
          have hk4 : k < 4096 := by have := h.x.n2; omega
          obtain ⟨Q, hQ⟩ : ∃ Q, Q = P.did := ⟨_, rfl⟩
          rw [← hQ] at HF e5 ⊢
          have hkq : k < Q.n := by omega
          have HKQ := Lib.hid hkq
          obtain ⟨n, hn⟩ : ∃ n, n = Q.n := ⟨_, rfl⟩
          have hkn : k < n := by omega
          have HN := Lib.hid hn
          rw [hl]
          clear h hB hcap hdis ht hf hd h0 h1 h2 hk hl hg e1 e2 e4 e5 hQ hkq hn
          go_enter Tryz.func78, Tryz.ntmps78
          go_wp2_with fail
          refine Calls.mono HT.out ?_
          rintro e w' ⟨rfl, rfl⟩
          go_wp2_with fail
          refine Calls.mono HF.out ?_
          rintro e w1 ⟨rfl, hP, hO⟩
          have hB1 : Bys w1 a l := by
            by_cases h0 : l = []
            · subst h0; exact ⟨by simp, .inl rfl⟩
            · exact HB.out.only hO (HD.out h0)
          obtain ⟨x1, c1⟩ := hP.x.c1
          rw [← HN.out] at c1
          have hpx := hP.x.lt _ r.inP
          obtain ⟨nf, nv, nc, g0, o0, c0, rfl, _, _⟩ := hP.x.sn k (by have := HN.out; omega)
          have hnb := hP.x.lt _ r.inN
          have HP := Lib.hid hP
          have HO := Lib.hid hO
          have HB1 := Lib.hid hB1
          clear hP hO hB1
          have hb0 : Below w1.heap.size w1 w1 := Below.refl _ _
          go_wp2_with fail
          go_region_with
            ((go_at_call 64; go_loud ((with_reducible refine Calls.mono (rf_copyN a cap l 64 HL.out ?_ HC.out) ?_); (refine HB1.out.below ?_; (first | with_reducible exact hb0 | with_reducible exact Below.drew hb0 | with_reducible exact Below.step hb0 (Below.new _ _) | with_reducible exact Below.step (Below.drew hb0) (Below.new _ _) | with_reducible exact Below.drew (Below.step hb0 (Below.new _ _)))); rintro e w2 ⟨a', c', rfl, hB', hfr, _, hb⟩; have hbb : Below w1.heap.size w1 w2 := Below.step (by (first | with_reducible exact hb0 | with_reducible exact Below.drew hb0 | with_reducible exact Below.step hb0 (Below.new _ _) | with_reducible exact Below.step (Below.drew hb0) (Below.new _ _) | with_reducible exact Below.drew (Below.step hb0 (Below.new _ _)))) hb; have c1 := keepc hbb c1; have nc := keepc hbb nc; have nf : w2.frozen? ⟨r.nb, k, none⟩ = false := (hbb.frozen (p := ⟨r.nb, k, none⟩) hnb).trans nf; have HB2 := Lib.hid hB'; have HFr := Lib.hid hfr; have HBB := Lib.hid hbb; clear hB' hfr hb hbb)))
          all_goals
            obtain ⟨g, o, rfl, _, _⟩ := HB2.out.at_lt (i := 0) (by have := HL.out; omega)
            have hrow : RowV w2 r.N (.slice (some ⟨g, o, none⟩) 64 c') (secOf l) := ⟨g, o, c', rfl, rangeAt_bys (by rw [bytes_secOf HL.out]; exact HB2.out), fun hm => by have h1 := (HFr.out ⟨g, o, none⟩ rfl).1; have h2 := HP.out.x.ltN _ hm; simp at h1; omega⟩
            have h1 := (HP.out.x.below HBB.out).setN (i := k) hrow
            have h2 := h1.setW (i := k) true
            obtain ⟨x2, c2⟩ := h1.c2
            obtain ⟨ff, fc⟩ := h1.fl k HKQ.out
            rw [← HN.out] at c2
            have H2 := Lib.hid h2
            have HO2 := Lib.hid (((HO.out.trans (Only.of_below HBB.out)).setCell (p := ⟨r.nb, k, none⟩) r.inN (.slice (some ⟨g, o, none⟩) 64 c')).setCell (p := ⟨r.wb, k, none⟩) r.inW (.bool true))
            clear h1 h2 hrow
            go_wp2
            go_ret
            first
              | exact ⟨rfl, rf_wrote H2.out HP.out.ok HKQ.out, HO2.out⟩
              | exact ⟨rfl, rf_wrote (H2.out.below (below_drewN (Below.refl _ _) 1)) HP.out.ok HKQ.out, HO2.out.drew⟩
        · have e1 : P.writeE k l = 50 := by simp [Pl.writeE, h0, hl, hg]
          have e2 : P.write k l = P.did := by simp [Pl.write, h0, hl, hg]
          rw [e1, e2]
          rw [hg] at hf
          have HT := Lib.hid ht
          have HF := Lib.hid hf
          rw [hl]
          clear h hB hcap hdis ht hf hd h0 h1 h2 hk hl hg e1 e2
          go_enter Tryz.func78, Tryz.ntmps78
          go_wp2_with fail
          refine Calls.mono HT.out ?_
          rintro e w' ⟨rfl, rfl⟩
          go_wp2_with fail
          refine Calls.mono HF.out ?_
          rintro e w1 ⟨rfl, hP, hO⟩
          have HP := Lib.hid hP
          have HO := Lib.hid hO
          clear hP hO
          go_wp2
          go_ret
          exact ⟨rfl, HP.out, HO.out⟩
      · have e1 : P.writeE k l = 2 := by simp [Pl.writeE, h0, hl]
        have e2 : P.write k l = P := by simp [Pl.write, h0, hl]
        have hq : ((l.length : Int) != 64) = true := by simp; omega
        rw [e1, e2]
        obtain ⟨n, hn⟩ : ∃ n, n = l.length := ⟨_, rfl⟩
        rw [← hn] at hq ⊢
        have HT := Lib.hid ht
        have H := Lib.hid h
        clear h hB hcap hdis ht hd h0 h1 h2 hk hl e1 e2 hn
        go_enter Tryz.func78, Tryz.ntmps78
        go_wp2_with fail
        refine Calls.mono HT.out ?_
        rintro e w' ⟨rfl, rfl⟩
        go_wp2
        go_ret
        exact ⟨rfl, H.out, Only.refl _ _⟩
    · have e1 : P.writeE i l = 9 := by simp [Pl.writeE, h0]; exact has_nine hd h0
      have e2 : P.write i l = P := by simp [Pl.write, h0]
      rw [decide_eq_false h0] at ht
      rw [e1, e2]
      obtain ⟨n, hn⟩ : ∃ n, n = l.length := ⟨_, rfl⟩
      rw [← hn]
      have HT := Lib.hid ht
      have H := Lib.hid h
      clear h hB hcap hdis ht hd h0 e1 e2 hn
      go_enter Tryz.func78, Tryz.ntmps78
      go_wp2_with fail
      refine Calls.mono HT.out ?_
      rintro e w' ⟨rfl, rfl⟩
      go_wp2
      go_ret
      exact ⟨rfl, H.out, Only.refl _ _⟩
  · have h50 := has_dead (i := i) hd
    have e1 : P.writeE i l = 50 := by simp [Pl.writeE, h50]
    have e2 : P.write i l = P := by simp [Pl.write, h50]
    rw [e1, e2]
    rw [hd] at c3
    obtain ⟨n, hn⟩ : ∃ n, n = l.length := ⟨_, rfl⟩
    rw [← hn]
    have H := Lib.hid h
    clear h hB hcap hdis hd h50 e1 e2 hn
    go_enter Tryz.func78, Tryz.ntmps78
    go_wp2
    go_ret
    exact ⟨rfl, H.out, Only.refl _ _⟩
end Go.Proofs.YtdhidcoglioalaaGreat.Walks
