/-
  The document's journal: the log is read.
-/
import Derived.Test.YtdhidcoglioalaaGreatM39
namespace Go.Proofs.YtdhidcoglioalaaGreat.Walks
open Go.RowKit Plain Jn
set_option linter.unusedVariables false
abbrev Rp := Option (Nat × Nat × Nat × Pend)
def jnOf (L hd : Nat) (x : Nat × Nat × Nat × Pend) : Jn := ⟨L, hd, x.1, x.2.2.1, x.2.1, x.2.2.2, false⟩
/-- What a reading of the log answers. -/
structure ReplR (w w' : World) (m : Nat) (r : RLoc) (L hd : Nat) (P : Pl) (e : Ending) (R : Rp) : Prop where
  ok : ∀ x, R = some x → e = .returned (.int .i64 0) ∧ RJ w' m r (jnOf L hd x) P
  no : R = none → e = .returned (.int .i64 70) ∧ RefAt w' r P
  only : Only [m] w w'
/-- The loop's state: wb is the world in which the entries of this record begin. -/
structure ReplS (w wb wr : World) (m : Nat) (r : RLoc) (L hd T0 : Nat) (P : Pl) (R : Rp) (i a t u : Nat) (p : Pend) (l : PL) (sa : Option Addr) (ln sc : Nat) : Prop where
  rep : replay P.seen L (P.n - 2 - L) (L - i) a t u l p = R
  jb : RJ wb m r ⟨L, hd, a, u, t, p, false⟩ P
  be : Below wb.heap.size wb wr
  own : OwnQ 150 wr wb.heap.size r.N (.slice sa ln sc) (putsP l)
  len : ln = l.length
  cnt : u + l.length ≤ i
  ent : ∀ x ∈ l, x.1 < 65536 ∧ Flat x.2
  tn : t ≤ T0 + i
  onb : Only [m] w wb
/-- One sector of the log. -/
def stepR (b : Sec) (S : Nat → Sec) (B L f a t u : Nat) (l : PL) (p : Pend) : Rp :=
  if isBlank b then some (a, t, u, p)
  else if !parseOk b || ((parseS b).kind != 2 && (parseS b).kind != 3) then none
  else if (parseS b).turn != t then some (a, t, u, p)
  else if (parseS b).kind == 2 then replay S L B f a t u (l ++ [(getN (cutS b 6 2), (parseS b).data)]) p
  else if (getN (cutS b 6 2) != l.length) || l.length == 0 || !(cutS b 8 48).all (· == 0) || l.any (fun x => decide (B ≤ x.1)) then none
  else replay S L B f ((a + l.length + 1) % L) (t + 1) (u + l.length + 1) [] (putAll p l)
section
variable {b : Sec} {S : Nat → Sec} {B L f a t u : Nat} {l : PL} {p : Pend}
theorem stepR_blank (h : isBlank b = true) : stepR b S B L f a t u l p = some (a, t, u, p) := by unfold stepR; rw [if_pos h]
theorem stepR_bad (h : isBlank b = false) (h1 : parseOk b = false) : stepR b S B L f a t u l p = none := by unfold stepR; rw [if_neg (by simp [h]), if_pos (by simp [h1])]
theorem stepR_kind (h : isBlank b = false) (h1 : ¬ ((b 0).toNat : Int) = 2) (h2 : ¬ ((b 0).toNat : Int) = 3) : stepR b S B L f a t u l p = none := by
  unfold stepR
  rw [if_neg (by simp [h]), if_pos (by rw [Bool.or_eq_true, Bool.and_eq_true]; exact .inr ⟨bne_iff_ne.2 h1, bne_iff_ne.2 h2⟩)]
theorem kinds_ok (h0 : parseOk b = true) (hk : ((b 0).toNat : Int) = 2 ∨ ((b 0).toNat : Int) = 3) : ¬ (!parseOk b || ((parseS b).kind != 2 && (parseS b).kind != 3)) = true := by
  rw [h0]
  intro hh
  rw [Bool.or_eq_true, Bool.and_eq_true] at hh
  rcases hh with hh | ⟨h1, h2⟩
  · cases hh
  · rcases hk with hk | hk
    · exact (bne_iff_ne.1 h1) hk
    · exact (bne_iff_ne.1 h2) hk
theorem stepR_turn (h : isBlank b = false) (h0 : parseOk b = true) (hk : ((b 0).toNat : Int) = 2 ∨ ((b 0).toNat : Int) = 3) (ht : ¬ (getN (cutS b 1 5) : Int) = (t : Int)) : stepR b S B L f a t u l p = some (a, t, u, p) := by
  unfold stepR
  rw [if_neg (by simp [h]), if_neg (kinds_ok h0 hk), if_pos (show ((parseS b).turn != (t : Int)) = true from bne_iff_ne.2 ht)]
theorem stepR_entry (h : isBlank b = false) (h0 : parseOk b = true) (hk : ((b 0).toNat : Int) = 2) (ht : (getN (cutS b 1 5) : Int) = (t : Int)) : stepR b S B L f a t u l p = replay S L B f a t u (l ++ [(getN (cutS b 6 2), blkOf (cutS b 8 48))]) p := by
  unfold stepR
  rw [if_neg (by simp [h]), if_neg (kinds_ok h0 (.inl hk)), if_neg (show ¬ ((parseS b).turn != (t : Int)) = true from fun hh => bne_iff_ne.1 hh ht), if_pos (show ((parseS b).kind == 2) = true from beq_iff_eq.2 hk)]
  rfl
theorem stepR_end (h : isBlank b = false) (h0 : parseOk b = true) (hk : ((b 0).toNat : Int) = 3) (ht : (getN (cutS b 1 5) : Int) = (t : Int)) :
    stepR b S B L f a t u l p = if (getN (cutS b 6 2) != l.length) || l.length == 0 || !(cutS b 8 48).all (· == 0) || l.any (fun x => decide (B ≤ x.1)) then none else replay S L B f ((a + l.length + 1) % L) (t + 1) (u + l.length + 1) [] (putAll p l) := by
  unfold stepR
  rw [if_neg (by simp [h]), if_neg (kinds_ok h0 (.inr hk)), if_neg (show ¬ ((parseS b).turn != (t : Int)) = true from fun hh => bne_iff_ne.1 hh ht), if_neg (show ¬ ((parseS b).kind == 2) = true from fun hh => by
    have h1 : (parseS b).kind = 2 := beq_iff_eq.1 hh
    have h2 : (parseS b).kind = 3 := hk
    omega)]
end
section
variable {w w' wb wr : World} {m : Nat} {r : RLoc} {J J' : Jn} {P P' : Pl} {L hd T0 : Nat} {R : Rp} {i a t u : Nat} {p : Pend} {l : PL} {sa : Option Addr} {ln sc : Nat}
theorem ReplS.jn (h : ReplS w wb wr m r L hd T0 P R i a t u p l sa ln sc) : RJ wr m r ⟨L, hd, a, u, t, p, false⟩ P := h.jb.below h.be
theorem ReplS.only (h : ReplS w wb wr m r L hd T0 P R i a t u p l sa ln sc) : Only [m] w wr := h.onb.trans (Only.of_below h.be)
theorem ReplS.step (h : ReplS w wb wr m r L hd T0 P R i a t u p l sa ln sc) (hb : Below wr.heap.size wr w') : ReplS w wb w' m r L hd T0 P R i a t u p l sa ln sc :=
  ⟨h.rep, h.jb, Below.step h.be hb, h.own.below hb, h.len, h.cnt, h.ent, h.tn, h.onb⟩
theorem ReplS.fin (h : ReplS w wb wr m r L hd T0 P R i a t u p l sa ln sc) (hR : R = some (a, t, u, p)) : ReplR w wr m r L hd P (.returned (.int .i64 0)) R :=
  ⟨fun x hx => by rw [hR] at hx; cases hx; exact ⟨rfl, h.jn⟩, (fun hn => by rw [hR] at hn; cases hn), h.only⟩
theorem ReplS.bad (h : ReplS w wb wr m r L hd T0 P R i a t u p l sa ln sc) (hR : R = none) : ReplR w wr m r L hd P (.returned (.int .i64 70)) R :=
  ⟨(fun x hx => by rw [hR] at hx; cases hx), fun _ => ⟨rfl, h.jn.rf⟩, h.only⟩
theorem ReplS.row (h : ReplS w wb wr m r L hd T0 P R i a t u p l sa ln sc) {g : Nat} (hg : (Value.slice sa ln sc).ownBlock = some g) : g ≠ m := by
  have h1 := (h.own.blk hg).1
  have h2 := h.jb.lt
  omega
set_option maxRecDepth 10000 in
set_option maxHeartbeats 8000000 in
theorem rj_replay (h : RJ w m r J P) (hb : J.broken = false) (hp : J.pend = fun _ => none) (hu : J.used = 0) (hdl : P.dead = false) (ht : J.turn ≤ 1099511627776) (hL : J.log = L) (hhd : J.head = hd) (hR : replay P.seen J.log (P.n - 2 - J.log) J.log J.at_ J.turn 0 [] (fun _ => none) = R) :
    Calls Tryz.prog 128 #[mv m] w fun e w' => ReplR w w' m r L hd P e R := by
  have hlog := h.ok.logn
  have hlog2 := h.ok.log2
  have hn4 := h.rf.ok.most
  rw [hL] at hlog hlog2 hR
  obtain ⟨T0, hT0⟩ : ∃ T, T = J.turn := ⟨_, rfl⟩
  have hJ : J = ⟨L, hd, J.at_, 0, T0, fun _ => none, false⟩ := by
    obtain ⟨x1, x2, x3, x4, x5, x6, x7⟩ := J
    simp only at hL hhd hu hp hb hT0
    subst hL hhd hu hp hb hT0
    rfl
  have HS0 : Hid (ReplS w w w m r L hd T0 P R 0 J.at_ T0 0 (fun _ => none) [] none 0 0) := Lib.hid ⟨by rw [hT0]; exact hR, by rw [← hJ]; exact h, Below.refl _ _, OwnQ.nil _ _ _ _, rfl, Nat.le_refl _, (fun x hx => by cases hx), Nat.le_refl _, Only.refl _ _⟩
  rw [← hT0] at ht
  have HDl := Lib.hid hdl
  have hmw := h.lt
  obtain ⟨B, hB⟩ : ∃ B, B = P.n - 2 - L := ⟨_, rfl⟩
  have hB4 : B ≤ 4096 := by omega
  have HB := Lib.hid hB
  have HLn := Lib.hid hlog
  have hL4 : L ≤ 4096 := by omega
  obtain ⟨a0, ha0⟩ : ∃ a, a = J.at_ := ⟨_, rfl⟩
  rw [← ha0] at HS0
  clear h hb hp hu hdl hL hhd hR hT0 hJ hB hlog hn4 ha0
  go_enter Tryz.func128, Tryz.ntmps128
  go_wp2_with fail
  go_loopw [3, 4] (fun v3 v4 wr => ∃ i a t u p l sa ln sc wb, i ≤ L ∧ v4 = .int .i64 (i : Int) ∧ v3 = .slice sa ln sc ∧ Hid (ReplS w wb wr m r L hd T0 P R i a t u p l sa ln sc)) (fun _ i _ => L - (RowKit.intOf i).toNat)
  case atStart => exact ⟨0, a0, T0, 0, _, [], none, 0, 0, w, by omega, rfl, rfl, HS0⟩
  case round =>
    obtain ⟨i, a, t, u, p, l, sa, ln, sc, wb, hi, rfl, rfl, HS⟩ := hrel
    have m0 := HS.out.jn.c0
    have m1 := HS.out.jn.c1
    have m3 := HS.out.jn.c3
    have m5 := HS.out.jn.c5
    simp only at m1 m3 m5
    by_cases hlt : i < L
    · have haL : a < L := HS.out.jn.ok.at_
      have hln4 : ln ≤ 4096 := by have := HS.out.len; have := HS.out.cnt; omega
      obtain ⟨s, hs⟩ : ∃ s : Nat, s = a + ln := ⟨_, rfl⟩
      obtain ⟨q, hq⟩ : ∃ q : Nat, q = s % L := ⟨_, rfl⟩
      obtain ⟨pl, hpl⟩ : ∃ pl : Nat, pl = 2 + q := ⟨_, rfl⟩
      have hqL : q < L := by rw [hq]; exact Nat.mod_lt _ (by omega)
      have hidx : 2 + (a + l.length) % L = pl := by rw [hpl, hq, hs, HS.out.len]
      have w1 := IntWalk.i64_in (n := (a : Int) + (ln : Int)) (by omega)
      have w2 : (a : Int) + (ln : Int) = (s : Int) := by omega
      have w3 := IntWalk.i64_in (n := (s : Int)) (by omega)
      have w4 : (s : Int).tmod (L : Int) = (q : Int) := by rw [Int.tmod_eq_emod_of_nonneg (by omega), hq, Int.natCast_emod]
      have w5 : (s : Int) % (L : Int) = (q : Int) := by rw [hq, Int.natCast_emod]
      have w6 := IntWalk.i64_in (n := (q : Int)) (by omega)
      have w7 : IntKind.i64.wrap ((2 : Int) + (q : Int)) = (pl : Int) := by rw [IntWalk.i64_in (n := (2 : Int) + (q : Int)) (by omega)]; omega
      have w8 : (2 : Int) + (q : Int) = (pl : Int) := by omega
      have w9 := IntWalk.i64_in (n := (pl : Int)) (by omega)
      have hLne : ¬ (L : Int) = 0 := by omega
      obtain ⟨b, hbb⟩ : ∃ b, b = P.seen pl := ⟨_, rfl⟩
      have hlf : L - i = (L - (i + 1)) + 1 := by omega
      have HRep : Hid (stepR b P.seen B L (L - (i + 1)) a t u l p = R) := Lib.hid (by
        have h1 := HS.out.rep
        rw [hlf, ← HB.out] at h1
        unfold replay at h1
        rw [hidx, ← hbb] at h1
        exact h1)
      have HRd : Hid (∀ w', Below wr.heap.size wr w' → Calls Tryz.prog 92 #[rv r, .int .i64 (pl : Int)] w' fun e w'' => ∃ g c, e = .returned (.tuple #[.slice (some ⟨g, 0, none⟩) 64 c, .int .i64 0]) ∧ 64 ≤ c ∧ c ≤ maxLen ∧ w'.heap.size ≤ g ∧ Bys w'' (some ⟨g, 0, none⟩) (bytesOf b) ∧ (∀ j, w''.frozen? ⟨g, j, none⟩ = false) ∧ Below w'.heap.size w' w'') := Lib.hid fun w' hb => by
        rw [hbb]
        exact ry_read w' r P (HS.out.jn.below hb).rf pl (by have := HLn.out; omega) HDl.out
      have hS : Below wr.heap.size wr wr := Below.refl _ _
      clear hs hq hpl hqL hidx hbb hlf
      go_upto_region 5 with (fail)
      go_cut [5] from 6 to 116 (fun v5 wx => ∃ g c, v5 = .slice (some ⟨g, 0, none⟩) 64 c ∧ Hid (64 ≤ c ∧ c ≤ maxLen) ∧ Hid (Bys wx (some ⟨g, 0, none⟩) (bytesOf b)) ∧ Hid (ReplS w wb wx m r L hd T0 P R i a t u p l sa ln sc))
      case first =>
        go_region_with ((go_at_call 92; ((with_reducible refine Calls.mono (HRd.out _ ?_) ?_); (first | with_reducible exact hS | with_reducible exact Below.drew hS | with_reducible exact Below.step hS (Below.new _ _) | with_reducible exact Below.step (Below.drew hS) (Below.new _ _) | with_reducible exact Below.drew (Below.step hS (Below.new _ _))); rintro e w' ⟨g, c, rfl, k1, k2, _, hB, _, hb⟩; have HBy := Lib.hid hB; have HB2 := Lib.hid hb; clear hB hb)))
        all_goals
          go_wp2
          go_meet
          exact ⟨g, c, rfl, Lib.hid ⟨k1, k2⟩, HBy, Lib.hid (HS.out.step ((Below.drew (Below.refl _ _)).trans HB2.out))⟩
      case rest =>
        obtain ⟨g, c, rfl, HC, HBy, HS1⟩ := hcut
        have HBl := Lib.hid (rj_blank wc (some ⟨g, 0, none⟩) (bytesOf b) 64 c (bytesOf_length _) HBy.out)
        have HU := Lib.hid (rj_unpack wc g c b HBy.out HC.out.1 HC.out.2)
        obtain ⟨zb, hzb⟩ : ∃ zb, zb = isBlank b := ⟨_, rfl⟩
        have hz2 : zeroL (bytesOf b) = zb := hzb.symm
        rw [hz2] at HBl
        have HZ := Lib.hid hzb
        clear hzb hz2 w1 w2 w3 w4 w5 w6 w7 w8 w9 hS m0 m1 m3 m5 HS
        go_wp2_with fail
        refine Calls.mono HBl.out ?_
        rintro e w' ⟨rfl, rfl⟩
        cases zb
        · go_wp2_with fail
          refine Calls.mono HU.out ?_
          rintro e w5 ⟨da, dc, rfl, ho, hb5⟩
          have HS2 := Lib.hid (HS1.out.step hb5)
          obtain ⟨vk, hvk⟩ : ∃ v : Int, v = ((b 0).toNat : Int) := ⟨_, rfl⟩
          obtain ⟨vt, hvt⟩ : ∃ v : Nat, v = getN (cutS b 1 5) := ⟨_, rfl⟩
          obtain ⟨vn, hvn⟩ : ∃ v : Nat, v = getN (cutS b 6 2) := ⟨_, rfl⟩
          obtain ⟨pk, hpk⟩ : ∃ v, v = parseOk b := ⟨_, rfl⟩
          have hvn4 : vn < 65536 := by rw [hvn]; exact getN2_lt b
          unfold sctD
          rw [← hvk, ← hvt, ← hvn, ← hpk]
          have HVK := Lib.hid hvk
          have HVT := Lib.hid hvt
          have HVN := Lib.hid hvn
          have HPK := Lib.hid hpk
          have hda := ho.form (by rw [cutS_length]; omega)
          obtain ⟨gd, dc', e, hd48, hdm, hgd, hgd2, hBd, _⟩ := OwnV.at_ (v := .slice da 48 dc) (l := cutS b 8 48) ho (by rw [cutS_length]; omega) (by rw [cutS_length]; omega)
          rw [cutS_length] at e hd48
          simp only [Value.slice.injEq] at e
          obtain ⟨rfl, _, rfl⟩ := e
          clear hvk hvt hvn hpk HU HBl hda hgd hgd2 hBd
          go_upto_region 9 with (fail)
          obtain ⟨w6, hw6⟩ : ∃ x, x = w5.alloc (.cells #[.int .i64 vk, .int .i64 (vt : Int), .int .i64 (vn : Int), .slice (some ⟨gd, 0, none⟩) 48 dc] 153) := ⟨_, rfl⟩
          obtain ⟨g7, hg7⟩ : ∃ x, x = w5.heap.size := ⟨_, rfl⟩
          rw [← hw6, ← hg7]
          have hb6 : Below w5.heap.size w5 w6 := by rw [hw6]; exact Below.new _ _
          have s0 : w6.cell? ⟨g7, 0, none⟩ = some (.int .i64 vk) := by rw [hw6, hg7, cell_new]; rfl
          have s1 : w6.cell? ⟨g7, 1, none⟩ = some (.int .i64 (vt : Int)) := by rw [hw6, hg7, cell_new]; rfl
          have s2 : w6.cell? ⟨g7, 2, none⟩ = some (.int .i64 (vn : Int)) := by rw [hw6, hg7, cell_new]; rfl
          have s3 : w6.cell? ⟨g7, 3, none⟩ = some (.slice (some ⟨gd, 0, none⟩) 48 dc) := by rw [hw6, hg7, cell_new]; rfl
          have hg76 : g7 < w6.heap.size := by rw [hw6, hg7]; simp
          have HS3 := Lib.hid (HS2.out.step hb6)
          have HO6 := Lib.hid (ho.keep hb6)
          have HDt : Hid (Dat w6 r.N (.slice (some ⟨gd, 0, none⟩) 48 dc) (cutS b 8 48)) := Lib.hid ((Dat.of ho fun x hx => HS1.out.jn.rf.x.ltN x hx).below hb6)
          have m5 := HS3.out.jn.c5
          simp only at m5
          clear hw6 hg7 hb6 ho hb5
          cases pk
          · go_wp2
            go_ret
            exact HS3.out.bad (by have h1 := HRep.out; rw [stepR_bad HZ.out.symm HPK.out.symm] at h1; exact h1.symm)
          · by_cases hk : vk = 2 ∨ vk = 3
            · have HKK := Lib.hid (show ((b 0).toNat : Int) = 2 ∨ ((b 0).toNat : Int) = 3 by rw [← HVK.out]; exact hk)
              go_cut [57] from 42 to 57 (fun v57 wx => v57 = .bool false ∧ wx = w6)
              case first =>
                rcases hk with rfl | rfl
                · go_wp2
                  go_meet
                  exact ⟨rfl, by first | rfl | trivial⟩
                · go_wp2
                  go_meet
                  exact ⟨rfl, by first | rfl | trivial⟩
              case rest =>
                obtain ⟨rfl, rfl⟩ := hcut
                go_upto_region 11 with (fail)
                by_cases hvt : vt = t
                · have htb : ((vt : Int) != (t : Int)) = false := by simp [hvt]
                  have HVt := Lib.hid hvt
                  clear hvt
                  go_quiet (fail)
                  generalize hwq : World.drewN _ _ = wq
                  have hbq : Below wc.heap.size wc wq := by rw [← hwq]; exact below_drewN (Below.refl _ _) _
                  have HSq := Lib.hid (HS3.out.step hbq)
                  have HDq : Hid (Dat wq r.N (.slice (some ⟨gd, 0, none⟩) 48 dc) (bytesB (blkOf (cutS b 8 48)))) := Lib.hid (by rw [bytes_blk (cutS_length _ _ _)]; exact HDt.out.below hbq)
                  have HVt2 : Hid ((getN (cutS b 1 5) : Int) = (t : Int)) := Lib.hid (by rw [← HVT.out]; exact_mod_cast congrArg Nat.cast HVt.out)
                  replace s0 := keepc hbq s0
                  replace s2 := keepc hbq s2
                  replace s3 := keepc hbq s3
                  have HL8 : Hid (ln ≤ 10000) := Lib.hid (by omega)
                  clear hwq hbq htb s1 m5 HS3 HDt
                  by_cases hk2 : vk = 2
                  · have hkb : (vk == 2) = true := by simp [hk2]
                    have HK2 := Lib.hid (show ((b 0).toNat : Int) = 2 by rw [← HVK.out]; exact hk2)
                    clear hk2
                    go_wp2_with (first | (at_builtin; go_loud (refine wp_append_q 150 126 rfl (.tmp 68) (.tmp 74) rfl Tryz.underlying126 info150 (by decide) wb.heap.size r.N _ (putsP l) rfl (HSq.out.own.below (Below.new _ _)) _ 1 ((vn : Int), bytesB (blkOf (cutS b 8 48))) (some ⟨gd, 0, none⟩) 48 dc (bytesB_length _) rfl (heap_alloc_new _ _) (HDq.out.below (Below.new _ _)) (Nat.le_trans HSq.out.be.size (Below.new wq _).size) ln (by rw [putsP_length]; exact HSq.out.len.symm) HL8.out (putsP (l ++ [(vn, blkOf (cutS b 8 48))])) (putsP_snoc l (vn, blkOf (cutS b 8 48))) ?_)))
                    intro a' c' w' hown hbe _
                    have HS9 : Hid (ReplS w wb w' m r L hd T0 P R (i + 1) a t u p (l ++ [(vn, blkOf (cutS b 8 48))]) a' (ln + 1) c') := Lib.hid (by
                      have h1 := HSq.out
                      refine ⟨?_, h1.jb, (Below.trans h1.be ((Below.new wq _).mono h1.be.size)).trans hbe, hown, by rw [h1.len]; simp, by have := h1.cnt; simp; omega, fun x hx => ?_, by have := h1.tn; omega, h1.onb⟩
                      · have h2 := HRep.out
                        rw [stepR_entry HZ.out.symm HPK.out.symm HK2.out HVt2.out, ← HVN.out, HB.out] at h2
                        exact h2
                      · rcases List.mem_append.1 hx with hx | hx
                        · exact h1.ent x hx
                        · simp at hx
                          rw [hx]
                          exact ⟨by have := HVN.out; have := getN2_lt b; simp only; omega, flat_blkOf _⟩)
                    clear hown hbe
                    go_wp2
                    go_roundw
                    case rel => exact ⟨i + 1, a, t, u, p, _, a', ln + 1, c', wb, by omega, by go_num, rfl, HS9⟩
                    case measure => simp [RowKit.intOf]; omega
                  · have hkb : (vk == 2) = false := by simpa using hk2
                    have HK3 : Hid (((b 0).toNat : Int) = 3) := Lib.hid (by have := HKK.out; have := HVK.out; omega)
                    have HEnd := Lib.hid (stepR_end (S := P.seen) (B := B) (L := L) (f := L - (i + 1)) (a := a) (t := t) (u := u) (l := l) (p := p) HZ.out.symm HPK.out.symm HK3.out HVt2.out)
                    have HBk := Lib.hid (rj_blank wq (some ⟨gd, 0, none⟩) (cutS b 8 48) 48 dc (cutS_length _ _ _) (by
                      obtain ⟨_, _, e, hB, _⟩ := HDq.out.own.bys (by rw [bytesB_length]; omega)
                      rw [bytes_blk (cutS_length _ _ _)] at hB
                      simp only [Value.slice.injEq] at e
                      rw [← e.1] at hB
                      exact hB))
                    obtain ⟨zl, hzl⟩ : ∃ zl, zl = zeroL (cutS b 8 48) := ⟨_, rfl⟩
                    rw [← hzl] at HBk
                    have HZl : Hid (zl = (cutS b 8 48).all (· == 0)) := Lib.hid hzl
                    clear hk2 hzl
                    by_cases hvn : vn = ln
                    · have hnb : ((vn : Int) != (ln : Int)) = false := by simp [hvn]
                      have HVn : Hid ((getN (cutS b 6 2) != l.length) = false) := Lib.hid (by rw [← HVN.out, hvn, HSq.out.len]; simp)
                      clear hvn
                      by_cases hl0 : ln = 0
                      · have hlb : ((ln : Int) == 0) = true := by simp [hl0]
                        have HL0 := Lib.hid (show (l.length == 0) = true by rw [← HSq.out.len]; simpa using hl0)
                        clear hl0
                        go_wp2
                        go_ret
                        exact HSq.out.bad (by
                          have h2 := HRep.out
                          rw [HEnd.out, if_pos (by rw [HL0.out]; simp)] at h2
                          exact h2.symm)
                      · have hlb : ((ln : Int) == 0) = false := by simp; omega
                        have HL0 := Lib.hid (show (l.length == 0) = false by rw [← HSq.out.len]; simpa using hl0)
                        clear hl0
                        cases zl
                        · go_wp2_with fail
                          refine Calls.mono HBk.out ?_
                          rintro e w' ⟨rfl, rfl⟩
                          go_wp2
                          go_ret
                          exact HSq.out.bad (by
                            have h2 := HRep.out
                            rw [HEnd.out, if_pos (by rw [← HZl.out]; simp)] at h2
                            exact h2.symm)
                        · have HEn2 : Hid (stepR b P.seen B L (L - (i + 1)) a t u l p = if l.any (fun x => decide (B ≤ x.1)) then none else replay P.seen L B (L - (i + 1)) ((a + l.length + 1) % L) (t + 1) (u + l.length + 1) [] (putAll p l)) := Lib.hid (by rw [HEnd.out, HVn.out, HL0.out, ← HZl.out]; rfl)
                          have HJ0 : Hid (RJ wq m r (pendJ ⟨L, hd, a, u, t, p, false⟩ (l.take 0)) P) := Lib.hid HSq.out.jn
                          clear HEnd HDq
                          go_wp2_with fail
                          refine Calls.mono HBk.out ?_
                          rintro e w' ⟨rfl, rfl⟩
                          clear s0 s2 s3
                          go_wp2_with fail
                          go_loopw [9] (fun v9 wx => ∃ k : Nat, k ≤ ln ∧ v9 = .int .i64 (k : Int) ∧ Hid (∀ j (hj : j < l.length), j < k → l[j].1 < B) ∧ Hid (RJ wx m r (pendJ ⟨L, hd, a, u, t, p, false⟩ (l.take k)) P) ∧ Hid (Only [m] wq wx)) (fun v9 _ => ln - (RowKit.intOf v9).toNat)
                          case atStart => exact ⟨0, by omega, rfl, Lib.hid (fun _ _ h => absurd h (Nat.not_lt_zero _)), HJ0, Lib.hid (Only.refl _ _)⟩
                          case round =>
                            obtain ⟨k, hk, rfl, HLt, HJk, HOk⟩ := hrel
                            by_cases hkl : k < ln
                            · have hkl' : k < l.length := by have := HSq.out.len; omega
                              have hown := HSq.out.own.only HOk.out (fun x hx => by simp at hx; rw [hx]; exact inN_ban HSq.out.jb.bm) (fun g hg hm => HSq.out.row hg (by simpa using hm))
                              obtain ⟨g8, rfl, ya, yc, p0, p1, hd8⟩ : ∃ g8, sa = some ⟨g8, 0, none⟩ ∧ ∃ ya yc, wr.cell? ⟨g8, k * 2, none⟩ = some (.int .i64 (l[k].1 : Int)) ∧ wr.cell? ⟨g8, k * 2 + 1, none⟩ = some (.slice ya 48 yc) ∧ Dat wr r.N (.slice ya 48 yc) (bytesB l[k].2) := by
                                rcases hown.form with ⟨e, _⟩ | ⟨g', c', e, _, _, hg', _, hc⟩
                                · have := congrArg List.length e
                                  rw [putsP_length] at this
                                  simp at this
                                  rw [this] at hkl'
                                  simp at hkl'
                                · simp only [Value.slice.injEq] at e
                                  obtain ⟨rfl, _, _⟩ := e
                                  obtain ⟨ya, yc, b1, b2, b3⟩ := hc k _ (putsP_get (List.getElem?_eq_getElem hkl'))
                                  simp only [bytesB_length] at b2 b3
                                  exact ⟨g', rfl, ya, yc, b1, b2, b3⟩
                              have hts := List.take_succ_eq_append_getElem hkl'
                              have hent := HSq.out.ent l[k] (List.getElem_mem hkl')
                              obtain ⟨y, hy⟩ : ∃ y, y = l[k] := ⟨_, rfl⟩
                              rw [← hy] at p0 hd8 hts hent
                              obtain ⟨yk, yb⟩ := y
                              simp only at p0 hd8 hts hent
                              obtain ⟨hy6, hyf⟩ := hent
                              have HTs : Hid (({ pendJ ⟨L, hd, a, u, t, p, false⟩ (l.take k) with pend := upd (pendJ ⟨L, hd, a, u, t, p, false⟩ (l.take k)).pend yk (some yb) } : Jn) = pendJ ⟨L, hd, a, u, t, p, false⟩ (l.take (k + 1))) := Lib.hid (by rw [hts]; unfold pendJ; rw [putAll_snoc])
                              have HYk : Hid (∀ j (hj : j < l.length), j = k → l[j].1 = yk) := Lib.hid (fun j hj e => by subst e; rw [← hy])
                              have HD8 := Lib.hid hd8
                              have HYf := Lib.hid hyf
                              have HBl : Hid (∀ n, Calls Tryz.prog 61 #[mv m] (wr.drewN n) fun e w' => e = .returned (.int .i64 (B : Int)) ∧ ∃ n, w' = wr.drewN n) := Lib.hid fun n => by
                                refine Calls.mono (rj_blocks (HJk.out.drewN n)) ?_
                                rintro e w' ⟨rfl, nq, rfl⟩
                                exact ⟨by rw [HB.out]; rfl, n + nq, by simp [World.drewN, Nat.add_assoc]⟩
                              clear hown hd8 hts hy hyf
                              go_upto_region 20 with (fail)
                              by_cases hge : B ≤ yk
                              · have hgi : (B : Int) ≤ (yk : Int) := by omega
                                have HGe := Lib.hid hge
                                clear hge
                                go_quiet ((go_at_call 61; exact HBl.out _))
                                go_wp2
                                go_ret
                                have hb9 := HOk.out
                                refine ⟨(fun x hx => ?_), (fun _ => ⟨rfl, (HJk.out.drewN _).rf⟩), (HSq.out.only.trans HOk.out).drewN _⟩
                                have h2 := HRep.out
                                have hkl' : k < l.length := by have := HSq.out.len; omega
                                rw [HEn2.out, if_pos (List.any_eq_true.2 ⟨l[k], List.getElem_mem hkl', by rw [HYk.out k hkl' rfl]; simpa using HGe.out⟩)] at h2
                                rw [← h2] at hx
                                cases hx
                              · have hgi : ¬ (B : Int) ≤ (yk : Int) := by omega
                                have HNg := Lib.hid hge
                                clear hge
                                go_quiet ((go_at_call 61; exact HBl.out _))
                                generalize hwz : World.drewN _ _ = wz
                                have hbz : Below wr.heap.size wr wz := by rw [← hwz]; exact below_drewN (Below.refl _ _) _
                                replace p0 := keepc hbz p0
                                replace p1 := keepc hbz p1
                                have hyac : ya = none → yc = 0 := by
                                  obtain ⟨_, _, e, _, _, h3⟩ := HD8.out.own.bys (by rw [bytesB_length]; omega)
                                  simp only [Value.slice.injEq] at e
                                  rw [e.1, e.2.2]
                                  exact h3
                                have HHas := Lib.hid (rj_has (HJk.out.below hbz) (yk, yb) ya yc (by show yk < P.n - 2 - L; have := HB.out; have := HNg.out; omega) (HD8.out.below hbz) HYf.out hyac)
                                have HOz := Lib.hid (HOk.out.trans (Only.of_below hbz))
                                clear hwz hbz hyac
                                go_wp2_with fail
                                refine Calls.mono HHas.out ?_
                                rintro e w9 ⟨⟨uu, rfl⟩, hj9, ho9⟩
                                have HJ9 : Hid (RJ w9 m r (pendJ ⟨L, hd, a, u, t, p, false⟩ (l.take (k + 1))) P) := Lib.hid (by rw [← HTs.out]; exact hj9)
                                have HO9 := Lib.hid (HOz.out.trans ho9)
                                clear hj9 ho9
                                go_wp2
                                go_roundw
                                case rel => exact ⟨k + 1, by omega, by go_num, Lib.hid (fun j hj hjk => by
                                  by_cases e : j = k
                                  · rw [HYk.out j hj e]; have := HNg.out; omega
                                  · exact HLt.out j hj (by omega)), HJ9, HO9⟩
                                case measure => simp [RowKit.intOf]; omega
                            · obtain rfl : k = ln := by omega
                              have hfin : l.take k = l := List.take_of_length_le (by have := HSq.out.len; omega)
                              rw [hfin] at HJk
                              have hk1 : u + (k + 1) ≤ L := by have := HSq.out.cnt; have := HSq.out.len; omega
                              have htt : t < 4611686018427387904 := by have := HSq.out.tn; omega
                              have HMv := Lib.hid (rj_movesZ HJk.out (k + 1) ((k : Int) + 1) (by omega) hk1 htt)
                              clear hfin hk1 htt
                              go_wp2_with fail
                              refine Calls.mono HMv.out ?_
                              rintro e w9 ⟨⟨uu, rfl⟩, hj9, ho9⟩
                              have HJ9 := Lib.hid hj9
                              have HO9 := Lib.hid (HOk.out.trans ho9)
                              clear hj9 ho9
                              have HS9 : Hid (ReplS w w9 w9 m r L hd T0 P R (i + 1) ((a + l.length + 1) % L) (t + 1) (u + l.length + 1) (putAll p l) [] none 0 0) := Lib.hid (by
                                have h1 := HSq.out
                                refine ⟨?_, ?_, Below.refl _ _, OwnQ.nil _ _ _ _, rfl, by have := h1.cnt; simp; omega, (fun x hx => by cases hx), by have := h1.tn; omega, h1.only.trans HO9.out⟩
                                · have h2 := HRep.out
                                  rw [HEn2.out, if_neg (fun hany => by
                                    obtain ⟨x, hx, hx2⟩ := List.any_eq_true.1 hany
                                    obtain ⟨j, hj, rfl⟩ := List.getElem_of_mem hx
                                    have h3 := HLt.out j hj (by have := h1.len; omega)
                                    have h4 : B ≤ l[j].1 := by simpa using hx2
                                    omega), HB.out] at h2
                                  exact h2
                                · have h3 := HJ9.out
                                  have e9 : movedJ (pendJ ⟨L, hd, a, u, t, p, false⟩ l) (k + 1) = ⟨L, hd, (a + l.length + 1) % L, u + l.length + 1, t + 1, putAll p l, false⟩ := by
                                    unfold movedJ pendJ
                                    simp only [h1.len, Nat.add_assoc]
                                  rw [e9] at h3
                                  exact h3)
                              go_wp2
                              go_roundw
                              case rel => exact ⟨i + 1, _, t + 1, _, putAll p l, [], none, 0, 0, w9, by omega, by go_num, rfl, HS9⟩
                              case measure => simp [RowKit.intOf]; omega
                    · have hnb : ((vn : Int) != (ln : Int)) = true := by simp; omega
                      have HVn : Hid ((getN (cutS b 6 2) != l.length) = true) := Lib.hid (by rw [← HVN.out, ← HSq.out.len]; simpa using hvn)
                      clear hvn
                      go_wp2
                      go_ret
                      exact HSq.out.bad (by
                        have h2 := HRep.out
                        rw [HEnd.out, if_pos (by rw [HVn.out]; simp)] at h2
                        exact h2.symm)
                · have htb : ((vt : Int) != (t : Int)) = true := by simp; omega
                  have HVt := Lib.hid (show ¬ (getN (cutS b 1 5) : Int) = (t : Int) by have := HVT.out; omega)
                  clear hvt
                  go_quiet (fail)
                  go_wp2
                  go_ret
                  exact (HS3.out.step (below_drewN (Below.refl _ _) _)).fin (by
                    have h1 := HRep.out
                    rw [stepR_turn HZ.out.symm HPK.out.symm HKK.out HVt.out] at h1
                    exact h1.symm)
            · have hk2 : (vk != 2) = true := by simp; omega
              have hk3 : (vk != 3) = true := by simp; omega
              have HKK := Lib.hid hk
              clear hk
              go_wp2
              go_ret
              exact HS3.out.bad (by
                have h1 := HRep.out
                have h2 := HKK.out
                rw [HVK.out] at h2
                rw [stepR_kind HZ.out.symm (fun h => h2 (.inl h)) (fun h => h2 (.inr h))] at h1
                exact h1.symm)
        · go_wp2
          go_ret
          exact HS1.out.fin (by have h1 := HRep.out; rw [stepR_blank HZ.out.symm] at h1; exact h1.symm)
    · obtain rfl : i = L := by omega
      go_wp2
      go_ret
      exact HS.out.fin (by have h1 := HS.out.rep; rw [Nat.sub_self] at h1; exact h1.symm)
end
end Go.Proofs.YtdhidcoglioalaaGreat.Walks
