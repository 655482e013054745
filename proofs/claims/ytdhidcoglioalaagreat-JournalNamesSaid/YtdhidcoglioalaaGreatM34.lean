/-
  What the laws say of a journal, in plain words: the chapter's examples, journals that are opened again, bits that are turned.
-/
import Derived.Test.YtdhidcoglioalaaGreatM33
namespace Go.Proofs.YtdhidcoglioalaaGreat.Plain
open Jn
section
variable {n L c : Nat} {S : Nat → Sec} {J : Jn} {P : Pl} {now : Nat → Byte}
theorem flush_live (hP : Live P S (fun _ => none)) (hf : P.fails = false) : P.flushE = 0 ∧ Live P.flush S (fun _ => none) ∧ P.flush.n = P.n ∧ P.flush.fails = false := by
  obtain ⟨e1, e2⟩ := flush_can hP.dead (can_any hf 1)
  have e2' : P.flush = (spent P 1).settled := e2
  have hsp : spent P 1 = P := by unfold spent; rw [hf]; simp
  rw [hsp] at e2'
  rw [e2']
  exact ⟨e1, ⟨hP.dead, seen_live hP, rfl⟩, rfl, hf⟩
theorem turn_live (hP : Live P S (fun _ => none)) {i bit : Nat} (hi : i < P.n) (hb : bit < 512) : P.turnE i bit = 0 ∧ Live (P.turn i bit) (upd S i (Pl.flip (S i) bit)) (fun _ => none) ∧ (P.turn i bit).n = P.n ∧ (P.turn i bit).fails = P.fails := by
  have e : P.turnE i bit = 0 := by
    unfold Pl.turnE
    rw [has_live hP.dead hi, if_neg (by simp), if_neg (by omega)]
  have e2 : P.turn i bit = P.turned i bit := by
    unfold Pl.turn
    rw [e]; simp
  rw [e2]
  refine ⟨e, ⟨hP.dead, ?_, ?_⟩, rfl, rfl⟩
  · show upd P.stays i (Pl.flip (P.seen i) bit) = _
    rw [seen_live hP, hP.stays]
  · show upd P.waits i none = _
    rw [hP.waits]
    funext k
    unfold upd
    split <;> rfl
/-! ### Deeds on a plate that does not fail -/
theorem KS.deed_ok (h : KS n L P J now c) (hf : P.fails = false) (hc : c ≤ 1000) (d : Deed) (h12 : 12 + L + 2 ≤ n) (hl : (deedL d.b d.blocks).length + 1 ≤ L) : deedE P J d = 0 ∧ KS n L (deedP P J d) (deedJ P J d) (deedN now d) (c + 1) ∧ (deedP P J d).fails = false := by
  rcases h.deed (can_any hf 0) hc d h12 hl with ⟨h1, h2, h3⟩ | ⟨_, h2, _⟩
  · exact ⟨h1, h2, h3.trans hf⟩
  · rw [hf] at h2; cases h2
theorem KS.clear (h : KS n L P J now c) (hf : P.fails = false) (hc : c ≤ 1000) : clearE P J = 0 ∧ KS n L (clearP P J) (clearJ P J) now (c + 1) ∧ (clearP P J).fails = false ∧ clearJ P J = J.cleared := by
  obtain ⟨S, hI, hL⟩ := h.inv
  have hlog := h.log
  have ht := h.turn
  have hh := h.head
  obtain ⟨c1, _⟩ := hI.clear hL h.n (can_any hf 0) (by omega)
  obtain ⟨e1, e2, S', f1, f2, f3, _⟩ := c1 (can_any hf _)
  refine ⟨e1, ⟨⟨S', by rw [e2]; exact f1, f2⟩, f3.n.trans h.n, by rw [e2]; exact hlog, by rw [e2]; show J.turn ≤ _; omega, by rw [e2]; show J.head + 1 ≤ _; omega⟩, f3.fails.trans hf, e2⟩
theorem cleared_free (hb : J.broken = false) : J.cleared.free = J.log - 1 := by
  unfold Jn.free
  rw [show J.cleared.broken = false from hb]
  simp [Jn.cleared]
/-- The power goes, and is back, and the journal is opened. -/
theorem KS.crash (h : KS n L P J now c) : (P.crash []).boot.flushE = 0 ∧ openJ (P.crash []).boot.flush = some J ∧ KS n L (P.crash []).boot.flush J now c ∧ (P.crash []).boot.flush.fails = false := by
  obtain ⟨S, hI, hL⟩ := h.inv
  have e : P.crash [] = P.gone [] := by unfold Pl.crash; rw [hL.dead]; simp
  have hs : (P.gone []).stays = S := by
    funext i
    show P.goneAt [] i = _
    unfold Pl.goneAt
    rw [hL.waits, hL.stays]
  have hB : Live (P.crash []).boot S (fun _ => none) := by rw [e]; exact ⟨rfl, hs, rfl⟩
  have hn : (P.crash []).boot.n = n := by rw [e]; exact h.n
  obtain ⟨o1, o2, o3, o4, o5⟩ := open_inv hI.core hB hn rfl
  exact ⟨o1, o2, ⟨⟨S, hI, o3⟩, o4, h.log, h.turn, h.head⟩, o5⟩
/-! ### A bit of a head -/
theorem headAt_bad {i : Nat} (h : parseOk (P.seen i) = false) : headAt P i = none := by
  unfold headAt
  rw [if_neg]
  rintro ⟨_, h2⟩
  unfold hdOk at h2
  rw [h] at h2
  simp at h2
theorem heads2_bad {i : Nat} (hi : i < 2) (h : headAt P i = none) : heads2 P = none := by
  unfold heads2
  obtain rfl | rfl : i = 0 ∨ i = 1 := by omega
  · rw [h]
  · rw [h]
    cases headAt P 0 <;> rfl
theorem Inv.heads {now : Nat → Blk} (h : Inv n S J now) {i : Nat} (hi : i < 2) : ∃ s, S i = packS s := by
  obtain ⟨a0, t0, _, _, h1, _⟩ := h.hd
  obtain ⟨a, t, _, _, _, h2⟩ := h.other
  by_cases e : i = J.head % 2
  · rw [e]; exact ⟨_, h2⟩
  · rw [show i = (J.head + 1) % 2 by omega]; exact ⟨_, h1⟩
theorem KS.turned_head (h : KS n L P J now c) (hf : P.fails = false) {i bit : Nat} (hi : i < 2) (hb : bit < 512) : P.turnE i bit = 0 ∧ (P.turn i bit).flushE = 0 ∧ openJ (P.turn i bit).flush = none := by
  obtain ⟨S, hI, hL⟩ := h.inv
  have h3 := hI.logn
  have h4 := h.n
  obtain ⟨e1, e2, e3, e4⟩ := turn_live hL (i := i) (bit := bit) (by omega) hb
  obtain ⟨f1, f2, f3, f4⟩ := flush_live e2 (e4.trans hf)
  refine ⟨e1, f1, ?_⟩
  obtain ⟨s, hs⟩ := hI.heads hi
  unfold openJ
  rw [heads2_bad hi (headAt_bad _)]
  rw [seen_live f2, upd_same, hs]
  exact flip_bad hb
/-! ### A bit of a home -/
theorem sum_four : parseOk (Pl.flip zeroS 2) = false := by decide +kernel
theorem zero_or (b : Byte) (k : Nat) (hk : k < 8) : (b ^^^ (1#8 <<< k)) ≠ b := by
  intro e
  have e5 : (1#8 <<< k) = 0#8 := by
    have := congrArg (fun z => b ^^^ z) e
    simp only [← BitVec.xor_assoc, BitVec.xor_self, BitVec.zero_xor] at this
    exact this
  have e6 := congrArg (fun z : Byte => z.getLsbD k) e5
  simp [hk] at e6
theorem flip_zero_blank {k : Nat} (hk : k < 512) : isBlank (Pl.flip zeroS k) = false := by
  cases hb : isBlank (Pl.flip zeroS k)
  · rfl
  · exfalso
    have h2 := blank_eq.1 hb (k / 8) (by omega)
    unfold Pl.flip at h2
    rw [upd_same] at h2
    exact zero_or _ _ (by omega) h2
theorem homeE_bad_ok {b : Sec} {i : Nat} (h1 : isBlank b = false) (h2 : parseOk b = false) : homeE b i = 70 := by
  unfold homeE
  rw [h1, h2]
  simp
theorem homeE_bad_kind {b : Sec} {i : Nat} (h1 : isBlank b = false) (h2 : (b 0).toNat ≠ 4) : homeE b i = 70 := by
  unfold homeE
  have : ((parseS b).kind != 4) = true := by
    show ((((b 0).toNat : Int)) != 4) = true
    simp only [bne_iff_ne, ne_eq]
    omega
  rw [h1, this]
  simp
theorem flip_home {b : Sec} {i : Nat} {x : Blk} (hi : i < 65536) (hf : Flat x) (h : HomeOk b i x) {k : Nat} (hk : k < 512) : homeE (Pl.flip b k) i = 70 := by
  rcases h with ⟨rfl, _⟩ | rfl
  · have hnb := flip_zero_blank hk
    by_cases e : k = 2
    · subst e
      exact homeE_bad_ok hnb sum_four
    · refine homeE_bad_kind hnb ?_
      by_cases h0 : k / 8 = 0
      · have hlt : k < 8 := by omega
        have : k = 0 ∨ k = 1 ∨ k = 3 ∨ k = 4 ∨ k = 5 ∨ k = 6 ∨ k = 7 := by omega
        rcases this with rfl | rfl | rfl | rfl | rfl | rfl | rfl <;> decide
      · unfold Pl.flip
        rw [upd_other _ _ (fun e => h0 e.symm)]
        decide
  · have hft := fits_home hi hf
    refine homeE_bad_ok ?_ (flip_bad hk)
    cases hb : isBlank (Pl.flip (packS (homeSct i x)) k)
    · rfl
    · exfalso
      have h2 := blank_eq.1 hb
      have k0 : packS (homeSct i x) 0 = 4#8 := rfl
      by_cases hk0 : k / 8 = 0
      · have hz : ∀ j, 1 ≤ j → j < 64 → packS (homeSct i x) j = 0 := fun j hj hj2 => by
          have := h2 j hj2
          unfold Pl.flip at this
          rwa [upd_other _ _ (by omega)] at this
        have hall : packS (homeSct i x) = Pl.flip zeroS 2 := by
          funext j
          have e0 : Pl.flip zeroS 2 = upd zeroS 0 4#8 := by
            unfold Pl.flip zeroS
            rfl
          rw [e0]
          by_cases hj0 : j = 0
          · rw [hj0, upd_same]; exact k0
          · rw [upd_other _ _ hj0]
            by_cases hj : j < 64
            · exact hz j (by omega) hj
            · show (packL (homeSct i x)).getD j 0 = 0
              rw [List.getD_eq_getElem?_getD, List.getElem?_eq_none (by rw [packL_length]; omega)]; rfl
        have := pack_ok (homeSct i x)
        rw [hall, sum_four] at this
        cases this
      · have h3 := h2 0 (by omega)
        unfold Pl.flip at h3
        rw [upd_other _ _ (fun e => hk0 e.symm), k0] at h3
        exact absurd h3 (by decide)
theorem KS.turned_home (h : KS n L P J now c) (hf : P.fails = false) (hp : J.pend = fun _ => none) {i bit : Nat} (hi : i + L + 2 < n) (hb : bit < 512) : P.turnE (2 + L + i : Nat) bit = 0 ∧ (P.turn (2 + L + i : Nat) bit).flushE = 0 ∧ openJ (P.turn (2 + L + i : Nat) bit).flush = some J ∧
    (P.turn (2 + L + i : Nat) bit).flush.n = n ∧ (∀ k, k + L + 2 < n → k ≠ i → readE (P.turn (2 + L + i : Nat) bit).flush J k = 0 ∧ readB (P.turn (2 + L + i : Nat) bit).flush J k = nowF now k ∧ readJ (P.turn (2 + L + i : Nat) bit).flush J k = J) ∧
    readE (P.turn (2 + L + i : Nat) bit).flush J i = 70 ∧ readJ (P.turn (2 + L + i : Nat) bit).flush J i = J := by
  obtain ⟨S, hI, hL⟩ := h.inv
  have h4 := h.n
  have hlog := h.log
  have hn4 := hI.n4
  obtain ⟨e1, e2, e3, e4⟩ := turn_live hL (i := 2 + L + i) (bit := bit) (by omega) hb
  obtain ⟨f1, f2, f3, f4⟩ := flush_live e2 (e4.trans hf)
  generalize hQ : (P.turn (2 + L + i : Nat) bit).flush = Q at *
  have hQn : Q.n = n := by omega
  have hC : Core n (upd S (2 + L + i) (Pl.flip (S (2 + L + i)) bit)) J := hI.core.same fun k hk => upd_other _ _ (by omega)
  have ho := hC.open_ f2 hQn
  have hbl : J.blocks Q.n = n - 2 - L := by unfold Jn.blocks; rw [hI.live, hQn, hlog]; simp
  have hread : ∀ k, k + L + 2 < n → readE Q J k = homeE (upd S (2 + L + i) (Pl.flip (S (2 + L + i)) bit) (2 + L + k)) k ∧ readB Q J k = homeB (upd S (2 + L + i) (Pl.flip (S (2 + L + i)) bit) (2 + L + k)) ∧ readJ Q J k = J := fun k hk => by
    have hnot : ¬ ((k : Int) < 0 ∨ (J.blocks Q.n : Int) ≤ k) := by rw [hbl]; omega
    have hhas : Q.has (J.home k) = 0 := has_live f2.dead (by unfold Jn.home; omega)
    unfold readE readB readJ
    rw [hI.live, if_neg hnot, if_neg hnot, hp]
    simp only [Bool.false_eq_true, if_false, Int.toNat_natCast, hhas, ne_eq, not_true_eq_false]
    rw [seen_live f2]
    unfold Jn.home
    rw [hlog]
    exact ⟨rfl, rfl, trivial⟩
  have hhome : ∀ k, k + L + 2 < n → HomeOk (S (2 + L + k)) k (nowF now k) := fun k hk => by
    have := hI.homes k (by omega)
    rw [hp, hlog] at this
    exact this
  refine ⟨e1, f1, ho, hQn, fun k hk hne => ?_, ?_, (hread i hi).2.2⟩
  · obtain ⟨r1, r2, r3⟩ := hread k hk
    rw [upd_other _ _ (by omega)] at r1 r2
    have hs : Live P S (fun _ => none) := hL
    obtain ⟨g1, g2, _⟩ := hI.read hs h4 (i := k) (by omega)
    have hnot : ¬ ((k : Int) < 0 ∨ (J.blocks P.n : Int) ≤ k) := by
      have : J.blocks P.n = n - 2 - L := by unfold Jn.blocks; rw [hI.live, h4, hlog]; simp
      rw [this]; omega
    have hhas : P.has (J.home k) = 0 := has_live hL.dead (by unfold Jn.home; omega)
    unfold readE at g1
    unfold readB at g2
    rw [hI.live, if_neg hnot, hp] at g1
    rw [hp] at g2
    simp only [Bool.false_eq_true, if_false, Int.toNat_natCast, hhas, ne_eq, not_true_eq_false] at g1 g2
    rw [seen_live hL] at g1 g2
    unfold Jn.home at g1 g2
    rw [hlog] at g1 g2
    exact ⟨r1.trans g1, r2.trans g2, r3⟩
  · rw [(hread i hi).1, upd_same]
    exact flip_home (by omega) (hI.flat i) (hhome i hi) hb
end
/-! ### A bit of the log -/
theorem replay_flip {S : Nat → Sec} {L B a t u : Nat} {p : Pend} (ht : t < 1099511627776) {l : List (Nat × Blk)} {f bit : Nat} {s : Sct} (hb : bit < 512) (hl : ∀ x ∈ l, x.1 < 65536 ∧ Flat x.2) (he : ∀ k (h : k < l.length), S (2 + (a + k) % L) = packS (entrySct t l[k]))
    (hs : S (2 + (a + l.length) % L) = Pl.flip (packS s) bit) (hft : s.Fits) (h0 : s.kind ≠ 0) (h1 : s.turn ≠ 0) : replay S L B (l.length + (f + 1)) a t u [] p = none := by
  rw [replay_entries ht l [] (f + 1) hl (fun k hk => by rw [List.length_nil, Nat.zero_add]; exact he k hk), List.nil_append]
  simp only [replay]
  rw [hs, flip_not_blank hft h0 h1, flip_bad hb]
  simp
theorem Inv.heads_is {n : Nat} {S S' : Nat → Sec} {J : Jn} {now : Nat → Blk} (h : Inv n S J now) {P : Pl} (hP : Live P S' (fun _ => none)) (hn : P.n = n) (h01 : ∀ i, i < 2 → S' i = S i) : ∃ a0 t0, heads2 P = some ⟨J.head, J.log, a0, t0⟩ ∧ a0 < J.log ∧ 0 < t0 ∧ Led S J.log (n - 2 - J.log) a0 t0 J.at_ J.turn J.used J.pend := by
  subst hn
  have hseen := seen_live hP
  obtain ⟨a0, t0, ha0, ht0, hs0, hled⟩ := h.hd
  obtain ⟨a1, t1, ha1, ht1, ht1', hs1⟩ := h.other
  obtain ⟨f1, f2, f3, f4, _⟩ := hled.facts ha0
  have hh := h.head
  have htt := h.turn
  have hn4 := h.n4
  have hl2 := h.log2
  have hln := h.logn
  refine ⟨a0, t0, ?_, ha0, ht0, hled⟩
  unfold heads2
  rcases Nat.mod_two_eq_zero_or_one J.head with e | e
  · rw [show (J.head + 1) % 2 = 1 by omega] at hs0
    rw [e] at hs1
    have g0 : headAt P 0 = _ := headAt_pack (i := 0) hP.dead (by omega) (by rw [hseen, h01 0 (by omega)]; exact hs1) (by omega) hn4 ha1 ht1' (by omega) ht1 hl2 hln
    have g1 : headAt P 1 = _ := headAt_pack (i := 1) hP.dead (by omega) (by rw [hseen, h01 1 (by omega)]; exact hs0) hh.2 hn4 ha0 (by omega) (by omega) ht0 hl2 hln
    rw [g0, g1]
    simp only
    rw [if_pos ⟨trivial, by omega⟩, if_pos (by omega)]
  · rw [show (J.head + 1) % 2 = 0 by omega] at hs0
    rw [e] at hs1
    have g0 : headAt P 0 = _ := headAt_pack (i := 0) hP.dead (by omega) (by rw [hseen, h01 0 (by omega)]; exact hs0) hh.2 hn4 ha0 (by omega) (by omega) ht0 hl2 hln
    have g1 : headAt P 1 = _ := headAt_pack (i := 1) hP.dead (by omega) (by rw [hseen, h01 1 (by omega)]; exact hs1) (by omega) hn4 ha1 ht1' (by omega) ht1 hl2 hln
    rw [g0, g1]
    simp only
    rw [if_pos ⟨trivial, by omega⟩, if_neg (by omega)]
theorem free_format (log : Nat) : (formatJ log).free = log - 1 := by simp [Jn.free, formatJ]
/-- One commit behind the making; then a bit of it is turned. -/
theorem logged {l : List (Nat × Byte)} (hl0 : l ≠ []) (hl : Deeds l 12) :
    commitE (formatP (Pl.made 40) 14) (formatJ 14) (putsL l) = 0 ∧ (commitJ (formatP (Pl.made 40) 14) (formatJ 14) (putsL l)).free + (l.length + 1) = 13 ∧
    ∀ k, k < 512 * (l.length + 1) → (commitP (formatP (Pl.made 40) 14) (formatJ 14) (putsL l)).turnE (2 + k / 512 : Nat) (k % 512 : Nat) = 0 ∧
      ((commitP (formatP (Pl.made 40) 14) (formatJ 14) (putsL l)).turn (2 + k / 512 : Nat) (k % 512 : Nat)).flushE = 0 ∧ openJ ((commitP (formatP (Pl.made 40) 14) (formatJ 14) (putsL l)).turn (2 + k / 512 : Nat) (k % 512 : Nat)).flush = none := by
  obtain ⟨_, S, hI, hL, hn, hf⟩ := format_fresh (fresh_made 40) (log := 14) (by omega) (by omega) (by omega)
  have hlen := hl.len
  obtain ⟨P, hP⟩ : ∃ P, P = formatP (Pl.made 40) (14 : Nat) := ⟨_, rfl⟩
  have hPi : formatP (Pl.made 40) 14 = P := hP.symm
  rw [← hP] at hL hn hf
  rw [hPi]
  clear hP hPi
  obtain ⟨J, hJ⟩ : ∃ J, J = formatJ 14 := ⟨_, rfl⟩
  rw [← hJ] at hI ⊢
  have j1 : J.log = 14 := by rw [hJ]; rfl
  have j2 : J.used = 0 := by rw [hJ]; rfl
  have j3 : J.turn = 1 := by rw [hJ]; rfl
  have j4 : J.at_ = 0 := by rw [hJ]; rfl
  clear hJ
  have hbad := badE_zero hI hn hl (by omega) (by omega)
  have hlen0 : ¬ (putsL l).length = 0 := by simp [putsL, hl0]
  have hb0 : blksL l ≠ [] := by simp [blksL, hl0]
  have hbl : (blksL l).length = l.length := by simp [blksL]
  have hbm : ∀ x ∈ blksL l, x.1 < 40 - 2 - J.log ∧ Flat x.2 := fun x hx => by
    obtain ⟨y, hy, rfl⟩ := List.mem_map.1 hx
    exact ⟨by have := hl.lt y hy; show y.1 < _; omega, flat_one _⟩
  have htight : J.tight (blksL l).length = false := by
    unfold Jn.tight Jn.free
    rw [hI.live, hbl]
    simp only [Bool.false_eq_true, if_false, decide_eq_false_iff_not]
    omega
  obtain ⟨w1, _⟩ := hI.write hL hn (can_any hf 0) (by omega) hb0 hbm (by omega)
  obtain ⟨e1, S', f1, f2, f3, f4, f5, f6⟩ := w1 (can_any hf _)
  have eE : commitE P J (putsL l) = 0 := by
    unfold commitE Jn.nothing
    rw [hbad, blks_puts]
    simp only [hlen0, ne_eq, not_true_eq_false, decide_false, Bool.or_self, Bool.false_eq_true, if_false]
    unfold putE
    rw [htight]
    exact e1
  have eP : commitP P J (putsL l) = runP (J.writeW (blksL l)) P := by
    unfold commitP Jn.nothing
    rw [hbad, blks_puts]
    simp only [hlen0, ne_eq, not_true_eq_false, decide_false, Bool.or_self, Bool.false_eq_true, if_false]
    unfold putP
    rw [htight]
    rfl
  have eJ : commitJ P J (putsL l) = J.wrote (blksL l) := by
    unfold commitJ Jn.nothing
    rw [hbad, blks_puts]
    simp only [hlen0, ne_eq, not_true_eq_false, decide_false, Bool.or_self, Bool.false_eq_true, if_false]
    unfold putJ
    rw [htight, e1]
    simp
  rw [eE, eP, eJ]
  refine ⟨rfl, ?_, fun k hk => ?_⟩
  · unfold Jn.free
    rw [f1.live]
    simp only [Bool.false_eq_true, if_false]
    show J.log - (J.used + (blksL l).length + 1) - 1 + _ = _
    omega
  · have hkd : k / 512 ≤ l.length := by omega
    obtain ⟨g1, g2, g3, g4⟩ := turn_live f2 (i := 2 + k / 512) (bit := k % 512) (by have := f3.n; omega) (by omega)
    obtain ⟨o1, o2, o3, o4⟩ := flush_live g2 (by rw [g4, f3.fails]; exact hf)
    refine ⟨g1, o1, ?_⟩
    generalize ((runP (J.writeW (blksL l)) P).turn (2 + k / 512 : Nat) (k % 512 : Nat)).flush = Q at *
    obtain ⟨a0, t0, h2, ha0, ht0, hled⟩ := hI.heads_is o2 (by have := f3.n; omega) (fun i hi => by rw [upd_other _ _ (by omega)]; exact f6 i (.inl hi))
    obtain ⟨x1, x2, x3, x4, _⟩ := hled.facts ha0
    rw [j2, Nat.add_zero, j1, j4] at x1
    have hA : a0 = 0 := by rw [j1] at ha0; omega
    have hT : t0 = 1 := by omega
    subst hA hT
    unfold openJ
    rw [h2]
    simp only
    have hpl : ∀ m, m ≤ l.length → J.place m = 2 + m := fun m hm => by unfold Jn.place; rw [j1, j4]; omega
    obtain ⟨s, s1, s2, s3, s4⟩ : ∃ s : Sct, s.Fits ∧ s.kind ≠ 0 ∧ s.turn ≠ 0 ∧ S' (2 + k / 512) = packS s := by
      by_cases hk2 : k / 512 < (blksL l).length
      · have := f4 _ hk2
        rw [hpl _ hkd, j3] at this
        have hm := hbm _ (List.getElem_mem hk2)
        exact ⟨_, fits_entry (by omega) (by omega) hm.2, (by show (2 : Int) ≠ 0; decide), (by show ((1 : Nat) : Int) ≠ 0; decide), this⟩
      · have := f5
        rw [hpl _ (by omega), j3, hbl] at this
        rw [show k / 512 = l.length by omega]
        exact ⟨_, fits_end (by omega) (by omega), (by show (3 : Int) ≠ 0; decide), (by show ((1 : Nat) : Int) ≠ 0; decide), this⟩
    have hlt : ((blksL l).take (k / 512)).length = k / 512 := by rw [List.length_take, hbl, Nat.min_eq_left hkd]
    have hr := replay_flip (S := Q.seen) (L := J.log) (B := Q.n - 2 - J.log) (a := 0) (t := 1) (u := 0) (p := fun _ => none) (by omega) (l := (blksL l).take (k / 512)) (f := 13 - k / 512) (bit := k % 512) (s := s) (by omega)
      (fun x hx => by have := hbm x (List.mem_of_mem_take hx); exact ⟨by omega, this.2⟩)
      (fun m hm => by
        rw [hlt] at hm
        rw [seen_live o2, upd_other _ _ (by rw [j1]; omega), List.getElem_take]
        have := f4 m (by omega)
        rw [hpl m (by omega), j3] at this
        rw [j1, show (0 + m) % 14 = m by omega]
        exact this)
      (by rw [hlt, seen_live o2, j1, show 2 + (0 + k / 512) % 14 = 2 + k / 512 by omega, upd_same, s4]) s1 s2 s3
    rw [hlt, show k / 512 + (13 - k / 512 + 1) = J.log by omega] at hr
    rw [hr]
/-! ### The chapter's examples -/
section
variable {n L : Nat} {S : Nat → Sec} {J : Jn} {P : Pl} {now : Nat → Byte}
/-- A plate that lives, and a journal on it. -/
structure EX (n : Nat) (P : Pl) (J : Jn) (now : Nat → Byte) : Prop where
  inv : ∃ S, Inv n S J (nowF now) ∧ Live P S (fun _ => none)
  n : P.n = n
theorem EX.bad (h : EX n P J now) {l : List (Nat × Byte)} (hl : Deeds l 12) (h12 : 12 ≤ n - 2 - J.log) (hm : l.length + 1 ≤ J.log) : badE P J (putsL l) = 0 := by
  obtain ⟨S, hI, _⟩ := h.inv
  exact badE_zero hI h.n hl h12 hm
/-- A commit that can be done. -/
theorem EX.commit (h : EX n P J now) {l : List (Nat × Byte)} (hl0 : l ≠ []) (hl : Deeds l 12) (h12 : 12 ≤ n - 2 - J.log) (hm : l.length + 1 ≤ J.log) (ht : J.turn < 1000) (hh : J.head < 1000) (hc : Can P (putM J n l.length)) :
    commitE P J (putsL l) = 0 ∧ commitJ P J (putsL l) = putJ' J (blksL l) ∧ EX n (commitP P J (putsL l)) (putJ' J (blksL l)) (nextB now l) ∧ Fwd P (commitP P J (putsL l)) (putM J n l.length) := by
  have hbad := h.bad hl h12 hm
  obtain ⟨S, hI, hL⟩ := h.inv
  have hlen0 : ¬ (putsL l).length = 0 := by simp [putsL, hl0]
  have hb0 : blksL l ≠ [] := by simp [blksL, hl0]
  have hbl : (blksL l).length = l.length := by simp [blksL]
  have hbm : ∀ x ∈ blksL l, x.1 < n - 2 - J.log ∧ Flat x.2 := fun x hx => by
    obtain ⟨y, hy, rfl⟩ := List.mem_map.1 hx
    exact ⟨Nat.lt_of_lt_of_le (hl.lt y hy) h12, flat_one _⟩
  have h0 : Can P 0 := can_mono hc (Nat.zero_le _)
  obtain ⟨p1, _⟩ := hI.put hL h.n h0 (by omega) (by omega) hb0 hbm (by rw [hbl]; exact hm)
  rw [hbl] at p1
  obtain ⟨e1, e2, S', f1, f2, f3⟩ := p1 hc
  unfold commitE commitP commitJ Jn.nothing
  rw [hbad, blks_puts]
  simp only [hlen0, ne_eq, not_true_eq_false, decide_false, Bool.or_self, Bool.false_eq_true, if_false]
  rw [nowAll_deed _ _ hl.lt] at f1
  exact ⟨e1, e2, ⟨⟨S', f1, f2⟩, f3.n.trans h.n⟩, f3⟩
/-- A commit that is to clear ahead of it, and the power goes there. -/
theorem EX.stuck (h : EX n P J now) {l : List (Nat × Byte)} (hl0 : l ≠ []) (hl : Deeds l 12) (h12 : 12 ≤ n - 2 - J.log) (hm : l.length + 1 ≤ J.log) (ht : J.turn < 1000) (hh : J.head < 1000) (h0 : Can P 0) (htt : J.tight l.length = true) (hc : ¬ Can P (clearM J n)) :
    commitE P J (putsL l) = 50 ∧ (commitJ P J (putsL l)).broken = true ∧ (commitP P J (putsL l)).dead = true ∧ (commitP P J (putsL l)).boot.flushE = 0 ∧ ∃ J', openJ (commitP P J (putsL l)).boot.flush = some J' ∧ EX n (commitP P J (putsL l)).boot.flush J' now ∧ J'.log = J.log := by
  have hbad := h.bad hl h12 hm
  obtain ⟨S, hI, hL⟩ := h.inv
  have hlen0 : ¬ (putsL l).length = 0 := by simp [putsL, hl0]
  have hbl : (blksL l).length = l.length := by simp [blksL]
  unfold commitE commitP commitJ Jn.nothing
  rw [hbad, blks_puts]
  simp only [hlen0, ne_eq, not_true_eq_false, decide_false, Bool.or_self, Bool.false_eq_true, if_false]
  unfold putE putP putJ
  rw [hbl, htt]
  obtain ⟨_, c2⟩ := hI.clear hL h.n h0 (by omega)
  obtain ⟨e1, e2, S', J', f1, f2, f3⟩ := c2 hc
  rw [e1]
  simp only [if_true, ne_eq, show ¬ ((50 : Int) = 0) by decide, not_false_eq_true]
  obtain ⟨b1, b2, b3⟩ := boot_down f3
  obtain ⟨o1, o2, o3, o4, o5⟩ := open_inv f1.core b1 b2 b3
  refine ⟨trivial, rfl, f3.dead, o1, J', o2, ⟨⟨S', f1, o3⟩, o4⟩, ?_⟩
  rcases f2 with rfl | rfl <;> rfl
theorem EX.read (h : EX n P J now) {i : Nat} (hi : i + J.log + 2 < n) : readE P J i = 0 ∧ readB P J i = nowF now i ∧ readJ P J i = J := by
  obtain ⟨S, hI, hL⟩ := h.inv
  exact hI.read hL h.n (by omega)
theorem EX.fail (h : EX n P J now) (k : Nat) (keep : List Bool) : EX n (P.fail k keep) J now ∧ (P.fail k keep).fails = true ∧ (P.fail k keep).left = k := by
  obtain ⟨S, hI, hL⟩ := h.inv
  have e : P.fail k keep = P.failed k keep := by unfold Pl.fail; rw [hL.dead]; simp
  rw [e]
  refine ⟨⟨⟨S, hI, ⟨hL.dead, hL.stays, hL.waits⟩⟩, h.n⟩, ?_, rfl⟩
  show decide ((0 : Int) ≤ k) = true
  simp
theorem EX.live (h : EX n P J now) : J.broken = false ∧ J.Ok n := by obtain ⟨S, hI, _⟩ := h.inv; exact ⟨hI.live, hI.ok⟩
end
def aP0 : Pl := formatP (Pl.made 20) 6
def aJ0 : Jn := formatJ 6
def aL1 : List (Nat × Byte) := [(3, 1), (5, 2)]
def aP1 : Pl := commitP aP0 aJ0 (putsL aL1)
def aJ1 : Jn := commitJ aP0 aJ0 (putsL aL1)
def aP2 : Pl := aP1.fail 5 []
def aL2 : List (Nat × Byte) := [(3, 7), (5, 8)]
def aP3 : Pl := commitP aP2 aJ1 (putsL aL2)
def aJ3 : Jn := commitJ aP2 aJ1 (putsL aL2)
def aP4 : Pl := aP3.fail 4 []
def aL3 : List (Nat × Byte) := [(3, 9)]
def aP5 : Pl := commitP aP4 aJ3 (putsL aL3)
def aJ5 : Jn := commitJ aP4 aJ3 (putsL aL3)
def aP6 : Pl := aP5.boot
def aP7 : Pl := aP6.flush
theorem deeds_of {l : List (Nat × Byte)} (h1 : (l.all fun x => decide (x.1 < 12)) = true) (h2 : (l.map (·.1)).Nodup) (h3 : l.length ≤ 12) : Deeds l 12 := ⟨fun x hx => by simpa using List.all_eq_true.1 h1 x hx, h2, h3⟩
/-- All that the chapter's examples ask. -/
structure Awake : Prop where
  f0 : formatE (Pl.made 20) 6 = 0
  x0 : EX 20 aP0 aJ0 (fun _ => 0)
  e1 : commitE aP0 aJ0 (putsL aL1) = 0
  x1 : EX 20 aP1 aJ1 (nextB (fun _ => 0) aL1)
  g1 : aJ1.log = 6
  r1 : aJ1.free = 2
  x2 : EX 20 aP2 aJ1 (nextB (fun _ => 0) aL1)
  e3 : commitE aP2 aJ1 (putsL aL2) = 0
  x3 : EX 20 aP3 aJ3 (nextB (nextB (fun _ => 0) aL1) aL2)
  x4 : EX 20 aP4 aJ3 (nextB (nextB (fun _ => 0) aL1) aL2)
  g3 : aJ3.log = 6
  e5 : commitE aP4 aJ3 (putsL aL3) = 50
  b5 : aJ5.broken = true
  d5 : aP5.dead = true
  o7 : aP6.flushE = 0
  x7 : ∃ J, openJ aP7 = some J ∧ EX 20 aP7 J (nextB (nextB (fun _ => 0) aL1) aL2) ∧ J.log = 6
theorem awake_facts : Awake := by
  obtain ⟨f0, S, hI, hL, hn, hf⟩ := format_fresh (fresh_made 20) (log := 6) (by omega) (by omega) (by omega)
  have hz : nowF (fun _ => 0) = fun _ => zeroB := by
    funext i j
    by_cases hi : i < 12 <;> simp [nowF, oneB, zeroB, hi]
  have x0 : EX 20 aP0 aJ0 (fun _ => 0) := ⟨⟨S, by rw [hz]; exact hI, hL⟩, hn⟩
  have hd1 : Deeds aL1 12 := deeds_of (by decide) (by decide) (by decide)
  have hd2 : Deeds aL2 12 := deeds_of (by decide) (by decide) (by decide)
  have hd3 : Deeds aL3 12 := deeds_of (by decide) (by decide) (by decide)
  obtain ⟨e1, j1, x1, w1⟩ := x0.commit (l := aL1) (by decide) hd1 (by decide) (by decide) (by decide) (by decide) (can_any hf _)
  have j1' : aJ1 = putJ' aJ0 (blksL aL1) := j1
  have x1' : EX 20 aP1 aJ1 (nextB (fun _ => 0) aL1) := by rw [j1']; exact x1
  obtain ⟨x2, y1, y2⟩ := x1'.fail 5 []
  have hc2 : Can aP2 (putM aJ1 20 aL2.length) := fun _ => by
    have : aP2.left = 5 := y2
    rw [this, j1']
    decide
  obtain ⟨e3, j3, x3, w3⟩ := x2.commit (l := aL2) (by decide) hd2 (by rw [j1']; decide) (by rw [j1']; decide) (by rw [j1']; decide) (by rw [j1']; decide) hc2
  have j3' : aJ3 = putJ' (putJ' aJ0 (blksL aL1)) (blksL aL2) := by rw [← j1']; exact j3
  have x3' : EX 20 aP3 aJ3 (nextB (nextB (fun _ => 0) aL1) aL2) := by rw [j3', ← j1']; exact x3
  obtain ⟨x4, z1, z2⟩ := x3'.fail 4 []
  have hc4 : ¬ Can aP4 (clearM aJ3 20) := fun h => by
    have h1 := h z1
    have : aP4.left = 4 := z2
    rw [this, j3'] at h1
    exact absurd h1 (by decide)
  have h04 : Can aP4 0 := fun _ => by
    have : aP4.left = 4 := z2
    rw [this]
    decide
  obtain ⟨e5, b5, d5, o7, J7, o8, x7, g7⟩ := x4.stuck (l := aL3) (by decide) hd3 (by rw [j3']; decide) (by rw [j3']; decide) (by rw [j3']; decide) (by rw [j3']; decide) h04 (by rw [j3']; decide) hc4
  have g3 : aJ3.log = 6 := by rw [j3']; decide
  exact ⟨f0, x0, e1, x1', by rw [j1']; decide, by rw [j1']; decide, x2, e3, x3', x4, g3, e5, b5, d5, o7, J7, o8, x7, g7.trans g3⟩
end Go.Proofs.YtdhidcoglioalaaGreat.Plain
