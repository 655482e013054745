/-
  Some blocks are written, all or none.
-/
import Derived.Test.YtdhidcoglioalaaGreatM23
import Derived.Test.YtdhidcoglioalaaGreatM24
import Derived.Deep.CutBlock
namespace Go.Proofs.YtdhidcoglioalaaGreat.Walks
open Go.RowKit Plain Jn
set_option linter.unusedVariables false
attribute [local go_sem ↓] exec_load116 exec_store116 exec_alloc116 exec_load112 exec_store112 exec_alloc112 exec_build3 exec_build4 Go.wp_at_zero Go.wp_at_succ exec_load112T exec_store116T exec_load116T
attribute [local go_sem] isPt_mk adOf_mk isI_mk iOf_mk cellsV_mk sctL_length blkL_length setCells_drew oneN_sct oneN_blk oneN_fields roomN_new isRow_new cellL_new alloc_setN roomN_past isRow_past cellL_past roomN_drew isRow_drew cellL_drew setCells_size setCells_past

/-- Puts lie in memory, in none of these blocks. -/
structure PutAt (w : World) (R : List Nat) (b o : Nat) (x : Int × List Byte) (da : Option Addr) (dc : Nat) : Prop where
  c0 : w.cell? ⟨b, o, none⟩ = some (.int .i64 x.1)
  c1 : w.cell? ⟨b, o + 1, none⟩ = some (.slice da x.2.length dc)
  bys : Bys w da x.2
  out : ∀ ad, da = some ad → ad.block ∉ R
  wf : Wf x.1
def PutsAt (w : World) (R : List Nat) (a : Option Addr) (l : List (Int × List Byte)) : Prop :=
  l.length ≤ 10000 ∧ (l = [] ∨ ∃ b off, a = some ⟨b, off, none⟩ ∧ b ∉ R ∧ ∀ k (h : k < l.length), ∃ da dc, PutAt w R b (off + k * 2) l[k] da dc)
theorem PutsAt.below {w w' : World} {R : List Nat} {a : Option Addr} {l : List (Int × List Byte)} (h : PutsAt w R a l) (hb : Below w.heap.size w w') : PutsAt w' R a l :=
  ⟨h.1, h.2.imp id fun ⟨b, off, e, hn, hc⟩ => ⟨b, off, e, hn, fun k hk => by obtain ⟨da, dc, c⟩ := hc k hk; exact ⟨da, dc, keepc hb c.c0, keepc hb c.c1, c.bys.below hb, c.out, c.wf⟩⟩⟩
theorem PutsAt.only {w w' : World} {R : List Nat} {a : Option Addr} {l : List (Int × List Byte)} (h : PutsAt w R a l) (ho : Only R w w') : PutsAt w' R a l :=
  ⟨h.1, h.2.imp id fun ⟨b, off, e, hn, hc⟩ => ⟨b, off, e, hn, fun k hk => by obtain ⟨da, dc, c⟩ := hc k hk; exact ⟨da, dc, ho.cell hn c.c0, ho.cell hn c.c1, c.bys.only ho c.out, c.out, c.wf⟩⟩⟩
theorem PutsAt.at_lt {w : World} {R : List Nat} {a : Option Addr} {l : List (Int × List Byte)} (h : PutsAt w R a l) {k : Nat} (hk : k < l.length) : ∃ b off, a = some ⟨b, off, none⟩ ∧ ∃ da dc, PutAt w R b (off + k * 2) l[k] da dc := by
  rcases h.2 with rfl | ⟨b, off, e, hn, hc⟩
  · simp at hk
  · exact ⟨b, off, e, hc k hk⟩
theorem putsE_cons (bl : Nat) (seen : List Int) (x : Int × List Byte) (l : List (Int × List Byte)) : putsE bl seen (x :: l) = if x.1 < 0 ∨ (bl : Int) ≤ x.1 then 9 else if x.2.length ≠ 48 ∨ x.1 ∈ seen then 2 else putsE bl (seen ++ [x.1]) l := rfl
theorem putsE_append (bl : Nat) : ∀ (l r : List (Int × List Byte)) (seen : List Int), putsE bl seen (l ++ r) = if putsE bl seen l ≠ 0 then putsE bl seen l else putsE bl (seen ++ l.map (·.1)) r := by
  intro l
  induction l with
  | nil => intro r seen; simp [putsE]
  | cons x l ih =>
    intro r seen
    rw [List.cons_append, putsE_cons, putsE_cons]
    by_cases h1 : x.1 < 0 ∨ (bl : Int) ≤ x.1
    · rw [if_pos h1, if_pos h1]; simp
    · rw [if_neg h1, if_neg h1]
      by_cases h2 : x.2.length ≠ 48 ∨ x.1 ∈ seen
      · rw [if_pos h2, if_pos h2]; simp
      · rw [if_neg h2, if_neg h2, ih]
        simp [List.append_assoc]
theorem putsE_at {bl : Nat} {l : List (Int × List Byte)} {k : Nat} (hk : k < l.length) (h0 : putsE bl [] (l.take k) = 0) :
    (l[k].1 < 0 ∨ (bl : Int) ≤ l[k].1 → putsE bl [] l = 9) ∧ (¬ (l[k].1 < 0 ∨ (bl : Int) ≤ l[k].1) → (l[k].2.length ≠ 48 ∨ l[k].1 ∈ (l.take k).map (·.1)) → putsE bl [] l = 2) ∧
    (¬ (l[k].1 < 0 ∨ (bl : Int) ≤ l[k].1) → ¬ (l[k].2.length ≠ 48 ∨ l[k].1 ∈ (l.take k).map (·.1)) → putsE bl [] (l.take (k + 1)) = 0) := by
  have e : l = l.take k ++ (l[k] :: l.drop (k + 1)) := by rw [← List.drop_eq_getElem_cons hk, List.take_append_drop]
  have e1 := putsE_append bl (l.take k) (l[k] :: l.drop (k + 1)) []
  rw [← e, h0] at e1
  simp only [ne_eq, not_true_eq_false, if_false, List.nil_append] at e1
  have e2 := putsE_append bl (l.take k) [l[k]] []
  rw [← List.take_succ_eq_append_getElem hk, h0] at e2
  simp only [ne_eq, not_true_eq_false, if_false, List.nil_append] at e2
  rw [putsE_cons] at e1 e2
  refine ⟨fun h => by rw [e1, if_pos h], fun h1 h2 => by rw [e1, if_neg h1, if_pos h2], fun h1 h2 => by rw [e2, if_neg h1, if_neg h2]; rfl⟩
/-- What is right of puts that are. -/
theorem putsE_right {bl : Nat} : ∀ (l : List (Int × List Byte)) (seen : List Int), putsE bl seen l = 0 → ∀ x ∈ l, 0 ≤ x.1 ∧ x.1 < bl ∧ x.2.length = 48 := by
  intro l
  induction l with
  | nil => intro seen _ x hx; cases hx
  | cons y l ih =>
    intro seen h x hx
    unfold putsE at h
    by_cases h1 : y.1 < 0 ∨ (bl : Int) ≤ y.1
    · rw [if_pos h1] at h; cases h
    · rw [if_neg h1] at h
      by_cases h2 : y.2.length ≠ 48 ∨ y.1 ∈ seen
      · rw [if_pos h2] at h; cases h
      · rw [if_neg h2] at h
        rcases List.mem_cons.1 hx with rfl | hx
        · have : x.2.length = 48 := Classical.byContradiction fun hn => h2 (.inl hn)
          exact ⟨by omega, by omega, this⟩
        · exact ih _ h x hx
theorem blks_bound {bl : Nat} {l : List (Int × List Byte)} (h : putsE bl [] l = 0) : ∀ x ∈ blks l, x.1 < bl ∧ Flat x.2 := by
  intro x hx
  obtain ⟨y, hy, rfl⟩ := List.mem_map.1 hx
  obtain ⟨h1, h2, _⟩ := putsE_right l [] h y hy
  exact ⟨by show y.1.toNat < bl; omega, flat_blkOf _⟩
theorem again_iff {bl : Nat} {l : List (Int × List Byte)} (h : putsE bl [] l = 0) {z : Int} (hz : 0 ≤ z) : (pmap (putAll (fun _ => none) (blks l)) z).isSome = true ↔ z ∈ l.map (·.1) := by
  unfold pmap
  rw [if_pos hz, Option.isSome_map, putAll_some]
  simp only [Option.isSome_none, Bool.false_eq_true, or_false]
  unfold blks
  rw [List.map_map]
  constructor
  · intro hm
    obtain ⟨y, hy, e⟩ := List.mem_map.1 hm
    have := (putsE_right l [] h y hy).1
    exact List.mem_map.2 ⟨y, hy, by simp only [Function.comp] at e; omega⟩
  · intro hm
    obtain ⟨y, hy, e⟩ := List.mem_map.1 hm
    exact List.mem_map.2 ⟨y, hy, by simp only [Function.comp]; rw [e]⟩
theorem blks_take_succ {l : List (Int × List Byte)} {k : Nat} (hk : k < l.length) : blks (l.take (k + 1)) = blks (l.take k) ++ [(l[k].1.toNat, blkOf l[k].2)] := by
  unfold blks
  rw [List.take_succ_eq_append_getElem hk, List.map_append]
  rfl
theorem neg_none {f : Nat → Option Blk} {z : Int} (hz : z < 0) : pmap f z = none := by unfold pmap; rw [if_neg (by omega)]
section
variable {w w' : World} {j : JLoc} {q : PLoc} {J J' : Jn} {P P' : Pl}
theorem z100 : True := trivial
set_option maxRecDepth 10000 in
set_option maxHeartbeats 8000000 in
theorem commit_any (h : JP w j q J P) (hh : J.head < 4611686018427387904) (ht : J.turn < 4611686018427387904) (a : Option Addr) (l : List (Int × List Byte)) (n cap : Nat) (hn : l.length = n) (hl : PutsAt w (j.R q) a l) :
    Calls Tryz.prog 7 #[jv j, .slice a n cap] w fun e w' => e = .returned (.int .i64 (commitE P J l)) ∧ JP w' j q (commitJ P J l) (commitP P J l) ∧ Only (j.R q) w w' := by
  have hm := jmay_any h
  unfold jmay at hm
  have hmap := @run_makeMap Tryz.prog
  have hl1 := hl.1
  cases hb : J.broken
  · rw [hb] at hm
    simp only [Bool.false_eq_true, if_false] at hm
    have HM := Lib.hid hm
    have hBB : J.blocks P.n = P.n - 2 - J.log := by unfold Jn.blocks; rw [hb]; simp
    obtain ⟨B, hB⟩ : ∃ B, B = J.blocks P.n := ⟨_, rfl⟩
    have hB4 : B ≤ 4096 := by have := h.pl.ok.most; omega
    have HB := Lib.hid hB
    have HBB : Hid (B = P.n - 2 - J.log) := Lib.hid (hB.trans hBB)
    have HBr := Lib.hid hb
    have HN := Lib.hid hn
    have hn4 : n ≤ 10000 := by omega
    have H := Lib.hid h
    have HPu := Lib.hid hl
    have HHd := Lib.hid hh
    have HTn := Lib.hid ht
    have HBad : Hid (badE P J l = if putsE B [] l ≠ 0 then putsE B [] l else if J.log - 1 < l.length then 7 else 0) := Lib.hid (by unfold badE; rw [hb, hB]; simp)
    clear hm h hb hB hBB hn hl hh ht hl1
    have fin : ∀ (w' : World) (e : Ending) (z : Int), badE P J l = z → (z ≠ 0 ∨ l.length = 0) → e = .returned (.int .i64 z) → JP w' j q J P → Only (j.R q) w w' → e = .returned (.int .i64 (commitE P J l)) ∧ JP w' j q (commitJ P J l) (commitP P J l) ∧ Only (j.R q) w w' := by
      intro w' e z hz h0 he hj ho
      have hnn : J.nothing P l = true := by
        unfold Jn.nothing
        rw [hz]
        rcases h0 with h0 | h0
        · simp [h0]
        · simp [h0]
      unfold commitE commitJ commitP
      rw [hnn, hz]
      exact ⟨he, hj, ho⟩
    have HFin := Lib.hid fin
    clear fin
    go_enter Tryz.func7, Tryz.ntmps7
    go_wp2_with fail
    refine Calls.mono HM.out ?_
    rintro e w' ⟨rfl, rfl⟩
    go_wp2_with fail
    go_loopw [25] (fun i wr => ∃ k : Nat, k ≤ n ∧ i = .int .i64 k ∧ Hid (putsE B [] (l.take k) = 0) ∧ Hid (IM EB wr w.heap.size (pmap (putAll (fun _ => none) (blks (l.take k))))) ∧ Hid (Below w.heap.size w wr)) (fun i _ => n - (RowKit.intOf i).toNat)
    case atStart => exact ⟨0, Nat.zero_le _, rfl, Lib.hid rfl, Lib.hid (by have := IM.new EB w; rw [← pmap_none] at this; exact this), Lib.hid (Below.new _ _)⟩
    case round =>
      obtain ⟨k, hk, rfl, HE0, HIm, HBw⟩ := hrel
      by_cases hlt : k < n
      · have hkl : k < l.length := by have := HN.out; omega
        obtain ⟨pe1, pe2, pe3⟩ := putsE_at hkl HE0.out
        obtain ⟨pb, off, rfl, da, dc, hpu⟩ := (HPu.out.below HBw.out).at_lt hkl
        have hts := blks_take_succ hkl
        obtain ⟨x, hx⟩ : ∃ x, x = l[k] := ⟨_, rfl⟩
        rw [← hx] at pe1 pe2 pe3 hpu hts
        have c0 := hpu.c0
        have c1 := hpu.c1
        have hwf := hpu.wf
        have HBys := Lib.hid hpu.bys
        have PE1 := Lib.hid pe1
        have PE2 := Lib.hid pe2
        have PE3 := Lib.hid pe3
        have HTs := Lib.hid hts
        clear pe1 pe2 pe3 hpu hx hts hkl
        go_upto_region 8 with (fail)
        obtain ⟨w3, hw3⟩ : ∃ y, y = wr.alloc (.cells #[.int .i64 x.1, .slice da x.2.length dc] 39) := ⟨_, rfl⟩
        obtain ⟨g8, hg8⟩ : ∃ y, y = wr.heap.size := ⟨_, rfl⟩
        have r0 : w3.cell? ⟨g8, 0, none⟩ = some (.int .i64 x.1) := by rw [hw3, hg8, cell_new]; rfl
        have r1 : w3.cell? ⟨g8, 1, none⟩ = some (.slice da x.2.length dc) := by rw [hw3, hg8, cell_new]; rfl
        have hb3 : Below wr.heap.size wr w3 := by rw [hw3]; exact Below.new _ _
        have him3 := HIm.out.block (hb3.block _ HIm.out.lt)
        have hlk : ∃ bx ag, (Instr.lookup 31 (.map (some w.heap.size)) (.int .i64 x.1) true).run Tryz.prog w3 = .ok (.tuple #[.agg (blkL bx).toArray, .bool ag]) w3 ∧ ag = (pmap (putAll (fun _ => none) (blks (l.take k))) x.1).isSome := by
          have hl := him3.look (t := 31) (e := 48) true Tryz.underlying31 (zero112 _) (x := x.1) hwf
          cases hmx : pmap (putAll (fun _ => none) (blks (l.take k))) x.1 with
          | none => rw [hmx] at hl; exact ⟨zeroB, false, hl, rfl⟩
          | some v =>
            rw [hmx] at hl
            obtain ⟨bx, _, rfl⟩ := him3.has hmx
            exact ⟨bx, true, hl, rfl⟩
        obtain ⟨bx, ag, hlk, hag⟩ := hlk
        have HAg := Lib.hid hag
        have HB3 := Lib.hid hb3
        have HIm3 := Lib.hid him3
        rw [← hw3, ← hg8]
        clear hw3 hg8 hb3 him3 hag c0 c1
        go_upto_region 9 with (fail)
        obtain ⟨w4, hw4⟩ : ∃ y, y = w3.alloc (.cells (blkL bx).toArray 48) := ⟨_, rfl⟩
        have hb4 : Below w3.heap.size w3 w4 := by rw [hw4]; exact Below.new _ _
        rw [← hw4]
        replace r0 := keepc hb4 r0
        replace r1 := keepc hb4 r1
        have HB4w := Lib.hid (Below.step (Below.step HBw.out HB3.out) hb4)
        have HBys4 := Lib.hid (HBys.out.below (Below.step HB3.out hb4))
        have HIm4 := Lib.hid (HIm3.out.block (hb4.block _ HIm3.out.lt))
        have HJ4 := Lib.hid (H.out.below HB4w.out)
        have HO4 := Lib.hid (Only.of_below (R := j.R q) HB4w.out)
        have HBl : Hid (∀ k, Calls Tryz.prog 5 #[jv j] (w4.drewN k) fun e w' => e = .returned (.int .i64 B) ∧ ∃ n, w' = w4.drewN n) := Lib.hid fun k => by
          refine Calls.mono (jblocks_any (HJ4.out.drewN k)) ?_
          rintro e w' ⟨rfl, nq, rfl⟩
          exact ⟨by rw [HB.out], k + nq, by simp [World.drewN, Nat.add_assoc]⟩
        clear hlk hw4 hb4 HIm HBw HB3 HIm3 HBys
        by_cases hz : x.1 < 0
        · have HPe := Lib.hid (PE1.out (.inl hz))
          clear PE1 PE2 PE3
          go_quiet (fail)
          go_wp2
          go_ret
          exact HFin.out _ _ 9 (by rw [HBad.out, HPe.out]; rfl) (.inl (by decide)) rfl (HJ4.out.drewN _) (HO4.out.drewN _)
        · by_cases hz2 : (B : Int) ≤ x.1
          · have HPe := Lib.hid (PE1.out (.inr hz2))
            clear PE1 PE2 PE3
            go_quiet ((go_at_call 5; exact HBl.out _))
            go_wp2
            go_ret
            exact HFin.out _ _ 9 (by rw [HBad.out, HPe.out]; rfl) (.inl (by decide)) rfl (HJ4.out.drewN _) (HO4.out.drewN _)
          · have hno : ¬ (x.1 < 0 ∨ (B : Int) ≤ x.1) := by omega
            have hagn : ag = true ↔ x.1 ∈ (l.take k).map (·.1) := by rw [HAg.out]; exact again_iff HE0.out (by omega)
            by_cases hlen : x.2.length = 48
            · cases ag
              · have HPe := Lib.hid (PE3.out hno (fun hh => by rcases hh with hh | hh; exact hh hlen; have := hagn.2 hh; cases this))
                have HLen := Lib.hid hlen
                rw [hlen] at r1
                clear PE1 PE2 PE3 hagn hno HAg
                go_quiet ((go_at_call 5; exact HBl.out _))
                go_upto_region 13 with (fail)
                generalize hw5 : w4.drewN _ = w5
                have hb5 : Below w4.heap.size w4 w5 := by rw [← hw5]; exact below_drewN (Below.refl _ _) _
                obtain ⟨pb2, off2, rfl, _, _⟩ := HBys4.out.at_lt (i := 0) (by omega)
                replace r0 := keepc hb5 r0
                replace r1 := keepc hb5 r1
                have hrow := (HBys4.out.below hb5).row48 hlen
                have hix := hrow.is (blkL_length _)
                have hcl := hrow.cells (blkL_length _)
                have hat := arrayAt112 w5.drew ⟨pb2, off2, none⟩ dc
                have him5 := HIm4.out.block (hb5.block _ HIm4.out.lt)
                have hj5 := HJ4.out.below hb5
                obtain ⟨w8, hmu, hm8, hg8⟩ := (him5.block (w' := w5.drew) rfl).store (t := 31) (e := 48) (N := B) Tryz.underlying31 (pmap_bound (putAll_ok (n := B) (fun _ _ => rfl) (fun _ _ e => by cases e) (blks_bound HE0.out)).1) (by unfold maxLen; omega) (x := x.1) (v := blkV (blkOf x.2)) hwf ⟨_, flat_blkOf _, rfl⟩
                have HIm8 : Hid (IM EB w8 w.heap.size (pmap (putAll (fun _ => none) (blks (l.take (k + 1)))))) := Lib.hid (by
                  rw [HTs.out, putAll_snoc, pmap_upd, Int.toNat_of_nonneg (by omega)]
                  exact hm8)
                have HB8 := Lib.hid (((Below.step HB4w.out hb5).drew).grown hg8 (Below.step HB4w.out hb5).size (fun k hk => by cases hk; exact Nat.le_refl _))
                clear hw5 hb5 hrow him5 hj5 hm8 hg8 hlen
                go_region
                go_wp2
                go_roundw
                case rel => exact ⟨k + 1, by omega, by go_num, HPe, HIm8, HB8⟩
                case measure => simp [RowKit.intOf]; omega
              · have HPe := Lib.hid (PE2.out hno (.inr (hagn.1 rfl)))
                rw [hlen] at r1
                clear PE1 PE2 PE3 hagn hno HAg
                go_quiet ((go_at_call 5; exact HBl.out _))
                go_wp2
                go_ret
                exact HFin.out _ _ 2 (by rw [HBad.out, HPe.out]; rfl) (.inl (by decide)) rfl (HJ4.out.drewN _) (HO4.out.drewN _)
            · have HPe := Lib.hid (PE2.out hno (.inl hlen))
              obtain ⟨m, hm⟩ : ∃ m, m = x.2.length := ⟨_, rfl⟩
              rw [← hm] at r1
              have hq : ((m : Int) != 48) = true := by rw [bne_iff_ne]; omega
              clear PE1 PE2 PE3 hagn hno HAg hlen hm
              go_quiet ((go_at_call 5; exact HBl.out _))
              go_wp2
              go_ret
              exact HFin.out _ _ 2 (by rw [HBad.out, HPe.out]; rfl) (.inl (by decide)) rfl (HJ4.out.drewN _) (HO4.out.drewN _)
      · obtain rfl : k = n := by omega
        have e0 : l.take k = l := List.take_of_length_le (by have := HN.out; omega)
        rw [e0] at HE0 HIm
        have HLk : Hid (l.length = k) := HN
        have hj := H.out.below HBw.out
        have c1 := hj.jn.c1
        have hL4 : J.log ≤ 4096 := by have := hj.pl.ok.most; have := hj.ok.logn; omega
        have hl2 := hj.ok.log2
        obtain ⟨L, hL⟩ : ∃ L, L = J.log := ⟨_, rfl⟩
        rw [← hL] at c1 hL4 hl2 HBad
        have HL := Lib.hid hL
        have HJ := Lib.hid hj
        have HPu1 := Lib.hid (HPu.out.below HBw.out)
        have HO1 := Lib.hid (Only.of_below (R := j.R q) HBw.out)
        have HBad2 : Hid (badE P J l = if L - 1 < k then 7 else 0) := Lib.hid (by rw [HBad.out, HE0.out, HLk.out]; simp)
        clear hj hL e0 HBad HN HPu HBw
        have HBl : Hid ((blks l).length = k) := Lib.hid (by unfold blks; rw [List.length_map]; exact HLk.out)
        have HBB2 : Hid (∀ x ∈ blks l, x.1 < B ∧ Flat x.2) := Lib.hid (blks_bound HE0.out)
        obtain ⟨bl, hbl⟩ : ∃ bl, bl = blks l := ⟨_, rfl⟩
        rw [← hbl] at HBl HIm HBB2
        have HbE := Lib.hid hbl
        have HRt := Lib.hid (putsE_right l [] HE0.out)
        clear hbl HE0
        go_upto_block 3 with (fail)
        go_cut [] from 66 to 85 (fun wx => ∃ (J1 : Jn) (P1 : Pl), Hid (JP wx j q J1 P1) ∧ Hid (Only (j.R q) wr wx) ∧ Hid (J1.broken = false ∧ J1.log = L ∧ J1.turn = J.turn ∧ J1.used + k + 1 ≤ L) ∧ Hid (P.n = P1.n) ∧
          Hid (commitE P J l = runE (J1.writeW bl) P1 ∧ commitP P J l = runP (J1.writeW bl) P1 ∧ commitJ P J l = if runE (J1.writeW bl) P1 ≠ 0 then J1.brk else J1.wrote bl))
        case first =>
          by_cases hfull : L - 1 < k
          · have hfi : (L : Int) - 1 < (k : Int) := by omega
            go_wp2_with fail
            go_ret
            exact HFin.out _ _ 7 (by rw [HBad2.out, if_pos hfull]) (.inl (by decide)) rfl HJ.out HO1.out
          · have hfi : ¬ ((L : Int) - 1 < (k : Int)) := by omega
            by_cases h0 : k = 0
            · have h0i : ((k : Int) == 0) = true := by rw [h0]; rfl
              have HK0 := Lib.hid h0
              clear h0
              go_wp2_with fail
              go_ret
              exact HFin.out _ _ 0 (by rw [HBad2.out, if_neg hfull]) (.inr (HLk.out.trans HK0.out)) rfl HJ.out HO1.out
            · have h0i : ((k : Int) == 0) = false := by rw [beq_eq_false_iff_ne]; omega
              have HNo : Hid (J.nothing P l = false) := Lib.hid (by
                unfold Jn.nothing
                rw [HBad2.out, if_neg hfull, HLk.out]
                simp [h0])
              have HRm : Hid (k + 1 ≤ L) := Lib.hid (by omega)
              clear HFin HBad2
              have HFr := Lib.hid (jfree_any HJ.out)
              obtain ⟨fr, hfr⟩ : ∃ fr, fr = J.free := ⟨_, rfl⟩
              rw [← hfr] at HFr
              go_wp2_with fail
              refine Calls.mono HFr.out ?_
              rintro e w5 ⟨rfl, nq, rfl⟩
              by_cases htt : fr < k
              · have hti : (fr : Int) < (k : Int) := by omega
                have HTi : Hid (J.tight bl.length = true) := Lib.hid (by unfold Jn.tight; rw [HBl.out, ← hfr]; simpa using htt)
                clear hfr htt
                have HCl : Hid (∀ n, Calls Tryz.prog 8 #[jv j] (wr.drewN n) fun e w' => e = .returned (.int .i64 (clearE P J)) ∧ JP w' j q (clearJ P J) (clearP P J) ∧ Only (j.R q) (wr.drewN n) w') := Lib.hid fun n => clear_any (HJ.out.drewN n) HHd.out
                by_cases hce : clearE P J = 0
                · rw [hce] at HCl
                  have HCe := Lib.hid hce
                  clear hce
                  go_wp2_with fail
                  refine Calls.mono (HCl.out nq) ?_
                  rintro e w6 ⟨rfl, hj6, ho6⟩
                  have HJ6 := Lib.hid hj6
                  have HO6 := Lib.hid ho6
                  clear hj6 ho6
                  go_wp2
                  go_meet
                  have hcj : clearJ P J = J.cleared := by
                    have h1 := HCe.out
                    unfold clearE at h1
                    unfold clearJ
                    rw [HBr.out] at h1 ⊢
                    simp only [Bool.false_eq_true, if_false] at h1 ⊢
                    rw [h1]; simp
                  refine ⟨J.cleared, clearP P J, Lib.hid (by rw [← hcj]; exact HJ6.out), Lib.hid ((Only.of_below (below_drewN (Below.refl _ _) _)).trans HO6.out), Lib.hid ⟨HBr.out, HL.out.symm, rfl, by show 0 + k + 1 ≤ L; have := HRm.out; omega⟩, Lib.hid (by unfold clearP; rw [HBr.out]; exact (runP_n _ _).symm), Lib.hid ?_⟩
                  unfold commitE commitP commitJ
                  rw [HNo.out, ← HbE.out]
                  unfold putE putP putJ
                  rw [HTi.out, HCe.out]
                  simp
                · obtain ⟨z, hz⟩ : ∃ z, z = clearE P J := ⟨_, rfl⟩
                  have hzq : (z != 0) = true := ne_zero_bne (hz ▸ hce)
                  rw [← hz] at HCl
                  have HCe := Lib.hid hce
                  have HZ := Lib.hid hz
                  clear hce hz
                  go_wp2_with fail
                  refine Calls.mono (HCl.out nq) ?_
                  rintro e w6 ⟨rfl, hj6, ho6⟩
                  have HJ6 := Lib.hid hj6
                  have HO6 := Lib.hid ho6
                  clear hj6 ho6
                  go_wp2
                  go_ret
                  have hcj : clearJ P J = J.brk := by
                    have h1 := HCe.out
                    unfold clearE at h1
                    unfold clearJ
                    rw [HBr.out] at h1 ⊢
                    simp only [Bool.false_eq_true, if_false] at h1 ⊢
                    rw [if_pos h1]
                  have hO6 : Only (j.R q) w w6 := HO1.out.trans ((Only.of_below (below_drewN (Below.refl _ _) _)).trans HO6.out)
                  have hJ6 := HJ6.out
                  rw [hcj] at hJ6
                  unfold commitE commitP commitJ
                  rw [HNo.out, ← HbE.out]
                  unfold putE putP putJ
                  rw [HTi.out]
                  simp only [Bool.false_eq_true, if_false, if_true]
                  rw [if_pos HCe.out, if_pos HCe.out, if_pos HCe.out, ← HZ.out]
                  exact ⟨rfl, hJ6, hO6⟩
              · have hti : ¬ ((fr : Int) < (k : Int)) := by omega
                have HTi : Hid (J.tight bl.length = false) := Lib.hid (by unfold Jn.tight; rw [HBl.out, ← hfr]; simpa using htt)
                have HUs : Hid (J.used + k + 1 ≤ L) := Lib.hid (by
                  have h1 := hfr
                  unfold Jn.free at h1
                  rw [HBr.out] at h1
                  simp only [Bool.false_eq_true, if_false] at h1
                  have h2 := HL.out
                  omega)
                clear hfr htt
                go_wp2
                go_meet
                refine ⟨J, P, Lib.hid (HJ.out.drewN nq), Lib.hid (Only.of_below (below_drewN (Below.refl _ _) _)), Lib.hid ⟨HBr.out, HL.out.symm, rfl, HUs.out⟩, Lib.hid rfl, Lib.hid ?_⟩
                unfold commitE commitP commitJ
                rw [HNo.out, ← HbE.out]
                unfold putE putP putJ
                rw [HTi.out]
                simp
        case rest =>
          obtain ⟨J1, P1, HJ1, HO2, HF1, HPn, HC1⟩ := hcut
          have hsN : w.heap.size ∉ j.R q := fun hm => Nat.lt_irrefl _ (H.out.lt _ hm)
          have HIm1 := Lib.hid (HIm.out.block (HO2.out.block _ HIm.out.lt hsN))
          have HPu2 := Lib.hid (HPu1.out.only HO2.out)
          have HOw := Lib.hid (HO1.out.trans HO2.out)
          have HSp : Hid (w.heap.size ≠ j.p) := Lib.hid (Nat.ne_of_gt H.out.jn.ltP)
          have HSm : Hid (w.heap.size ≠ j.m) := Lib.hid (Nat.ne_of_gt H.out.jn.mp.lt)
          have hT4 := HJ1.out.ok.turn
          have hk4 : k ≤ 4096 := by have := HF1.out.2.2.2; omega
          obtain ⟨tn, htn⟩ : ∃ tn, tn = J1.turn := ⟨_, rfl⟩
          rw [← htn] at hT4
          have HTE := Lib.hid htn
          clear htn hsN HO1 HO2 HPu1 HIm HJ HFin HBad2
          go_wp2_with fail
          go_loopw [13, 88] (fun v i wr => ∃ k2 : Nat, k2 ≤ k ∧ i = .int .i64 k2 ∧ ∃ a' c', v = .slice a' k2 c' ∧ Hid (OwnW wr j q wc.heap.size (.slice a' k2 c') ((J1.entriesW bl).take k2)) ∧ Hid (Below wc.heap.size wc wr)) (fun _ i _ => k - (RowKit.intOf i).toNat)
          case atStart => exact ⟨0, Nat.zero_le _, rfl, none, 0, rfl, Lib.hid (OwnW.nil _ _ _ _), Lib.hid (Below.refl _ _)⟩
          case round =>
            obtain ⟨k2, hk2, rfl, a', c', rfl, HOn, HBn⟩ := hrel
            by_cases hlt : k2 < k
            · have hkl : k2 < l.length := by have := HLk.out; omega
              obtain ⟨pb, off, rfl, da, dc, hpu⟩ := HPu2.out.at_lt hkl
              obtain ⟨pz1, pz2, pz3⟩ := HRt.out _ (List.getElem_mem hkl)
              have hen : (J1.entriesW bl).take (k2 + 1) = (J1.entriesW bl).take k2 ++ [Wk.wr (J1.place k2) (packS ⟨2, J1.turn, (l[k2].1.toNat : Int), blkOf l[k2].2⟩)] := by
                have hlen : (J1.entriesW bl).length = k := by unfold Jn.entriesW; rw [List.length_map, List.length_range]; exact HBl.out
                rw [List.take_succ_eq_append_getElem (by omega)]
                congr 2
                unfold Jn.entriesW entrySct
                rw [List.getElem_map, List.getElem_range, List.getD_eq_getElem?_getD, HbE.out]
                unfold blks
                rw [List.getElem?_map, List.getElem?_eq_getElem hkl]
                rfl
              obtain ⟨x, hx⟩ : ∃ x, x = l[k2] := ⟨_, rfl⟩
              rw [← hx] at hpu pz1 pz2 pz3 hen
              obtain ⟨i, hi⟩ : ∃ i : Nat, x.1 = (i : Int) := ⟨x.1.toNat, by omega⟩
              have c0 := hpu.c0
              have c1 := hpu.c1
              rw [hi] at c0
              rw [pz3] at c1
              have hit : x.1.toNat = i := by omega
              rw [hit, ← HTE.out] at hen
              have HEn := Lib.hid hen
              have hi4 : i ≤ 8192 := by omega
              obtain ⟨pb2, off2, rfl, hpb2, _⟩ := hpu.bys.at_lt (i := 0) (by omega)
              obtain ⟨db, hdb⟩ : ∃ db, db = blkOf x.2 := ⟨_, rfl⟩
              have hrow0 : RowAt wc ⟨pb2, off2, none⟩ (blkL db) := by rw [hdb]; exact hpu.bys.row48 pz3
              rw [← hdb] at HEn
              have HLen : Hid (((J1.entriesW bl).take k2).length = k2) := Lib.hid (by unfold Jn.entriesW; rw [List.length_take, List.length_map, List.length_range, HBl.out]; omega)
              obtain ⟨ws, hws⟩ : ∃ ws, ws = (J1.entriesW bl).take k2 := ⟨_, rfl⟩
              rw [← hws] at HOn HEn HLen
              obtain ⟨w3, hw3⟩ : ∃ y, y = wr.alloc (.cells #[.int .i64 (i : Int), .slice (some ⟨pb2, off2, none⟩) 48 dc] 39) := ⟨_, rfl⟩
              obtain ⟨g15, hg15⟩ : ∃ y, y = wr.heap.size := ⟨_, rfl⟩
              have hbox : w3.heap[g15]? = some (.cells #[.int .i64 (i : Int), .slice (some ⟨pb2, off2, none⟩) 48 dc] 39 (0, 0)) := by rw [hw3, hg15]; exact heap_alloc_new _ _
              have hb3 : Below wr.heap.size wr w3 := by rw [hw3]; exact Below.new _ _
              have MK : Hid (∀ w', Below wc.heap.size wc w' → w'.heap[g15]? = some (.cells #[.int .i64 (i : Int), .slice (some ⟨pb2, off2, none⟩) 48 dc] 39 (0, 0)) → w'.cell? ⟨j.p, 5, none⟩ = some (.int .i64 (tn : Int)) ∧ w'.cell? ⟨g15, 0, none⟩ = some (.int .i64 (i : Int)) ∧ w'.cell? ⟨g15, 1, none⟩ = some (.slice (some ⟨pb2, off2, none⟩) 48 dc) ∧ IsRow 48 w' ⟨pb2, off2, none⟩ ∧ cellL 48 w' ⟨pb2, off2, none⟩ = blkL db) := Lib.hid fun w' hb hg => by
                have hr := hrow0.below hb hpb2
                exact ⟨by rw [HTE.out]; exact (HJ1.out.below hb).jn.c5, by rw [cell_of_row _ _ _ _ _ _ hg]; rfl, by rw [cell_of_row _ _ _ _ _ _ hg]; rfl, hr.is (blkL_length _), hr.cells (blkL_length _)⟩
              have HPl : Hid (∀ w', Below wc.heap.size wc w' → Calls Tryz.prog 20 #[jv j, .int .i64 (k2 : Int)] w' fun e w'' => e = .returned (.int .i64 (J1.place k2 : Nat)) ∧ ∃ n, w'' = w'.drewN n) := Lib.hid fun w' hb => jplace_any (HJ1.out.below hb) k2 (by omega)
              have HWr : Hid (∀ w', Below wc.heap.size wc w' → Calls Tryz.prog 19 #[jv j, .int .i64 (J1.place k2 : Nat), .agg (.int .i64 2 :: .int .i64 (tn : Int) :: .int .i64 (i : Int) :: blkL db).toArray] w' fun e w'' => ∃ cp, e = .returned (.func (.func 52) #[] cp) ∧ WkV w'' j q (.wr (J1.place k2) (packS ⟨2, tn, i, db⟩)) (.func (.func 52) #[] cp) ∧ Below w'.heap.size w' w'') := Lib.hid fun w' hb =>
                write72z (HJ1.out.below hb) _ (J1.place k2) rfl 2 tn i db ⟨by show (-9223372036854775808 : Int) ≤ 2 ∧ (2 : Int) ≤ _; omega, by show (-9223372036854775808 : Int) ≤ tn ∧ (tn : Int) ≤ _; omega, by show (-9223372036854775808 : Int) ≤ i ∧ (i : Int) ≤ _; omega⟩
              have HOn3 := Lib.hid (HOn.out.below hb3)
              have hS : Below wc.heap.size wc w3 := Below.step HBn.out hb3
              have hG : w3.heap[g15]? = some (.cells #[.int .i64 (i : Int), .slice (some ⟨pb2, off2, none⟩) 48 dc] 39 (0, 0)) := hbox
              have hGd : w3.drew.heap[g15]? = some (.cells #[.int .i64 (i : Int), .slice (some ⟨pb2, off2, none⟩) 48 dc] 39 (0, 0)) := hbox
              replace c0 := keepc HBn.out c0
              replace c1 := keepc HBn.out c1
              obtain ⟨S0, S1, S2, S3, S4⟩ := MK.out w3 hS hG
              have hat := arrayAt112
              have HPw := Lib.hid hpb2
              clear hpu pz1 pz2 pz3 hen hit hdb hrow0 hws hbox hb3 hx hi hkl HOn hpb2
              go_upto_region 28 with (fail)
              rw [← hw3, ← hg15]
              clear hw3 hg15 c0 c1
              obtain ⟨T, hT⟩ : ∃ T : TypeId, T = 48 := ⟨_, rfl⟩
              rw [show Op.load 48 (Operand.tmp 106) = Op.load T (Operand.tmp 106) by rw [hT]]
              have HT := Lib.hid hT
              clear hT
              go_region_held_law (fun w' => w'.cell? ⟨j.p, 5, none⟩ = some (.int .i64 (tn : Int)) ∧ w'.cell? ⟨g15, 0, none⟩ = some (.int .i64 (i : Int)) ∧ w'.cell? ⟨g15, 1, none⟩ = some (.slice (some ⟨pb2, off2, none⟩) 48 dc) ∧ IsRow 48 w' ⟨pb2, off2, none⟩ ∧ cellL 48 w' ⟨pb2, off2, none⟩ = blkL db)
                (first | with_reducible exact MK.out _ hS hG | with_reducible exact MK.out _ hS.drew hGd | with_reducible exact MK.out _ (below_base hS hS.size (Below.new _ _)) ((heap_alloc_lt (lt_of_heap hG)).trans hG))
                ((first
                | ((try go_simp); go_at_call 20; ((with_reducible refine Calls.mono (HPl.out _ ?_) ?_); (first | with_reducible exact hS | with_reducible exact hS.drew); rintro e w4 ⟨rfl, hz⟩; have hS0 := hS; have hG0 := hG; have HOw1 : Hid (OwnW w4 j q wc.heap.size (.slice a' k2 c') ws) := Lib.hid (by obtain ⟨nq, rfl⟩ := hz; first | exact HOn3.out.below (below_drewN (Below.refl _ _) nq) | exact HOn3.out.below (below_drewN (Below.refl _ _).drew nq)); have hS : Below wc.heap.size wc w4 := (by obtain ⟨nq, rfl⟩ := hz; first | exact below_drewN hS0 nq | exact below_drewN hS0.drew nq); have hG : w4.heap[g15]? = some (.cells #[.int .i64 (i : Int), .slice (some ⟨pb2, off2, none⟩) 48 dc] 39 (0, 0)) := (by obtain ⟨nq, rfl⟩ := hz; exact hG0); have hGd : w4.drew.heap[g15]? = some (.cells #[.int .i64 (i : Int), .slice (some ⟨pb2, off2, none⟩) 48 dc] 39 (0, 0)) := hG; clear hz hG0))
                | ((try go_simp); go_at_call 19; ((with_reducible refine Calls.mono (HWr.out _ ?_) ?_); (first | with_reducible exact hS | with_reducible exact hS.drew); rintro e w5 ⟨cp, rfl, hwk, hbe⟩; have hS0 := hS; have hG0 := hG; have hS : Below wc.heap.size wc w5 := (by first | exact below_base hS0 hS0.size hbe | exact below_base hS0.drew hS0.size hbe); have hG : w5.heap[g15]? = some (.cells #[.int .i64 (i : Int), .slice (some ⟨pb2, off2, none⟩) 48 dc] 39 (0, 0)) := hkeep hbe hG0; have hGd : w5.drew.heap[g15]? = some (.cells #[.int .i64 (i : Int), .slice (some ⟨pb2, off2, none⟩) 48 dc] 39 (0, 0)) := hG; have HOw2 : Hid (OwnW w5 j q wc.heap.size (.slice a' k2 c') ws) := Lib.hid (by first | exact HOw1.out.below hbe | exact HOw1.out.below ((Below.refl _ _).drew.trans hbe)); have HWk := Lib.hid hwk; clear hwk hbe hG0))
                | (refine step_append_wk (by rfl) _ _ (by rfl) wc.heap.size (.slice a' k2 c') ws k2 HLen.out (by rfl) (HOw2.out.below (by first | exact Below.new _ _ | exact (Below.new _ _).drew | exact (Below.refl _ _).drew.alloc (Nat.le_refl _) _)) w5.heap.size 1 [.func (.func 52) #[] cp] [Wk.wr (J1.place k2) (packS ⟨2, tn, i, db⟩)] (by rfl) (heap_alloc_new _ _) rfl rfl (by decide) (by intro k0 x0 u0 e1 e2; cases k0 with | zero => (simp only [List.getElem?_cons_zero, Option.some.injEq] at e1 e2; subst e1 e2; exact HWk.out.below (Below.new _ _)) | succ k0 => (simp at e1)) (by intro u hu; simp only [List.mem_singleton] at hu; subst hu; rfl) (by have := HLen.out; omega) (by have := hS.size; simp; omega) ?_; rintro v6 w6 ⟨g6, c6, rfl⟩ hown6 hb6 hkb6; have hS0 := hS; have hG0 := hG; have hS : Below wc.heap.size wc w6 := (by first | exact (below_base hS0 hS0.size (Below.new _ _)).trans hb6 | exact (below_base hS0 hS0.size (Below.new _ _)).drew.trans hb6 | exact (below_base hS0.drew hS0.size (Below.new _ _)).trans hb6); have hG : w6.heap[g15]? = some (.cells #[.int .i64 (i : Int), .slice (some ⟨pb2, off2, none⟩) 48 dc] 39 (0, 0)) := (hkb6 g15 _ 39 (by decide) ((heap_alloc_lt (lt_of_heap hG0)).trans hG0)).trans ((heap_alloc_lt (lt_of_heap hG0)).trans hG0); have HO6 := Lib.hid hown6; clear hown6 hb6 hkb6 hG0)))
              all_goals
                go_wp2_with fail
                go_roundw
                case rel => exact ⟨k2 + 1, by omega, by go_num, _, _, rfl, Lib.hid (by rw [HEn.out]; exact HO6.out), Lib.hid hS⟩
                case measure => simp [RowKit.intOf]; omega
            · obtain rfl : k2 = k := by omega
              have hlen : (J1.entriesW bl).length = k2 := by unfold Jn.entriesW; rw [List.length_map, List.length_range]; exact HBl.out
              have e0 : (J1.entriesW bl).take k2 = J1.entriesW bl := List.take_of_length_le (by omega)
              rw [e0] at HOn
              have HLen := Lib.hid hlen
              obtain ⟨s, hs⟩ : ∃ s : Sct, s = ⟨3, (tn : Int), (k2 : Int), zeroB⟩ := ⟨_, rfl⟩
              have HWW : Hid (J1.entriesW bl ++ [.fl, .wr (J1.place k2) (packS s), .fl] = J1.writeW bl) := Lib.hid (by
                unfold Jn.writeW endSct
                rw [hs, HBl.out, HTE.out])
              have HPl : Hid (∀ w', Below wc.heap.size wc w' → Calls Tryz.prog 20 #[jv j, .int .i64 (k2 : Int)] w' fun e w'' => e = .returned (.int .i64 (J1.place k2 : Nat)) ∧ ∃ n, w'' = w'.drewN n) := Lib.hid fun w' hb => jplace_any (HJ1.out.below hb) k2 (by omega)
              have HWr : Hid (∀ w', Below wc.heap.size wc w' → Calls Tryz.prog 19 #[jv j, .int .i64 (J1.place k2 : Nat), .agg (sctL ⟨3, (tn : Int), (k2 : Int), zeroB⟩).toArray] w' fun e w'' => ∃ cp, e = .returned (.func (.func 52) #[] cp) ∧ WkV w'' j q (.wr (J1.place k2) (packS s)) (.func (.func 52) #[] cp) ∧ Below w'.heap.size w' w'') := Lib.hid fun w' hb => by
                rw [hs]
                exact write72z (HJ1.out.below hb) _ (J1.place k2) rfl 3 tn k2 zeroB ⟨by show (-9223372036854775808 : Int) ≤ 3 ∧ (3 : Int) ≤ _; omega, by show (-9223372036854775808 : Int) ≤ tn ∧ (tn : Int) ≤ _; omega, by show (-9223372036854775808 : Int) ≤ k2 ∧ (k2 : Int) ≤ _; omega⟩
              have MK : Hid (∀ w', Below wc.heap.size wc w' → w'.cell? ⟨j.p, 0, none⟩ = some (pv q) ∧ w'.cell? ⟨j.p, 5, none⟩ = some (.int .i64 (tn : Int))) := Lib.hid fun w' hb => by
                have h2 := (HJ1.out.below hb).jn
                exact ⟨h2.c0, by rw [HTE.out]; exact h2.c5⟩
              have hmf : ∀ (fn : Fn) (first cap : Array Value) (w : World), (Instr.makeFunc fn first cap).run Tryz.prog w = .ok (.func fn first cap) w := fun _ _ _ _ => rfl
              have hS : Below wc.heap.size wc wr := HBn.out
              obtain ⟨S0, S1⟩ := MK.out wr hS
              obtain ⟨ws, hws⟩ : ∃ ws, ws = J1.entriesW bl := ⟨_, rfl⟩
              rw [← hws] at HOn HLen HWW
              have HK4 : Hid (k2 ≤ 4096) := Lib.hid hk4
              clear hlen e0 hs hws
              go_upto_region 30 with (fail)
              go_cut [13] from 113 to 138 (fun v13 wx => ∃ g6 c6, v13 = .slice (some ⟨g6, 0, none⟩) (k2 + 3) c6 ∧ Hid (OwnW wx j q wc.heap.size v13 (J1.writeW bl)) ∧ Hid (Below wc.heap.size wc wx))
              case first =>
                clear HM HPu2 HRt HC1 HIm1 HOw H HF1 HBB2
                go_region_held_law (fun w' => w'.cell? ⟨j.p, 0, none⟩ = some (pv q) ∧ w'.cell? ⟨j.p, 5, none⟩ = some (.int .i64 (tn : Int)))
                  (first | with_reducible exact MK.out _ hS | with_reducible exact MK.out _ hS.drew | with_reducible exact MK.out _ (below_base hS hS.size (Below.new _ _)))
                  ((first
                  | ((try go_simp); go_at_call 20; ((with_reducible refine Calls.mono (HPl.out _ ?_) ?_); (first | with_reducible exact hS | with_reducible exact hS.drew); rintro e w4 ⟨rfl, hz⟩; have hS0 := hS; have HOw1 : Hid (OwnW w4 j q wc.heap.size (.slice a' k2 c') ws) := Lib.hid (by obtain ⟨nq, rfl⟩ := hz; first | exact HOn.out.below (below_drewN (Below.refl _ _) nq) | exact HOn.out.below (below_drewN (Below.refl _ _).drew nq)); have hS : Below wc.heap.size wc w4 := (by obtain ⟨nq, rfl⟩ := hz; first | exact below_drewN hS0 nq | exact below_drewN hS0.drew nq); clear hz))
                  | ((try go_simp); go_at_call 19; ((with_reducible refine Calls.mono (HWr.out _ ?_) ?_); (first | with_reducible exact hS | with_reducible exact hS.drew); rintro e w5 ⟨cp, rfl, hwk, hbe⟩; have hS0 := hS; have hS : Below wc.heap.size wc w5 := (by first | exact below_base hS0 hS0.size hbe | exact below_base hS0.drew hS0.size hbe); have HOw2 : Hid (OwnW w5 j q wc.heap.size (.slice a' k2 c') ws) := Lib.hid (by first | exact HOw1.out.below hbe | exact HOw1.out.below ((Below.refl _ _).drew.trans hbe)); have HWk := Lib.hid hwk; clear hwk hbe))
                  | (refine step_append_wk (by rfl) _ _ (by rfl) wc.heap.size (.slice a' k2 c') ws k2 HLen.out (by rfl) (HOw2.out.below (by first | exact Below.new _ _ | exact (Below.new _ _).drew | exact (Below.refl _ _).drew.alloc (Nat.le_refl _) _)) w5.heap.size 3 [.func (.func 21) #[pv q] #[], .func (.func 52) #[] cp, .func (.func 21) #[pv q] #[]] [.fl, Wk.wr (J1.place k2) (packS s), .fl] (by rfl) (heap_alloc_new _ _) rfl rfl (by decide) (three_wk (HWk.out.below (Below.new _ _))) (by intro u hu; simp only [List.mem_cons, List.not_mem_nil, or_false] at hu; rcases hu with rfl | rfl | rfl <;> rfl) (by have := HLen.out; have := HK4.out; omega) (by have := hS.size; simp; omega) ?_; rintro v6 w6 ⟨g6, c6, rfl⟩ hown6 hb6 _; have hS0 := hS; have hS : Below wc.heap.size wc w6 := (by first | exact (below_base hS0 hS0.size (Below.new _ _)).trans hb6 | exact (below_base hS0 hS0.size (Below.new _ _)).drew.trans hb6 | exact (below_base hS0.drew hS0.size (Below.new _ _)).trans hb6); have HO6 := Lib.hid hown6; clear hown6 hb6)))
                all_goals
                  simp only [List.getElem_toArray, List.getElem_cons_succ, List.getElem_cons_zero, List.setIfInBounds_toArray, List.set_cons_zero, List.set_cons_succ]
                  go_wp2_with fail
                  go_meet
                  exact ⟨_, _, rfl, Lib.hid (by rw [← HWW.out]; exact HO6.out), Lib.hid hS⟩
              case rest =>
                obtain ⟨g6, c6, rfl, HO6, HB6⟩ := hcut
                have HJ6 := Lib.hid (HJ1.out.below HB6.out)
                obtain ⟨hlen6, hwk6⟩ := HO6.out.wks (fun b hb => HJ1.out.ltw hb) (by rw [← HWW.out]; have := HLen.out; simp; omega)
                have hw74 := works_any HJ6.out HF1.out.1 (some ⟨g6, 0, none⟩) (J1.writeW bl) (k2 + 3) c6 hlen6.symm hwk6
                have HIm6 := Lib.hid (HIm1.out.block (HB6.out.block _ HIm1.out.lt))
                have HOx := Lib.hid (HOw.out.trans (Only.of_below HB6.out))
                have HSl := Lib.hid HIm1.out.lt
                clear S0 S1 hS hlen6 hwk6 hmf HPl HWr MK
                unfold worksJ at hw74
                have HW74 := Lib.hid hw74
                clear hw74
                obtain ⟨EE, hEE⟩ : ∃ EE, EE = runE (J1.writeW bl) P1 := ⟨_, rfl⟩
                rw [← hEE] at HW74 HC1
                obtain ⟨Q, hQ⟩ : ∃ Q, Q = runP (J1.writeW bl) P1 := ⟨_, rfl⟩
                rw [← hQ] at HW74 HC1
                have HQn : Hid (Q.n = P1.n) := Lib.hid (by rw [hQ]; exact runP_n _ _)
                clear hEE hQ
                by_cases he : EE = 0
                · subst he
                  simp only [ne_eq, not_true_eq_false, if_false] at HW74 HC1
                  go_wp2_with fail
                  refine Calls.mono HW74.out ?_
                  rintro e w7 ⟨rfl, hj7, ho7⟩
                  have hs7 : w.heap.size ∉ j.R q := fun hm => Nat.lt_irrefl _ (H.out.lt _ hm)
                  have hBn : B = Q.n - 2 - J1.log := by
                    have h1 := HJ1.out.ok.logn
                    have h2 := HF1.out.2.1
                    rw [HBB.out, HQn.out, h2, ← HPn.out, HL.out]
                  have HW82 := Lib.hid (wrote_any hj7 (HIm6.out.block (ho7.block _ (Nat.lt_of_lt_of_le HSl.out HB6.out.size) hs7)) HSp.out HSm.out (l := bl) (by rw [← hBn]; exact HBB2.out) (by rw [HBl.out]; have := HF1.out; omega) (by have := HTn.out; have := HF1.out.2.2.1; omega))
                  rw [HBl.out] at HW82
                  have HO7 := Lib.hid (HOx.out.trans ho7)
                  clear hj7 ho7 hs7 hBn
                  go_wp2_with fail
                  refine Calls.mono HW82.out ?_
                  rintro e w8 ⟨⟨u, rfl⟩, hj8, ho8⟩
                  have HJ8 := Lib.hid hj8
                  have HO8 := Lib.hid (HO7.out.trans ho8)
                  clear hj8 ho8
                  go_wp2
                  go_ret
                  obtain ⟨x1, x2, x3⟩ := HC1.out
                  rw [x1, x2, x3]
                  exact ⟨rfl, HJ8.out, HO8.out⟩
                · have hzq : (EE != 0) = true := ne_zero_bne he
                  rw [if_pos he] at HW74 HC1
                  clear he
                  go_wp2_with fail
                  refine Calls.mono HW74.out ?_
                  rintro e w7 ⟨rfl, hj7, ho7⟩
                  have HJ7 := Lib.hid hj7
                  have HO7 := Lib.hid (HOx.out.trans ho7)
                  clear hj7 ho7
                  go_wp2
                  go_ret
                  obtain ⟨x1, x2, x3⟩ := HC1.out
                  rw [x1, x2, x3]
                  exact ⟨rfl, HJ7.out, HO7.out⟩
  · rw [hb] at hm
    simp only [if_true] at hm
    have HM := Lib.hid hm
    have HE : Hid (badE P J l = 50) := Lib.hid (by unfold badE; rw [hb]; simp)
    have H := Lib.hid h
    clear hm h hb hmap hl hl1
    go_enter Tryz.func7, Tryz.ntmps7
    go_wp2_with fail
    refine Calls.mono HM.out ?_
    rintro e w' ⟨rfl, rfl⟩
    go_wp2
    go_ret
    have hnn : J.nothing P l = true := by unfold Jn.nothing; rw [HE.out]; rfl
    unfold commitE commitJ commitP
    rw [hnn, HE.out]
    exact ⟨rfl, H.out, Only.refl _ _⟩
end
end Go.Proofs.YtdhidcoglioalaaGreat.Walks
