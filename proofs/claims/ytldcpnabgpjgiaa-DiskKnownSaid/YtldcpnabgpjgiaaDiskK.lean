/-
  The walks of the client's on, done, told.
-/
import Derived.Test.YtldcpnabgpjgiaaDiskJ
import Derived.Deep.RegionHeld3
namespace Go.Proofs.Ytldcpnabgpjgiaa.Walks
open Go.RowKit Plain
set_option linter.unusedVariables false
attribute [local go_sem] isPV_mk adV_mk cells_agg cells_agg' held_drew room_drew cellsAt_drew isA4_mk isSl_mk isI_mk intOf_mk
attribute [local go_sem ↓] exec_load88 exec_store88 exec_load81 exec_store81 exec_load90 exec_store90 Go.wp_at_zero Go.wp_at_succ exec_alloc81 exec_build81r exec_build81s exec_bs69

def KnownB (w0 w : World) (b : Bool) (v : Value) : Prop := v = .bool b ∧ Below w0.heap.size w0 w
set_option maxRecDepth 100000 in
set_option maxHeartbeats 4000000 in
theorem on_is (p r1 r2 N g : Nat) (c : Cl) (o : Ou) (w : World) (h : CliAt w p r1 r2 N c) (ho : OutAt w g o) (hs : 0 ≤ c.stamp ∧ c.stamp ≤ 1000000) (hk : Wf (chunkC c)) (hg : ∀ m, c.maps (chunkC c) = some m → goodC 1 m.1 = true) :
    Calls Try.prog 117 #[.pointer (some ⟨p, 0, none⟩), .pointer (some ⟨g, 0, none⟩)] w (SayP p r1 N g (onC c) o w) := by
  obtain ⟨f, a, n, cap, e, l1, l2, hr⟩ := h.mapM.look hk
  have c4 := h.c4
  have hrl := h.lt.2.1
  have k1 := l2 w rfl
  have k2 := l2 w.drew rfl
  have k3 := l2 (w.alloc (.cells #[.int .i64 0, .slice none 0 0, .int .i64 0] 160)) (heap_alloc_lt hrl)
  have k4 := l2 (w.alloc (.cells #[.int .i64 0, .slice none 0 0, .int .i64 0] 160)).drew (heap_alloc_lt hrl)
  obtain ⟨kn, hkn⟩ : ∃ b, b = (c.maps (chunkC c)).isSome := ⟨_, rfl⟩
  rw [← hkn] at k1 k2 k3 k4
  have HKN := Lib.hid hkn
  have HC := Lib.hid h
  have HO := Lib.hid ho
  have HS := Lib.hid hs
  have HG := Lib.hid hg
  have HK := Lib.hid hk
  have hpl := h.lt.1
  clear h ho hs hk hg l1 l2 hr hkn
  go_enter Try.func117, Try.ntmps117
  go_upto_region 0 with (fail)
  go_cut [5] from 4 to 16 (fun v wx => KnownB w wx kn v)
  case first =>
    have hS : Below w.heap.size w w := Below.refl _ _
    go_region_with
      ((go_at_call 116; go_loud ((with_reducible refine Calls.mono (chunk_is p r1 r2 N c _ ?_) ?_); (first | exact HC.out.below hS | exact HC.out.below hS.drew | exact HC.out.below (Below.new _ _) | exact HC.out.below (Below.new _ _).drew); rintro e1 wc ⟨rfl, rfl⟩)))
    all_goals
      go_wp2_with fail
      go_meet
      exact ⟨rfl, (Below.new _ _).drew⟩
  case rest =>
    obtain ⟨rfl, hb⟩ := hcut
    have hC := HC.out.below hb
    have c12 := hC.c12
    have HC1 := Lib.hid hC
    have HO1 := Lib.hid (HO.out.below hb)
    have HB := Lib.hid hb
    clear k1 k2 k3 k4 hrl c4 hC hb
    by_cases h4 : c.call.kind = 4
    · have hq : (c.call.kind == 4) = true := by simpa using h4
      have HE : Hid (onC c = orderC c (placeC c)) := Lib.hid (by simp [onC, h4])
      have H4 := Lib.hid h4
      clear h4
      go_wp2_with fail
      refine Calls.mono (order_is p r1 r2 N g c o _ HC1.out HO1.out HS.out HK.out (fun h => absurd H4.out h) HG.out) ?_
      rintro e wd ⟨rfl, r2', q1, q2, q3, q4⟩
      have Q1 : Hid (w.heap.size ≤ r2') := Lib.hid (Nat.le_trans HB.out.size q1)
      have Q2 : Hid (CliAt wd p r1 r2' N (onC c)) := Lib.hid (by rw [HE.out]; exact q2)
      have Q3 : Hid (OutAt wd g (againO (onC c) o)) := Lib.hid (by rw [HE.out]; exact q3)
      have Q4 := Lib.hid ((Only.of_below (R := [p, g]) HB.out).trans q4)
      clear q1 q2 q3 q4
      go_wp2
      go_end0
      exact ⟨rfl, r2', Q1.out, Q2.out, Q3.out, Q4.out⟩
    · have hq : (c.call.kind == 4) = false := by simpa using h4
      have H4 := Lib.hid h4
      clear h4
      cases kn with
      | false =>
        have HE : Hid (onC c = askC c) := Lib.hid (by simp [onC, H4.out, ← HKN.out])
        go_wp2_with fail
        refine Calls.mono (ask_is p r1 r2 N g c o _ HC1.out HO1.out HS.out) ?_
        rintro e wd ⟨rfl, r2', q1, q2, q3, q4⟩
        have Q1 : Hid (w.heap.size ≤ r2') := Lib.hid (Nat.le_trans HB.out.size q1)
        have Q2 : Hid (CliAt wd p r1 r2' N (onC c)) := Lib.hid (by rw [HE.out]; exact q2)
        have Q3 : Hid (OutAt wd g (againO (onC c) o)) := Lib.hid (by rw [HE.out]; exact q3)
        have Q4 := Lib.hid ((Only.of_below (R := [p, g]) HB.out).trans q4)
        clear q1 q2 q3 q4
        go_wp2
        go_end0
        exact ⟨rfl, r2', Q1.out, Q2.out, Q3.out, Q4.out⟩
      | true =>
        by_cases h1 : c.call.kind = 1
        · have hq1 : (c.call.kind == 1) = true := by simpa using h1
          obtain ⟨m, hm⟩ := Option.isSome_iff_exists.1 HKN.out.symm
          have HE : Hid (onC c = lookC c m) := Lib.hid (by simp [onC, h1, placeC, hm])
          have HM := Lib.hid hm
          clear h1 hm
          go_wp2_with fail
          refine Calls.mono (look_is p r1 r2 N g c o m _ HC1.out HO1.out HS.out HK.out HM.out (HG.out m HM.out)) ?_
          rintro e wd ⟨rfl, r2', q1, q2, q3, q4⟩
          have Q1 : Hid (w.heap.size ≤ r2') := Lib.hid (Nat.le_trans HB.out.size q1)
          have Q2 : Hid (CliAt wd p r1 r2' N (onC c)) := Lib.hid (by rw [HE.out]; exact q2)
          have Q3 : Hid (OutAt wd g (againO (onC c) o)) := Lib.hid (by rw [HE.out]; exact q3)
          have Q4 := Lib.hid ((Only.of_below (R := [p, g]) HB.out).trans q4)
          clear q1 q2 q3 q4
          go_wp2
          go_end0
          exact ⟨rfl, r2', Q1.out, Q2.out, Q3.out, Q4.out⟩
        · have hq1 : (c.call.kind == 1) = false := by simpa using h1
          have HE : Hid (onC c = orderC c (placeC c)) := Lib.hid (by simp [onC, H4.out, ← HKN.out, h1])
          clear h1
          go_wp2_with fail
          refine Calls.mono (order_is p r1 r2 N g c o _ HC1.out HO1.out HS.out HK.out (fun _ => HKN.out.symm) HG.out) ?_
          rintro e wd ⟨rfl, r2', q1, q2, q3, q4⟩
          have Q1 : Hid (w.heap.size ≤ r2') := Lib.hid (Nat.le_trans HB.out.size q1)
          have Q2 : Hid (CliAt wd p r1 r2' N (onC c)) := Lib.hid (by rw [HE.out]; exact q2)
          have Q3 : Hid (OutAt wd g (againO (onC c) o)) := Lib.hid (by rw [HE.out]; exact q3)
          have Q4 := Lib.hid ((Only.of_below (R := [p, g]) HB.out).trans q4)
          clear q1 q2 q3 q4
          go_wp2
          go_end0
          exact ⟨rfl, r2', Q1.out, Q2.out, Q3.out, Q4.out⟩

open Classical in
/-- The function with one element less. -/
noncomputable def delF (f : Value → Option Value) (key : Value) : Value → Option Value := fun x => if x = key then none else f x
open Go.Maps (Keyed IsMap) in
theorem VM.del {w : World} {k t e : TypeId} {b n : Nat} {f : Value → Option Value} (h : VM w k b n f) (K : Keyed Try.prog k) (ht : Try.prog.underlying t = some (.map k e)) {key : Value} {kl : Lit}
    (hkey : keyOf Try.prog k key = some kl) (ty : TypeId) : ∃ w', (Builtin.delete_ #[t, k] ty #[.map (some b), key]).run Try.prog w = .ok (.tuple #[]) w' ∧ VM w' k b n (delF f key) ∧ w.grownBy w' (some b) := by
  obtain ⟨D, ho, hm, hf⟩ := h
  obtain ⟨w', h1, h2, h3⟩ := ho.drop K ht hkey ty
  refine ⟨w', h1, ⟨_, h2, h2.isMap, fun key' kl' hk' => ?_⟩, h3.grown⟩
  by_cases e : key' = key
  · subst e
    rw [hkey] at hk'
    cases hk'
    unfold delF
    rw [if_pos rfl]
    exact Maps.atKey_del_same _
  · unfold delF
    rw [if_neg e]
    have hne : kl' ≠ kl := fun hh => e (K.inj hk' (by rw [hh]; exact hkey))
    rw [Maps.atKey_del_other hne]
    exact hf key' kl' hk'
theorem Keeps.map {w w' : World} {k : TypeId} {r n : Nat} {f : Value → Option Value} (hg : w.grownBy w' (some r)) (hv : VM w k r n f) : Keeps w w' := Keeps.grown hg (by
  obtain ⟨D, ⟨es, clock, h1, _⟩, _⟩ := hv
  intro cs t fz h
  rw [h1] at h
  cases h)
theorem MapM.del {w : World} {r N : Nat} {m : Int → Option (List Int × Int)} (h : MapM w r N m) {k : Int} (hk : Wf k) (ty : TypeId) :
    ∃ w', (Builtin.delete_ #[109, 3] ty #[.map (some r), .int .i64 k]).run Try.prog w = .ok (.tuple #[]) w' ∧ MapM w' r N (upF m k none) ∧ w.grownBy w' (some r) ∧ Keeps w w' := by
  obtain ⟨F, h1, h2⟩ := h
  obtain ⟨kl, hkl⟩ := keyOf_i hk
  obtain ⟨w', hr, hv, hg⟩ := h1.del int_key Try.underlying109 hkl ty
  have hks := Keeps.map hg h1
  refine ⟨w', hr, ⟨_, hv, fun k' hk' => ?_⟩, hg, hks⟩
  unfold upF
  by_cases e : k' = k
  · subst e; simp [PlaceV, delF]
  · rw [if_neg e]
    have : ¬ (Value.int .i64 k' = Value.int .i64 k) := fun hh => e (by simpa using hh)
    unfold delF
    rw [if_neg this]
    exact (h2 k' hk').keeps hks
/-- The map of places turned. -/
theorem CliAt.setMaps {w w' : World} {p r1 r2 N N' : Nat} {c : Cl} {m : Int → Option (List Int × Int)} (h : CliAt w p r1 r2 N c) (hm : MapM w' r1 N' m) (hn : N ≤ N') (hg : w.grownBy w' (some r1)) (hk : Keeps w w') : CliAt w' p r1 r2 N' { c with maps := m } := by
  obtain ⟨da, dc, la, lc, cf, cs, said, am, hP, hM⟩ := h
  obtain ⟨hl, ⟨i1, i2⟩, ⟨i3, i4⟩, hmm, hs⟩ := hM
  have hne := hmm.ne hP
  refine ⟨da, dc, la, lc, cf, cs, said, am, (hg.block _ hP.lt (by simpa using hne.symm)).trans hP, hl, ⟨hk.il i1, i2⟩, ⟨hk.bl i3, i4⟩, hm, fun hw => ?_⟩
  obtain ⟨a, b, d, e, f⟩ := (hs hw).same (w' := w') (hg.block _ (hs hw).2.2.2.1.lt (by simpa using (hs hw).2.2.2.2.symm)) hk
  exact ⟨a, b, d, e.mono hn, f⟩
theorem Only.grown {R : List Nat} {a b : World} {r : Nat} (h : a.grownBy b (some r)) (hr : r ∈ R) : Only R a b := Only.of_grown h hr
theorem room_set {w : World} {a : Addr} {n : Nat} (h : Room w a n) (b : Addr) (v : Value) : Room (w.setCell b v) a n := ⟨h.1, fun j hj => by
  obtain ⟨h1, h2⟩ := h.2 j hj
  refine ⟨?_, by rw [World.frozen?_setCell]; exact h2⟩
  obtain ⟨u, hu⟩ := Option.isSome_iff_exists.1 h1
  by_cases e : b = ⟨a.block, a.off + j, none⟩
  · subst e; rw [World.cell?_setCell_same _ _ _ hu]; rfl
  · rw [World.cell?_setCell_other _ _ _ _ e, hu]; rfl⟩
theorem room_sets {w : World} {a : Addr} {n : Nat} (h : Room w a n) (b o : Nat) (vs : List Value) : Room (w.setCells b o vs) a n := ⟨h.1, World.there_setCells h.2 b o vs⟩
section
variable {ρ : Operand → Value} {d : Option Tmp} {x y : Operand} {t : TypeId} {p : String} {af : Array Edge} {gd : Option (Nat × Bool)} {w : World}
theorem exec_store72T {T : TypeId} (hT : Hid (T = 72)) (h1 : isPV (ρ x) = true) (h2 : Room w (adV (ρ x)) 4) (h3 : isAgg 4 (ρ y)) : (execOp ρ ⟨d, .store T x y, t, p, af, gd⟩).run Try.prog w = .ok .skip (w.setCells (adV (ρ x)).block (adV (ρ x)).off (ρ y).cells.toList) := by
  have := hT.out
  subst this
  exact exec_storeA z72 h1 h2 h3
end
theorem ans_agg (A : An) (da : Option Addr) (dc : Nat) (na : Option Addr) (nc : Nat) : isAgg 4 (.agg (ansL A da dc na nc).toArray) := agg_of rfl (ansL_one A da dc na nc)
theorem outL_rest_len {tv : Value} {nl : List Value} {began done : Bool} {call ans : List Value} (h : nl.length = 58) : (tv :: (nl ++ [Value.bool began, .bool done])).length = 61 := by simp [h]
/-- Done, with a call and an answer. -/
theorem OutAt.done {w : World} {g : Nat} {o : Ou} (h : OutAt w g o) {W : Wi} {a : Option Addr} {c : Nat} (hD : BL w a W.data) (hDn : a = none → c = 0) {A : An} {da : Option Addr} {dc : Nat} {na : Option Addr} {nc : Nat} (hX : BL w da A.data) (hXn : da = none → dc = 0) (hY : IL w na A.nodes) (hYn : na = none → nc = 0) :
    OutAt (((w.setCell ⟨g, 60, none⟩ (.bool true)).setCells g 61 (wishL W a c)).setCells g 71 (ansL A da dc na nc)) g { o with done := true, call := W, ans := A } := by
  obtain ⟨l, h1, ta, tc, nl, ca, cc, da', dc', na', nc', rfl, hT, hN, hQ, hP, hR, hRn⟩ := h
  have hl := hN.len
  have e1 : (outL (.slice ta o.to.length tc) nl o.began o.done (wishL o.call ca cc) (ansL o.ans da' dc' na' nc')).set 60 (.bool true) = outL (.slice ta o.to.length tc) nl o.began true (wishL o.call ca cc) (ansL o.ans da' dc' na' nc') := by
    simp only [outL, List.set_cons_succ]
    rw [List.set_append_right _ _ (by omega), hl]
    rfl
  have h2 := h1.set 60 (.bool true)
  rw [e1] at h2
  have h3 := h2.sets (wishL W a c) 61 (by rw [outL_len hl rfl rfl]; show 61 + 10 ≤ 75; omega)
  have e2 := spl_mid (a := Value.slice ta o.to.length tc :: (nl ++ [.bool o.began, .bool true])) (b := wishL o.call ca cc) (c := ansL o.ans da' dc' na' nc') (vs := wishL W a c) rfl
  rw [outL_rest_len (call := []) (ans := []) hl] at e2
  have f1 : outL (.slice ta o.to.length tc) nl o.began true (wishL o.call ca cc) (ansL o.ans da' dc' na' nc') = (Value.slice ta o.to.length tc :: (nl ++ [.bool o.began, .bool true])) ++ (wishL o.call ca cc ++ ansL o.ans da' dc' na' nc') := by simp [outL]
  rw [f1, e2] at h3
  have h4 := h3.sets (ansL A da dc na nc) 71 (by rw [List.length_append, outL_rest_len (call := []) (ans := []) hl]; show 71 + 4 ≤ 61 + (10 + 4); omega)
  have e3 := spl_mid (a := (Value.slice ta o.to.length tc :: (nl ++ [.bool o.began, .bool true])) ++ wishL W a c) (b := ansL o.ans da' dc' na' nc') (c := []) (vs := ansL A da dc na nc) rfl
  rw [List.length_append, outL_rest_len (call := []) (ans := []) hl] at e3
  simp only [List.append_nil, wishL_len] at e3
  rw [← List.append_assoc, e3] at h4
  have f2 : ((Value.slice ta o.to.length tc :: (nl ++ [.bool o.began, .bool true])) ++ wishL W a c) ++ ansL A da dc na nc = outL (.slice ta o.to.length tc) nl o.began true (wishL W a c) (ansL A da dc na nc) := by simp [outL]
  rw [f2] at h4
  have hk := (Keeps.set h1 (by decide) 60 (.bool true)).trans ((Keeps.sets h2 (by decide) 61 (wishL W a c)).trans (Keeps.sets h3 (by decide) 71 (ansL A da dc na nc)))
  exact ⟨_, h4, ta, tc, nl, a, c, da, dc, na, nc, rfl, ⟨hk.il hT.1, hT.2⟩, hN.keeps hk, ⟨hk.bl hD, hDn⟩, ⟨hk.bl hX, hXn⟩, hk.il hY, hYn⟩
theorem OutAt.rooms {w : World} {g : Nat} {o : Ou} (h : OutAt w g o) : Room w ⟨g, 61, none⟩ 10 ∧ Room w ⟨g, 71, none⟩ 4 ∧ (∃ v, w.cell? ⟨g, 60, none⟩ = some v) ∧ w.frozen? ⟨g, 60, none⟩ = false := by
  obtain ⟨l, h1, h2⟩ := h
  have hl := h2.len
  exact ⟨h1.room (by omega), h1.room (by omega), ⟨_, h1.cell (List.getElem?_eq_getElem (by omega))⟩, h1.free 60⟩
theorem Room.four {w : World} {g o : Nat} (h : Room w ⟨g, o, none⟩ 4) : (∃ v, w.cell? ⟨g, o, none⟩ = some v) ∧ (∃ v, w.cell? ⟨g, o + 1, none⟩ = some v) ∧ (∃ v, w.cell? ⟨g, o + 2, none⟩ = some v) ∧ (∃ v, w.cell? ⟨g, o + 3, none⟩ = some v) ∧
    w.frozen? ⟨g, o, none⟩ = false ∧ w.frozen? ⟨g, o + 1, none⟩ = false ∧ w.frozen? ⟨g, o + 2, none⟩ = false ∧ w.frozen? ⟨g, o + 3, none⟩ = false := by
  have h0 := h.2 0 (by omega)
  have h1 := h.2 1 (by omega)
  have h2 := h.2 2 (by omega)
  have h3 := h.2 3 (by omega)
  exact ⟨Option.isSome_iff_exists.1 h0.1, Option.isSome_iff_exists.1 h1.1, Option.isSome_iff_exists.1 h2.1, Option.isSome_iff_exists.1 h3.1, h0.2, h1.2, h2.2, h3.2⟩
theorem in3 (p r g : Nat) : g ∈ [p, r, g] := by simp
theorem in31 (p r g : Nat) : p ∈ [p, r, g] := by simp
theorem in32 (p r g : Nat) : r ∈ [p, r, g] := by simp
theorem CliAt.free7 {w : World} {p r1 r2 N : Nat} {c : Cl} (h : CliAt w p r1 r2 N c) : w.frozen? ⟨p, 7, none⟩ = false := by
  obtain ⟨da, dc, la, lc, cf, cs, said, am, hb, _⟩ := h; exact hb.free 7
def DoneB (p r1 r2 N g : Nat) (c : Cl) (o : Ou) (w0 wx : World) : Prop := CliAt wx p r1 r2 N c ∧ OutAt wx g o ∧ Only [p, r1, g] w0 wx
attribute [local go_sem] room_set room_sets
attribute [local go_sem ↓] exec_store72T
attribute [local go_sem] room_set room_sets
attribute [local go_sem ↓] exec_store72T
set_option maxRecDepth 100000 in
set_option maxHeartbeats 4000000 in
theorem done_is (p r1 r2 N g : Nat) (c : Cl) (o : Ou) (A : An) (da : Option Addr) (dc : Nat) (na : Option Addr) (nc : Nat) (w : World) (h : CliAt w p r1 r2 N c) (ho : OutAt w g o) (hb : Wf c.call.block) (hD : BL w da A.data) (hDn : da = none → dc = 0) (hN : IL w na A.nodes) (hNn : na = none → nc = 0) :
    Calls Try.prog 118 #[.pointer (some ⟨p, 0, none⟩), .pointer (some ⟨g, 0, none⟩), .agg #[.int .i64 A.err, .slice da A.data.length dc, .int .i64 A.ep, .slice na A.nodes.length nc]] w
      fun e w' => e = .returned (.tuple #[]) ∧ CliAt w' p r1 r2 N (doneC c) ∧ OutAt w' g (doneO c o A) ∧ Only [p, r1, g] w w' := by
  have HC := Lib.hid h
  have HO := Lib.hid ho
  have HB := Lib.hid hb
  have HD := Lib.hid hD
  have HDN := Lib.hid hDn
  have HN := Lib.hid hN
  have HNN := Lib.hid hNn
  have hpl := h.lt.1
  have hgl := ho.lt
  clear h ho hb hD hDn hN hNn
  by_cases h4 : c.call.kind = 4
  · have hq : (c.call.kind == 4) = true := by simpa using h4
    have HE : Hid ({ doneC c with way := c.way } = { c with maps := upF c.maps c.call.block none }) := Lib.hid (by simp [doneC, h4])
    clear h4
    go_enter Try.func118, Try.ntmps118
    go_upto_region 1 with (fail)
    have hb1 := Below.new w (.cells #[.int .i64 A.err, .slice da A.data.length dc, .int .i64 A.ep, .slice na A.nodes.length nc] 72)
    have hA := Blk.new w [.int .i64 A.err, .slice da A.data.length dc, .int .i64 A.ep, .slice na A.nodes.length nc] 72
    generalize (w.alloc (.cells #[.int .i64 A.err, .slice da A.data.length dc, .int .i64 A.ep, .slice na A.nodes.length nc] 72)) = w1 at *
    have hC1 := HC.out.below hb1
    have c12 := hC1.c12
    have c13 := hC1.c13
    have c4 := hC1.c4
    have HC1 := Lib.hid hC1
    have HO1 := Lib.hid (HO.out.below hb1)
    have HB1 := Lib.hid hb1
    have HA := Lib.hid hA
    clear hb1 hA hC1
    go_upto_region 2 with (fail)
    obtain ⟨w2, hr2, hM2, hg2, hk2⟩ := (HC1.out.drw.mapM).del HB.out 0
    go_region
    have hC2 := HC1.out.drw.setMaps hM2 (Nat.le_refl _) hg2 hk2
    rw [← HE.out] at hC2
    have HC2 := Lib.hid hC2
    have HO2 : Hid (OutAt w2 g o) := Lib.hid (HO1.out.drw.same (hg2.block _ HO1.out.lt (by simpa using ((HC1.out.ne HO1.out).2.1).symm)) hk2)
    have HA2 : Hid (Blk w2 w.heap.size [.int .i64 A.err, .slice da A.data.length dc, .int .i64 A.ep, .slice na A.nodes.length nc] 72) := Lib.hid ((hg2.block _ HA.out.lt (by have := HC.out.lt.2.1; simp; omega)).trans HA.out)
    have HD2 := Lib.hid (hk2.bl (HD.out.below HB1.out.drew))
    have HN2 := Lib.hid (hk2.il (HN.out.below HB1.out.drew))
    have HW2 : Hid (Only [p, r1, g] w w2) := Lib.hid (((Only.of_below HB1.out).drw).trans (Only.of_grown hg2 (in32 p r1 g)))
    clear hr2 hM2 hg2 hk2 hC2 c12 c13 c4
    go_upto_region 3 with (fail)
    obtain ⟨qa, qc, la, lc, cf, cs, said, am, hP, hM⟩ := HC2.out
    have hl := hM.1
    obtain ⟨i3, i4⟩ := hM.2.2.1
    have hpg : p ≠ g := (HC2.out.ne HO2.out).1
    have hAg : w.heap.size ≠ g := by have := HO.out.lt; omega
    have MK0 : Hid (∀ w' : World, w'.heap[p]? = w2.heap[p]? → w'.heap[w.heap.size]? = w2.heap[w.heap.size]? → Held w' ⟨p, 8, none⟩ 10 ∧ cellsAt w' ⟨p, 8, none⟩ 10 = wishL c.call la lc ∧ w'.cell? ⟨w.heap.size, 0, none⟩ = some (.int .i64 A.err) ∧ w'.cell? ⟨w.heap.size, 1, none⟩ = some (.slice da A.data.length dc) ∧ w'.cell? ⟨w.heap.size, 2, none⟩ = some (.int .i64 A.ep) ∧ w'.cell? ⟨w.heap.size, 3, none⟩ = some (.slice na A.nodes.length nc)) := Lib.hid (by
      intro w' q1 q2
      have hP' : Blk w' p _ 113 := q1.trans hP
      have hA' : Blk w' w.heap.size _ 72 := q2.trans HA2.out
      have hr := (hP'.held (o := 8) (n := 10) (by rw [cliL_len hl]; omega))
      have hr2 : cellsAt w' ⟨p, 8, none⟩ 10 = wishL c.call la lc := hP'.cells (o := 8) (n := 10) (by rw [cliL_len hl]; omega)
      exact ⟨hr, hr2, hA'.cell (i := 0) rfl, hA'.cell (i := 1) rfl, hA'.cell (i := 2) rfl, hA'.cell (i := 3) rfl⟩)
    have MK : Hid (∀ w' : World, Below w2.heap.size w2 w' → Held w' ⟨p, 8, none⟩ 10 ∧ cellsAt w' ⟨p, 8, none⟩ 10 = wishL c.call la lc ∧ w'.cell? ⟨w.heap.size, 0, none⟩ = some (.int .i64 A.err) ∧ w'.cell? ⟨w.heap.size, 1, none⟩ = some (.slice da A.data.length dc) ∧ w'.cell? ⟨w.heap.size, 2, none⟩ = some (.int .i64 A.ep) ∧ w'.cell? ⟨w.heap.size, 3, none⟩ = some (.slice na A.nodes.length nc)) := Lib.hid (fun w' h => MK0.out _ (h.block _ hP.lt) (h.block _ HA2.out.lt))
    have MKD : Hid (∀ w' : World, Below w2.heap.size w2 w' → Held w'.drew ⟨p, 8, none⟩ 10 ∧ cellsAt w'.drew ⟨p, 8, none⟩ 10 = wishL c.call la lc ∧ w'.drew.cell? ⟨w.heap.size, 0, none⟩ = some (.int .i64 A.err) ∧ w'.drew.cell? ⟨w.heap.size, 1, none⟩ = some (.slice da A.data.length dc) ∧ w'.drew.cell? ⟨w.heap.size, 2, none⟩ = some (.int .i64 A.ep) ∧ w'.drew.cell? ⟨w.heap.size, 3, none⟩ = some (.slice na A.nodes.length nc)) := Lib.hid (fun w' h => MK0.out _ (h.block _ hP.lt) (h.block _ HA2.out.lt))
    have MKS : Hid (∀ (w' : World) (v : Value), Below w2.heap.size w2 w' → Held (w'.setCell ⟨g, 60, none⟩ v) ⟨p, 8, none⟩ 10 ∧ cellsAt (w'.setCell ⟨g, 60, none⟩ v) ⟨p, 8, none⟩ 10 = wishL c.call la lc ∧ (w'.setCell ⟨g, 60, none⟩ v).cell? ⟨w.heap.size, 0, none⟩ = some (.int .i64 A.err) ∧ (w'.setCell ⟨g, 60, none⟩ v).cell? ⟨w.heap.size, 1, none⟩ = some (.slice da A.data.length dc) ∧ (w'.setCell ⟨g, 60, none⟩ v).cell? ⟨w.heap.size, 2, none⟩ = some (.int .i64 A.ep) ∧ (w'.setCell ⟨g, 60, none⟩ v).cell? ⟨w.heap.size, 3, none⟩ = some (.slice na A.nodes.length nc)) := Lib.hid (fun w' v h => MK0.out _ ((heap_setCell_ne hpg).trans (h.block _ hP.lt)) ((heap_setCell_ne hAg).trans (h.block _ HA2.out.lt)))
    have MKT : Hid (∀ (w' : World) (v : Value) (vs : List Value), Below w2.heap.size w2 w' → Held ((w'.setCell ⟨g, 60, none⟩ v).setCells g 61 vs) ⟨p, 8, none⟩ 10 ∧ cellsAt ((w'.setCell ⟨g, 60, none⟩ v).setCells g 61 vs) ⟨p, 8, none⟩ 10 = wishL c.call la lc ∧ ((w'.setCell ⟨g, 60, none⟩ v).setCells g 61 vs).cell? ⟨w.heap.size, 0, none⟩ = some (.int .i64 A.err) ∧ ((w'.setCell ⟨g, 60, none⟩ v).setCells g 61 vs).cell? ⟨w.heap.size, 1, none⟩ = some (.slice da A.data.length dc) ∧ ((w'.setCell ⟨g, 60, none⟩ v).setCells g 61 vs).cell? ⟨w.heap.size, 2, none⟩ = some (.int .i64 A.ep) ∧ ((w'.setCell ⟨g, 60, none⟩ v).setCells g 61 vs).cell? ⟨w.heap.size, 3, none⟩ = some (.slice na A.nodes.length nc)) := Lib.hid (fun w' v vs h => MK0.out _ ((sets_other _ _ hpg _ _ _).trans ((heap_setCell_ne hpg).trans (h.block _ hP.lt))) ((sets_other _ _ hAg _ _ _).trans ((heap_setCell_ne hAg).trans (h.block _ HA2.out.lt))))
    have MKU : Hid (∀ (w' : World) (v : Value) (vs vs' : List Value), Below w2.heap.size w2 w' → Held (((w'.setCell ⟨g, 60, none⟩ v).setCells g 61 vs).setCells g 71 vs') ⟨p, 8, none⟩ 10 ∧ cellsAt (((w'.setCell ⟨g, 60, none⟩ v).setCells g 61 vs).setCells g 71 vs') ⟨p, 8, none⟩ 10 = wishL c.call la lc ∧ (((w'.setCell ⟨g, 60, none⟩ v).setCells g 61 vs).setCells g 71 vs').cell? ⟨w.heap.size, 0, none⟩ = some (.int .i64 A.err) ∧ (((w'.setCell ⟨g, 60, none⟩ v).setCells g 61 vs).setCells g 71 vs').cell? ⟨w.heap.size, 1, none⟩ = some (.slice da A.data.length dc) ∧ (((w'.setCell ⟨g, 60, none⟩ v).setCells g 61 vs).setCells g 71 vs').cell? ⟨w.heap.size, 2, none⟩ = some (.int .i64 A.ep) ∧ (((w'.setCell ⟨g, 60, none⟩ v).setCells g 61 vs).setCells g 71 vs').cell? ⟨w.heap.size, 3, none⟩ = some (.slice na A.nodes.length nc)) := Lib.hid (fun w' v vs vs' h => MK0.out _ ((sets_other _ _ hpg _ _ _).trans ((sets_other _ _ hpg _ _ _).trans ((heap_setCell_ne hpg).trans (h.block _ hP.lt)))) ((sets_other _ _ hAg _ _ _).trans ((sets_other _ _ hAg _ _ _).trans ((heap_setCell_ne hAg).trans (h.block _ HA2.out.lt)))))
    clear MK0
    have I3 := Lib.hid i3
    have I4 := Lib.hid i4
    have hS : Below w2.heap.size w2 w2 := Below.refl _ _
    have HPG := Lib.hid hpg
    have HAG := Lib.hid hAg
    obtain ⟨S0, S00, S1, S2, S3, S4⟩ := MK.out w2 hS
    clear hP hM hl i3 i4 hpg hAg
    go_cut [] from 21 to 36 (fun wx => DoneB p r1 r2 N g { doneC c with way := c.way } (doneO c o A) w wx)
    case first =>
      obtain ⟨T72, hT72⟩ : ∃ T : TypeId, T = 72 := ⟨_, rfl⟩
      rw [show Op.store 72 (Operand.tmp 36) (Operand.tmp 30) = Op.store T72 (Operand.tmp 36) (Operand.tmp 30) by rw [hT72]]
      have HT72 := Lib.hid hT72
      clear hT72
      go_region_held3 (fun w' => Held w' ⟨p, 8, none⟩ 10 ∧ cellsAt w' ⟨p, 8, none⟩ 10 = wishL c.call la lc ∧ w'.cell? ⟨w.heap.size, 0, none⟩ = some (.int .i64 A.err) ∧ w'.cell? ⟨w.heap.size, 1, none⟩ = some (.slice da A.data.length dc) ∧ w'.cell? ⟨w.heap.size, 2, none⟩ = some (.int .i64 A.ep) ∧ w'.cell? ⟨w.heap.size, 3, none⟩ = some (.slice na A.nodes.length nc))
        (first | with_reducible exact MK.out _ hS | with_reducible exact MKD.out _ hS | with_reducible exact MKS.out _ _ hS | with_reducible exact MKT.out _ _ _ hS | with_reducible exact MKU.out _ _ _ _ hS)
        ((first
          | (go_at_call 119; go_loud ((with_reducible refine Calls.mono (ownWish_any c.call la lc _ ?_ I4.out) ?_); (first | exact I3.out.below hS | exact I3.out.below hS.drew); rintro e wd ⟨a', c', rfl, hD', hDn', hb⟩; have hS : Below w2.heap.size w2 wd := (by first | exact Below.step hS hb | exact Below.step hS.drew hb); have e4 := wish_agg c.call a' c'))
          | (go_at_call 96; go_loud ((with_reducible refine Calls.mono (ownAnswer_any A da dc na nc _ ?_ HDN.out ?_ HNN.out) ?_); (first | exact HD2.out.below hS | exact HD2.out.below hS.drew); (first | exact HN2.out.below hS | exact HN2.out.below hS.drew); rintro e wd ⟨v, rfl, ⟨da', dc', na', nc', hv, ⟨hX, hXn⟩, hY, hYn⟩, hb⟩; have hv : v = .agg (ansL A da' dc' na' nc').toArray := hv; subst hv; have hD' : BL wd a' c.call.data := (by first | exact hD'.below hb | exact hD'.below (Below.step (Below.refl _ _).drew hb)); have hS : Below w2.heap.size w2 wd := (by first | exact Below.step hS hb | exact Below.step hS.drew hb); have hO := HO2.out.below hS; obtain ⟨m1, m2, ⟨v60, m3⟩, m4⟩ := hO.rooms; have m5 := room_sets (room_set m2 ⟨g, 60, none⟩ (.bool true)) g 61 (wishL c.call a' c'); have e5 := ans_agg A da' dc' na' nc'))))
      all_goals
        go_wp2_with fail
        go_meet
        refine ⟨?_, hO.done hD' hDn' hX hXn hY hYn, ?_⟩
        · exact (HC2.out.below hS).onlyG hO (Only.setCells (.inl (inP g)) _ 71 (Only.setCells (.inl (inP g)) _ 61 ((Only.refl [g] _).setCell (.inl (inP g)) 60 _)))
        · exact Only.setCells (.inl (in3 p r1 g)) _ 71 (Only.setCells (.inl (in3 p r1 g)) _ 61 ((HW2.out.trans (Only.of_below hS)).setCell (.inl (in3 p r1 g)) 60 _))
    case rest =>
      obtain ⟨q1, q2, q3⟩ := hcut
      have c7 := q1.c7
      have f7 := q1.free7
      have Q1 := Lib.hid q1.setIdle
      have Q2 := Lib.hid (q1.setO q2 7 (.int .i64 0))
      have Q3 := Lib.hid (q3.setCell (.inl (in31 p r1 g)) 7 (.int .i64 0))
      clear q1 q2 q3 S0 S00 S1 S2 S3 S4
      go_wp2
      go_end0
      exact ⟨rfl, Q1.out, Q2.out, Q3.out⟩
  · have hq : (c.call.kind == 4) = false := by simpa using h4
    have HE : Hid ({ doneC c with way := c.way } = c) := Lib.hid (by simp [doneC, h4])
    clear h4
    go_enter Try.func118, Try.ntmps118
    go_upto_region 1 with (fail)
    have hb1 := Below.new w (.cells #[.int .i64 A.err, .slice da A.data.length dc, .int .i64 A.ep, .slice na A.nodes.length nc] 72)
    have hA := Blk.new w [.int .i64 A.err, .slice da A.data.length dc, .int .i64 A.ep, .slice na A.nodes.length nc] 72
    generalize (w.alloc (.cells #[.int .i64 A.err, .slice da A.data.length dc, .int .i64 A.ep, .slice na A.nodes.length nc] 72)) = w2 at *
    have hC2 := HC.out.below hb1
    have c12 := hC2.c12
    rw [← HE.out] at hC2
    have HC2 := Lib.hid hC2
    have HO2 := Lib.hid (HO.out.below hb1)
    have HA2 := Lib.hid hA
    have HD2 := Lib.hid (HD.out.below hb1)
    have HN2 := Lib.hid (HN.out.below hb1)
    have HW2 : Hid (Only [p, r1, g] w w2) := Lib.hid (Only.of_below hb1)
    clear hb1 hA hC2
    go_upto_region 3 with (fail)
    obtain ⟨qa, qc, la, lc, cf, cs, said, am, hP, hM⟩ := HC2.out
    have hl := hM.1
    obtain ⟨i3, i4⟩ := hM.2.2.1
    have hpg : p ≠ g := (HC2.out.ne HO2.out).1
    have hAg : w.heap.size ≠ g := by have := HO.out.lt; omega
    have MK0 : Hid (∀ w' : World, w'.heap[p]? = w2.heap[p]? → w'.heap[w.heap.size]? = w2.heap[w.heap.size]? → Held w' ⟨p, 8, none⟩ 10 ∧ cellsAt w' ⟨p, 8, none⟩ 10 = wishL c.call la lc ∧ w'.cell? ⟨w.heap.size, 0, none⟩ = some (.int .i64 A.err) ∧ w'.cell? ⟨w.heap.size, 1, none⟩ = some (.slice da A.data.length dc) ∧ w'.cell? ⟨w.heap.size, 2, none⟩ = some (.int .i64 A.ep) ∧ w'.cell? ⟨w.heap.size, 3, none⟩ = some (.slice na A.nodes.length nc)) := Lib.hid (by
      intro w' q1 q2
      have hP' : Blk w' p _ 113 := q1.trans hP
      have hA' : Blk w' w.heap.size _ 72 := q2.trans HA2.out
      have hr := (hP'.held (o := 8) (n := 10) (by rw [cliL_len hl]; omega))
      have hr2 : cellsAt w' ⟨p, 8, none⟩ 10 = wishL c.call la lc := hP'.cells (o := 8) (n := 10) (by rw [cliL_len hl]; omega)
      exact ⟨hr, hr2, hA'.cell (i := 0) rfl, hA'.cell (i := 1) rfl, hA'.cell (i := 2) rfl, hA'.cell (i := 3) rfl⟩)
    have MK : Hid (∀ w' : World, Below w2.heap.size w2 w' → Held w' ⟨p, 8, none⟩ 10 ∧ cellsAt w' ⟨p, 8, none⟩ 10 = wishL c.call la lc ∧ w'.cell? ⟨w.heap.size, 0, none⟩ = some (.int .i64 A.err) ∧ w'.cell? ⟨w.heap.size, 1, none⟩ = some (.slice da A.data.length dc) ∧ w'.cell? ⟨w.heap.size, 2, none⟩ = some (.int .i64 A.ep) ∧ w'.cell? ⟨w.heap.size, 3, none⟩ = some (.slice na A.nodes.length nc)) := Lib.hid (fun w' h => MK0.out _ (h.block _ hP.lt) (h.block _ HA2.out.lt))
    have MKD : Hid (∀ w' : World, Below w2.heap.size w2 w' → Held w'.drew ⟨p, 8, none⟩ 10 ∧ cellsAt w'.drew ⟨p, 8, none⟩ 10 = wishL c.call la lc ∧ w'.drew.cell? ⟨w.heap.size, 0, none⟩ = some (.int .i64 A.err) ∧ w'.drew.cell? ⟨w.heap.size, 1, none⟩ = some (.slice da A.data.length dc) ∧ w'.drew.cell? ⟨w.heap.size, 2, none⟩ = some (.int .i64 A.ep) ∧ w'.drew.cell? ⟨w.heap.size, 3, none⟩ = some (.slice na A.nodes.length nc)) := Lib.hid (fun w' h => MK0.out _ (h.block _ hP.lt) (h.block _ HA2.out.lt))
    have MKS : Hid (∀ (w' : World) (v : Value), Below w2.heap.size w2 w' → Held (w'.setCell ⟨g, 60, none⟩ v) ⟨p, 8, none⟩ 10 ∧ cellsAt (w'.setCell ⟨g, 60, none⟩ v) ⟨p, 8, none⟩ 10 = wishL c.call la lc ∧ (w'.setCell ⟨g, 60, none⟩ v).cell? ⟨w.heap.size, 0, none⟩ = some (.int .i64 A.err) ∧ (w'.setCell ⟨g, 60, none⟩ v).cell? ⟨w.heap.size, 1, none⟩ = some (.slice da A.data.length dc) ∧ (w'.setCell ⟨g, 60, none⟩ v).cell? ⟨w.heap.size, 2, none⟩ = some (.int .i64 A.ep) ∧ (w'.setCell ⟨g, 60, none⟩ v).cell? ⟨w.heap.size, 3, none⟩ = some (.slice na A.nodes.length nc)) := Lib.hid (fun w' v h => MK0.out _ ((heap_setCell_ne hpg).trans (h.block _ hP.lt)) ((heap_setCell_ne hAg).trans (h.block _ HA2.out.lt)))
    have MKT : Hid (∀ (w' : World) (v : Value) (vs : List Value), Below w2.heap.size w2 w' → Held ((w'.setCell ⟨g, 60, none⟩ v).setCells g 61 vs) ⟨p, 8, none⟩ 10 ∧ cellsAt ((w'.setCell ⟨g, 60, none⟩ v).setCells g 61 vs) ⟨p, 8, none⟩ 10 = wishL c.call la lc ∧ ((w'.setCell ⟨g, 60, none⟩ v).setCells g 61 vs).cell? ⟨w.heap.size, 0, none⟩ = some (.int .i64 A.err) ∧ ((w'.setCell ⟨g, 60, none⟩ v).setCells g 61 vs).cell? ⟨w.heap.size, 1, none⟩ = some (.slice da A.data.length dc) ∧ ((w'.setCell ⟨g, 60, none⟩ v).setCells g 61 vs).cell? ⟨w.heap.size, 2, none⟩ = some (.int .i64 A.ep) ∧ ((w'.setCell ⟨g, 60, none⟩ v).setCells g 61 vs).cell? ⟨w.heap.size, 3, none⟩ = some (.slice na A.nodes.length nc)) := Lib.hid (fun w' v vs h => MK0.out _ ((sets_other _ _ hpg _ _ _).trans ((heap_setCell_ne hpg).trans (h.block _ hP.lt))) ((sets_other _ _ hAg _ _ _).trans ((heap_setCell_ne hAg).trans (h.block _ HA2.out.lt))))
    have MKU : Hid (∀ (w' : World) (v : Value) (vs vs' : List Value), Below w2.heap.size w2 w' → Held (((w'.setCell ⟨g, 60, none⟩ v).setCells g 61 vs).setCells g 71 vs') ⟨p, 8, none⟩ 10 ∧ cellsAt (((w'.setCell ⟨g, 60, none⟩ v).setCells g 61 vs).setCells g 71 vs') ⟨p, 8, none⟩ 10 = wishL c.call la lc ∧ (((w'.setCell ⟨g, 60, none⟩ v).setCells g 61 vs).setCells g 71 vs').cell? ⟨w.heap.size, 0, none⟩ = some (.int .i64 A.err) ∧ (((w'.setCell ⟨g, 60, none⟩ v).setCells g 61 vs).setCells g 71 vs').cell? ⟨w.heap.size, 1, none⟩ = some (.slice da A.data.length dc) ∧ (((w'.setCell ⟨g, 60, none⟩ v).setCells g 61 vs).setCells g 71 vs').cell? ⟨w.heap.size, 2, none⟩ = some (.int .i64 A.ep) ∧ (((w'.setCell ⟨g, 60, none⟩ v).setCells g 61 vs).setCells g 71 vs').cell? ⟨w.heap.size, 3, none⟩ = some (.slice na A.nodes.length nc)) := Lib.hid (fun w' v vs vs' h => MK0.out _ ((sets_other _ _ hpg _ _ _).trans ((sets_other _ _ hpg _ _ _).trans ((heap_setCell_ne hpg).trans (h.block _ hP.lt)))) ((sets_other _ _ hAg _ _ _).trans ((sets_other _ _ hAg _ _ _).trans ((heap_setCell_ne hAg).trans (h.block _ HA2.out.lt)))))
    clear MK0
    have I3 := Lib.hid i3
    have I4 := Lib.hid i4
    have hS : Below w2.heap.size w2 w2 := Below.refl _ _
    have HPG := Lib.hid hpg
    have HAG := Lib.hid hAg
    obtain ⟨S0, S00, S1, S2, S3, S4⟩ := MK.out w2 hS
    clear hP hM hl i3 i4 hpg hAg
    go_cut [] from 21 to 36 (fun wx => DoneB p r1 r2 N g { doneC c with way := c.way } (doneO c o A) w wx)
    case first =>
      obtain ⟨T72, hT72⟩ : ∃ T : TypeId, T = 72 := ⟨_, rfl⟩
      rw [show Op.store 72 (Operand.tmp 36) (Operand.tmp 30) = Op.store T72 (Operand.tmp 36) (Operand.tmp 30) by rw [hT72]]
      have HT72 := Lib.hid hT72
      clear hT72
      go_region_held3 (fun w' => Held w' ⟨p, 8, none⟩ 10 ∧ cellsAt w' ⟨p, 8, none⟩ 10 = wishL c.call la lc ∧ w'.cell? ⟨w.heap.size, 0, none⟩ = some (.int .i64 A.err) ∧ w'.cell? ⟨w.heap.size, 1, none⟩ = some (.slice da A.data.length dc) ∧ w'.cell? ⟨w.heap.size, 2, none⟩ = some (.int .i64 A.ep) ∧ w'.cell? ⟨w.heap.size, 3, none⟩ = some (.slice na A.nodes.length nc))
        (first | with_reducible exact MK.out _ hS | with_reducible exact MKD.out _ hS | with_reducible exact MKS.out _ _ hS | with_reducible exact MKT.out _ _ _ hS | with_reducible exact MKU.out _ _ _ _ hS)
        ((first
          | (go_at_call 119; go_loud ((with_reducible refine Calls.mono (ownWish_any c.call la lc _ ?_ I4.out) ?_); (first | exact I3.out.below hS | exact I3.out.below hS.drew); rintro e wd ⟨a', c', rfl, hD', hDn', hb⟩; have hS : Below w2.heap.size w2 wd := (by first | exact Below.step hS hb | exact Below.step hS.drew hb); have e4 := wish_agg c.call a' c'))
          | (go_at_call 96; go_loud ((with_reducible refine Calls.mono (ownAnswer_any A da dc na nc _ ?_ HDN.out ?_ HNN.out) ?_); (first | exact HD2.out.below hS | exact HD2.out.below hS.drew); (first | exact HN2.out.below hS | exact HN2.out.below hS.drew); rintro e wd ⟨v, rfl, ⟨da', dc', na', nc', hv, ⟨hX, hXn⟩, hY, hYn⟩, hb⟩; have hv : v = .agg (ansL A da' dc' na' nc').toArray := hv; subst hv; have hD' : BL wd a' c.call.data := (by first | exact hD'.below hb | exact hD'.below (Below.step (Below.refl _ _).drew hb)); have hS : Below w2.heap.size w2 wd := (by first | exact Below.step hS hb | exact Below.step hS.drew hb); have hO := HO2.out.below hS; obtain ⟨m1, m2, ⟨v60, m3⟩, m4⟩ := hO.rooms; have m5 := room_sets (room_set m2 ⟨g, 60, none⟩ (.bool true)) g 61 (wishL c.call a' c'); have e5 := ans_agg A da' dc' na' nc'))))
      all_goals
        go_wp2_with fail
        go_meet
        refine ⟨?_, hO.done hD' hDn' hX hXn hY hYn, ?_⟩
        · exact (HC2.out.below hS).onlyG hO (Only.setCells (.inl (inP g)) _ 71 (Only.setCells (.inl (inP g)) _ 61 ((Only.refl [g] _).setCell (.inl (inP g)) 60 _)))
        · exact Only.setCells (.inl (in3 p r1 g)) _ 71 (Only.setCells (.inl (in3 p r1 g)) _ 61 ((HW2.out.trans (Only.of_below hS)).setCell (.inl (in3 p r1 g)) 60 _))
    case rest =>
      obtain ⟨q1, q2, q3⟩ := hcut
      have c7 := q1.c7
      have f7 := q1.free7
      have Q1 := Lib.hid q1.setIdle
      have Q2 := Lib.hid (q1.setO q2 7 (.int .i64 0))
      have Q3 := Lib.hid (q3.setCell (.inl (in31 p r1 g)) 7 (.int .i64 0))
      clear q1 q2 q3 S0 S00 S1 S2 S3 S4
      go_wp2
      go_end0
      exact ⟨rfl, Q1.out, Q2.out, Q3.out⟩
end Go.Proofs.Ytldcpnabgpjgiaa.Walks
