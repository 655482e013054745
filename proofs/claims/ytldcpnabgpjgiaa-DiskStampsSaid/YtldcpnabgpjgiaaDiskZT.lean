/-
  The walk of the law DiskStamps.
-/
import Derived.Test.YtldcpnabgpjgiaaDiskZH
namespace Go.Proofs.Ytldcpnabgpjgiaa.Walks
open Go.RowKit Plain
set_option linter.unusedVariables false
attribute [local go_sem] isPV_mk adV_mk cells_agg cells_agg' held_drew room_drew cellsAt_drew isA4_mk isSl_mk isI_mk intOf_mk
attribute [local go_sem ↓] exec_load88 exec_store88 exec_load81 exec_store81 exec_load90 exec_store90 Go.wp_at_zero Go.wp_at_succ exec_alloc81 exec_build81r exec_build81s exec_bs69 exec_alloc90 exec_build90n
attribute [local irreducible] out0

theorem writeX : beginC (newC 32 1) (writeW 5 zeros16) = askZ 1 0 (fun _ => none) ∧ beginO (newC 32 1) (writeW 5 zeros16) = againO (askZ 1 0 (fun _ => none)) (beganO callX) := ⟨rfl, rfl⟩
def NowAt (w : World) (x : Nat) (W : Wi) : Prop := ∃ nl, Blk w x nl 81 ∧ NoteV w nl (some (1, 32, W))
theorem NowAt.below {w w' : World} {x : Nat} {W : Wi} (h : NowAt w x W) (hb : Below w.heap.size w w') : NowAt w' x W := by
  obtain ⟨nl, h1, h2⟩ := h; exact ⟨nl, h1.below hb, h2.keeps (Keeps.of_below hb)⟩
theorem NowAt.stp {B : Nat} {w w' : World} {x : Nat} {W : Wi} (h : NowAt w x W) (hb : Stp B w w') : NowAt w' x W := by
  obtain ⟨nl, h1, h2⟩ := h; exact ⟨nl, hb.blk h1 (by decide), h2.keeps hb.stays.keeps⟩
theorem askZ_fits (S own : Int) (ans : Int → Option An) (hS : 0 ≤ S ∧ S ≤ 1000000) (h : ∀ k a, ans k = some a → k ∈ dirL) : Fits (askZ S own ans) :=
  ⟨(by decide : goodC 1 dirL = true), hS, (Wf.of (by decide) (by decide) : Wf 1), (Wf.of (by decide) (by decide) : Wf 5), h, fun m hm => (by
    have hm' : (none : Option (List Int × Int)) = some m := hm
    cases hm'), fun h => absurd h (show ¬ (1 : Int) = 2 by decide)⟩
theorem putZ_fits (S own ep : Int) (ans : Int → Option An) (hS : 0 ≤ S ∧ S ≤ 1000000) (h : ∀ k a, ans k = some a → k ∈ fiveL) : Fits (putZ S own ep ans) :=
  ⟨(by decide : goodC 1 fiveL = true), hS, (Wf.of (by decide) (by decide) : Wf 1), (Wf.of (by decide) (by decide) : Wf 5), h, fun m hm => (by
    have hm' : some (fiveL, ep) = some m := hm
    cases hm'; exact (by decide : goodC 1 fiveL = true)), fun h => absurd h (show ¬ (3 : Int) = 2 by decide)⟩
theorem oneF_keys (k : Int) (A : An) {l : List Int} (hk : k ∈ l) : ∀ x a, oneF k A x = some a → x ∈ l := by
  intro x a h
  unfold oneF upF at h
  split at h
  · rename_i e; rw [e]; exact hk
  · cases h
theorem take_Z (B p N : Nat) (c c' : Cl) (o' : Ou) (fr : Int) (W : Wi) (A : An) (da : Option Addr) (dc : Nat) (na : Option Addr) (nc : Nat) (w : World) (hf : Fits c) (hh : heardB c (replyN fr W A) = true) (hc : takeC c (replyN fr W A) = c') (ho : takeO c (replyN fr W A) = o') (hN1 : N + 1 < 1000000) (h : Sys B w p N c)
    (hD : BL w da A.data) (hDn : da = none → dc = 0) (hN : IL w na A.nodes) (hNn : na = none → nc = 0) :
    Calls Try.prog 52 #[.pointer (some ⟨p, 0, none⟩), .agg (noteL 2 fr W.group W.epoch (.slice none 0 0) (ansL A da dc na nc) W.stamp W.client).toArray] w (GiveS B p (N + 2) c' o' 0 w) := by
  have h1 := take_sys B p N c (replyN fr W A) da dc na nc w h hf hh hN1 hD hDn hN hNn
  rw [hc, ho] at h1
  exact h1
/-- The writer's state: it asks, or it wishes. -/
def stZ (b : Bool) (S own ep : Int) : Cl := if b then askZ S own (fun _ => none) else putZ S own ep (fun _ => none)
def wiZ (b : Bool) (S own ep : Int) : Wi := if b then askX S else putX own ep
theorem fire_Z (B p N : Nat) (b : Bool) (S own ep : Int) (w : World) (hS : 0 ≤ S ∧ S ≤ 1000000) (h : Sys B w p N (stZ b S own ep)) :
    Calls Try.prog 61 #[.pointer (some ⟨p, 0, none⟩)] w (GiveS B p N (stZ b S own ep) (againO (stZ b S own ep) Ou.zero) 0 w) := by
  cases b
  · have hf := putZ_fits S own ep (fun _ => none) hS (fun k a h => by cases h)
    exact fire_sys B p N _ w h hf.stamp hf.chunk (fun _ => hf.crew) hf.way hf.maps
  · have hf := askZ_fits S own (fun _ => none) hS (fun k a h => by cases h)
    exact fire_sys B p N _ w h hf.stamp hf.chunk (fun _ => hf.crew) hf.way hf.maps
/-- What holds of the writer's numbers at all times. -/
def OkZ (b : Bool) (k : Nat) (S cown own last ep : Int) : Prop := (0 ≤ ep ∧ ep ≤ k) ∧ (1 ≤ S ∧ S ≤ 1 + k) ∧ (0 ≤ cown ∧ cown ≤ S) ∧ (0 ≤ last ∧ last ≤ S) ∧ (own = 0 ∨ own = cown) ∧ (b = true → own = cown) ∧ (b = false → 1 ≤ cown ∧ (own = 0 → last ≤ cown))
/-- The wishes of a note that comes out; of one that is kept. -/
theorem note39 {w : World} {g : Nat} {l : List Value} {o : Ou} (hG : Blk w g l 90) (hV : OutV w l o) {kind fr : Int} {W : Wi} (hn : o.note = some (kind, fr, W)) :
    ∃ b ba bc, w.cell? ⟨g, 39, none⟩ = some (.slice (some ⟨b, 0, none⟩) 1 1) ∧ Blk w b (wishL W ba bc) 88 ∧ BL w ba W.data := by
  obtain ⟨ta, tc, nl, ca, cc, da, dc, na, nc, e, _, hN, _⟩ := hV
  rw [hn] at hN
  have hl := hN.len
  obtain ⟨b, ba, bc, rfl, h1, h2, _⟩ := hN
  refine ⟨b, ba, bc, hG.cell ?_, h1, h2⟩
  rw [e, outL_note hl (i := 38) (by omega)]
  rfl
theorem NowAt.wish {w : World} {x : Nat} {W : Wi} (h : NowAt w x W) : ∃ g wa wq, Blk w x (noteL 1 32 W.group W.epoch (.slice (some ⟨g, 0, none⟩) 1 1) zeroA 0 0) 81 ∧ w.cell? ⟨x, 38, none⟩ = some (.slice (some ⟨g, 0, none⟩) 1 1) ∧ Blk w g (wishL W wa wq) 88 ∧ BL w wa W.data := by
  obtain ⟨nl, hG, g, wa, wq, rfl, h1, h2, _⟩ := h
  exact ⟨g, wa, wq, hG, hG.cell (i := 38) rfl, h1, h2⟩
theorem Sys.setCells {B : Nat} {w : World} {p N : Nat} {c : Cl} (h : Sys B w p N c) {g : Nat} {l : List Value} {t : TypeId} (hb : Blk w g l t) (ht : t ≠ 3 ∧ t ≠ 5 ∧ t ≠ 88) (ht' : t ≠ 113) (o : Nat) (vs : List Value) : Sys B (w.setCells g o vs) p N c := by
  obtain ⟨r1, r2, ⟨da, dc, la, lc, cf, cs, said, am, hP, hM⟩, h2⟩ := h
  have hk := Keeps.sets hb ht o vs
  exact ⟨r1, r2, ⟨da, dc, la, lc, cf, cs, said, am, hP.others (hP.ne hb (Ne.symm ht')) o vs, hM.same (sets_other _ _ (hM.ne hb).1 _ _ _) (fun hw => sets_other _ _ ((hM.ne hb).2 hw) _ _ _) hk⟩, h2⟩
theorem NowAt.sets {w : World} {x : Nat} {W : Wi} (h : NowAt w x W) {g : Nat} {l : List Value} {t : TypeId} (hb : Blk w g l t) (hx : x ≠ g) (ht : t ≠ 3 ∧ t ≠ 5 ∧ t ≠ 88) (o : Nat) (vs : List Value) : NowAt (w.setCells g o vs) x W := by
  obtain ⟨nl, h1, h2⟩ := h; exact ⟨nl, h1.others hx o vs, h2.keeps (Keeps.sets hb ht o vs)⟩
/-- What was said is what is now. -/
theorem now_of {w : World} {x g : Nat} {l l0 : List Value} {o : Ou} (hX : Blk w x l0 81) (h0 : l0.length = 58) (hG : Blk w g l 90) (hV : OutV w l o) {W : Wi} (hn : o.note = some (1, 32, W)) :
    ∃ nl, cellsAt w ⟨g, 1, none⟩ 58 = nl ∧ Held w ⟨g, 1, none⟩ 58 ∧ Room w ⟨x, 0, none⟩ 58 ∧ isAgg 58 (.agg nl.toArray) ∧ NowAt (w.setCells x 0 nl) x W := by
  obtain ⟨nl, ca, cc, hN, _, _, ⟨g1, g2⟩, _⟩ := out_open hG hV
  rw [hn] at hN
  have hs := hX.sets nl 0 (by rw [hN.len, h0]; exact Nat.le_refl _)
  rw [spl_all (by rw [hN.len, h0])] at hs
  exact ⟨nl, g1, g2, hX.room (by rw [h0]; exact Nat.le_refl _), agg_of hN.len hN.one, nl, hs, hN.keeps (Keeps.sets hX (by decide) 0 nl)⟩
theorem okz_ask {k : Nat} {S own last ep : Int} (h : OkZ true k S own own last ep) : OkZ false (k + 1) (stampOf S own) (ownOf S own) own (max last S) (ep + 1) := by
  obtain ⟨⟨o1, o2⟩, ⟨o3, o4⟩, ⟨o5, o6⟩, ⟨o7, o8⟩, _⟩ := h
  unfold OkZ stampOf ownOf
  by_cases h0 : own = 0
  · rw [if_pos h0, if_pos h0]
    exact ⟨by omega, by omega, by omega, by omega, .inl h0, (fun h => by cases h), fun _ => ⟨by omega, fun _ => by omega⟩⟩
  · rw [if_neg h0, if_neg h0]
    exact ⟨by omega, by omega, by omega, by omega, .inr rfl, (fun h => by cases h), fun _ => ⟨by omega, fun h => absurd h h0⟩⟩
theorem okz_fire {k : Nat} {S cown own last ep : Int} (h : OkZ false k S cown own last ep) : OkZ false (k + 1) S cown cown (max last cown) ep := by
  obtain ⟨⟨o1, o2⟩, ⟨o3, o4⟩, ⟨o5, o6⟩, ⟨o7, o8⟩, _, _, o9⟩ := h
  have o10 := (o9 rfl).1
  exact ⟨by omega, by omega, by omega, by omega, .inr rfl, (fun h => by cases h), fun _ => ⟨o10, fun h => by omega⟩⟩
theorem okz_put {k : Nat} {S cown own last ep : Int} (h : OkZ false k S cown own last ep) : OkZ true (k + 1) (S + 1) cown cown (max last cown) ep := by
  obtain ⟨⟨o1, o2⟩, ⟨o3, o4⟩, ⟨o5, o6⟩, ⟨o7, o8⟩, _, _, o9⟩ := h
  exact ⟨by omega, by omega, by omega, by omega, .inr rfl, fun _ => rfl, (fun h => by cases h)⟩
/-- A wish that is laid into a fresh block. -/
theorem put_wish (w : World) (W : Wi) (a : Option Addr) (c : Nat) : Room (w.alloc (.cells #[.int .i64 0, .int .i64 0, .int .i64 0, .int .i64 0, .int .i64 0, .int .i64 0, .slice none 0 0, .int .i64 0, .int .i64 0, .slice none 0 0] 88)) ⟨w.heap.size, 0, none⟩ 10 ∧ isAgg 10 (.agg (wishL W a c).toArray) ∧ Below w.heap.size w ((w.alloc (.cells #[.int .i64 0, .int .i64 0, .int .i64 0, .int .i64 0, .int .i64 0, .int .i64 0, .slice none 0 0, .int .i64 0, .int .i64 0, .slice none 0 0] 88)).setCells w.heap.size 0 (wishL W a c)) ∧
    Blk ((w.alloc (.cells #[.int .i64 0, .int .i64 0, .int .i64 0, .int .i64 0, .int .i64 0, .int .i64 0, .slice none 0 0, .int .i64 0, .int .i64 0, .slice none 0 0] 88)).setCells w.heap.size 0 (wishL W a c)) w.heap.size (wishL W a c) 88 := by
  have hN := Blk.new w [.int .i64 0, .int .i64 0, .int .i64 0, .int .i64 0, .int .i64 0, .int .i64 0, .slice none 0 0, .int .i64 0, .int .i64 0, .slice none 0 0] 88
  have hb := below_sets (Nat.le_refl _) (wishL W a c) 0 (Below.new w (.cells #[.int .i64 0, .int .i64 0, .int .i64 0, .int .i64 0, .int .i64 0, .int .i64 0, .slice none 0 0, .int .i64 0, .int .i64 0, .slice none 0 0] 88))
  have hs := hN.sets (wishL W a c) 0 (Nat.le_refl _)
  rw [spl_all (by rfl)] at hs
  exact ⟨hN.room (Nat.le_refl _), wish_agg W a c, hb, hs⟩
theorem make70 (w : World) : (Instr.makeSlice 70 (.int .i64 16) (.int .i64 16)).run Try.prog w = .ok (.slice (some ⟨w.heap.size, 0, none⟩) 16 16) (w.alloc (.cells (List.replicate 16 (Value.int .u8 0)).toArray 5)) := by
  kernel_rfl
attribute [local go_sem] make70
theorem zeros_bl (w : World) : BL (w.alloc (.cells (List.replicate 16 (Value.int .u8 0)).toArray 5)) (some ⟨w.heap.size, 0, none⟩) zeros16 := by
  refine ⟨⟨by decide, .inr ⟨w.heap.size, 0, (List.replicate 16 (Value.int .u8 0)).toArray, (0, 0), rfl, heap_alloc_new _ _, fun i hi => ?_⟩⟩, by decide⟩
  have h16 : i < 16 := hi
  have e1 : (List.replicate 16 (Value.int .u8 0)).toArray[0 + i]? = some (Value.int .u8 0) := by
    rw [Nat.zero_add, List.getElem?_toArray, List.getElem?_replicate, if_pos h16]
  have e2 : zeros16[i] = 0 := by simp only [zeros16, List.getElem_replicate]
  exact e1.trans (congrArg (fun z => some (Value.int .u8 z)) e2.symm)
set_option maxRecDepth 100000 in
set_option maxHeartbeats 400000000 in
theorem diskStamps_walk (a : Option Addr) (cap : Nat) (l : List Int) (w : World) (hI : Ints w a l) (hn : a = none → cap = 0) (hr : l.length ≤ 17592186044415) : Calls Try.prog 13 #[.slice a l.length cap] w fun e w' => e = .returned (.bool true) ∧ Below w.heap.size w w' := by
  have HI := Lib.hid hI
  clear hI hn
  go_enter Try.func13, Try.ntmps13
  go_wp2_with fail
  refine Calls.mono (works_is w) ?_
  rintro en w1 ⟨rfl, hb⟩
  have HB1 := Lib.hid hb
  clear hb
  go_wp2_with fail
  refine Calls.mono (directory_any _) ?_
  rintro en w2 ⟨a0, rfl, hI, hb⟩
  have HB2 := Lib.hid (Below.step HB1.out hb)
  have HI0 := Lib.hid hI
  clear hI hb
  go_wp2_with fail
  refine Calls.mono (new_is 32 1 (some a0) 4 w2 HI0.out (fun h => by cases h) (by decide) (by decide)) ?_
  rintro en w3 ⟨p, r1, rfl, hp, hr1, hC, hb⟩
  have hz := HB2.out.size
  have HP : Hid (w.heap.size ≤ p ∧ w.heap.size ≤ r1) := Lib.hid (by omega)
  have HC := Lib.hid (hC r1)
  have HP3 : Hid (Stp w.heap.size w w3) := Lib.hid (Stp.of_below (Below.step HB2.out hb) (Nat.le_refl _))
  clear hp hr1 hC hb hz
  go_wp2_with fail
  obtain ⟨w4, hw4⟩ : ∃ x, x = w3.alloc (.cells #[.int .u8 0, .int .u8 0, .int .u8 0, .int .u8 0, .int .u8 0, .int .u8 0, .int .u8 0, .int .u8 0, .int .u8 0, .int .u8 0, .int .u8 0, .int .u8 0, .int .u8 0, .int .u8 0, .int .u8 0, .int .u8 0] 5) := ⟨_, rfl⟩
  have hb4 : Below w3.heap.size w3 w4 := by rw [hw4]; exact Below.new _ _
  have hbl : BL w4 (some ⟨w3.heap.size, 0, none⟩) zeros16 := by rw [hw4]; exact zeros_bl w3
  rw [← hw4]
  clear hw4
  refine Calls.mono (write_is p r1 r1 0 (newC 32 1) 5 zeros16 (some ⟨w3.heap.size, 0, none⟩) 16 w4 (HC.out.below hb4) (by decide) (by decide) rfl hbl (fun h => by cases h) rfl (by decide) (by decide) (fun m hm => by cases hm)) ?_
  rintro en w5 ⟨lo, r2, rfl, hr2, q1, q2, q3⟩
  rw [writeX.1] at q1
  rw [writeX.2] at q2
  obtain ⟨e1, e2, hb6, hG6, hV6⟩ := put_out q2
  have hz := HP3.out.size
  have hz4 := hb4.size
  have hS6 : Sys w.heap.size _ p 0 (askZ 1 0 fun _ => none) := ⟨r1, r2, q1.below hb6, HP.out.1, HP.out.2, by have := HP.out.2; omega⟩
  have hT6 : Stp w.heap.size w _ := (((HP3.out.then hb4 (Nat.le_refl _)).trans ⟨Only.below (Below.refl _ _) q3 (by have := HP.out; simp; omega) (by omega), Stays.of_only1 q3 (HC.out.below hb4)⟩).then hb6 (Nat.le_refl _))
  have HS6 := Lib.hid hS6
  have HT6 := Lib.hid hT6
  have HG6 := Lib.hid hG6
  have HV6 := Lib.hid hV6
  clear hb4 hb6 hG6 hV6 q1 q2 q3 hr2 hz hz4 hS6 hT6 hbl
  go_upto_region 8 with (fail)
  obtain ⟨w6, hw6⟩ : ∃ x, x = (w5.alloc (.cells out0.toArray 90)).setCells w5.heap.size 0 lo := ⟨_, rfl⟩
  obtain ⟨x6, hx6⟩ : ∃ x, x = w5.heap.size := ⟨_, rfl⟩
  rw [← hw6] at HS6 HT6 HG6 HV6 ⊢
  rw [← hx6] at HG6 ⊢
  clear hw6 hx6 e1 e2
  obtain ⟨nl, ca, cc, hN, ⟨c59, _⟩, _, ⟨g1, g2⟩, _⟩ := out_open HG6.out HV6.out
  replace c59 : w6.cell? ⟨x6, 59, none⟩ = some (.bool true) := c59
  obtain ⟨e3, e4, hb7, hG7⟩ := put_note (w := w6) hN.len hN.one
  have HN7 : Hid (NowAt _ w6.heap.size (askX 1)) := Lib.hid ⟨nl, hG7, NoteV.keeps (Keeps.of_below hb7) hN⟩
  have HS7 := Lib.hid (HS6.out.below hb7)
  have HT7 := Lib.hid (HT6.out.then hb7 (Nat.le_refl _))
  clear hb7 hG7 hN
  go_upto_region 11 with (fail)
  obtain ⟨w7, hw7⟩ : ∃ x, x = (w6.alloc (.cells note0.toArray 81)).setCells w6.heap.size 0 nl := ⟨_, rfl⟩
  obtain ⟨x7, hx7⟩ : ∃ x, x = w6.heap.size := ⟨_, rfl⟩
  have hz7 := HT6.out.size
  have HX7 : Hid (w.heap.size ≤ x7) := Lib.hid (by omega)
  rw [← hw7] at HS7 HT7 HN7 ⊢
  rw [← hx7] at HN7 ⊢
  clear hw7 hx7 e3 e4 c59 g1 g2 hz7
  go_wp2_with fail
  go_loopw [9, 10, 11, 12] (fun v9 v10 v11 iv wr => ∃ (k : Nat) (b : Bool) (S cown own last ep : Int), k ≤ l.length ∧ k ≤ 30 ∧ iv = .int .i64 k ∧ v9 = .int .i64 ep ∧ v10 = .int .i64 own ∧ v11 = .int .i64 last ∧ Hid (OkZ b k S cown own last ep) ∧ Hid (Sys w.heap.size wr p (4 * k) (stZ b S cown ep)) ∧ Hid (NowAt wr x7 (wiZ b S cown ep)) ∧ Hid (Below w.heap.size w wr)) (fun _ _ _ iv _ => 30 - (intOf iv).toNat)
  case atStart => exact ⟨0, true, 1, 0, 0, 0, 0, by omega, by omega, rfl, rfl, rfl, rfl, Lib.hid (by unfold OkZ; decide), HS7, HN7, Lib.hid HT7.out.low⟩
  case round =>
    clear HS7 HN7 HT7 HT6 HS6 HG6 HV6 HP3 HC HP HI0 HB2 HB1
    obtain ⟨k, b, S, cown, own, last, ep, hk, hk30, rfl, rfl, rfl, rfl, HO, HC, HN, HB⟩ := hrel
    by_cases hlt : k < l.length
    · by_cases hl30 : k < 30
      · obtain ⟨nl', hG, hN⟩ := HN.out
        cases b
        -- PUT
        · obtain ⟨g, wa, wq, rfl, hgb, _⟩ := hN
          have HG := Lib.hid hG
          have HGB : Hid (Blk wr g (wishL (putX cown ep) wa wq) 88) := Lib.hid hgb
          have n38 := hG.cell (i := 38) rfl
          have f1 : cellsAt wr ⟨g, 0, none⟩ 10 = wishL (putX cown ep) wa wq := HGB.out.cells (Nat.le_refl _)
          have f2 := HGB.out.held (o := 0) (n := 10) (Nat.le_refl _)
          clear hG hgb
          have e3 := (put_wish wr (putX cown ep) wa wq).1
          have e4 := (put_wish wr (putX cown ep) wa wq).2.1
          go_upto_region 16 with (fail)
          obtain ⟨_, _, hb8, hW8⟩ := put_wish wr (putX cown ep) wa wq
          obtain ⟨w8, hw8⟩ : ∃ x, x = (wr.alloc (.cells #[.int .i64 0, .int .i64 0, .int .i64 0, .int .i64 0, .int .i64 0, .int .i64 0, .slice none 0 0, .int .i64 0, .int .i64 0, .slice none 0 0] 88)).setCells wr.heap.size 0 (wishL (putX cown ep) wa wq) := ⟨_, rfl⟩
          obtain ⟨x8, hx8⟩ : ∃ x, x = wr.heap.size := ⟨_, rfl⟩
          rw [← hw8] at hb8 hW8 ⊢
          have HN8 := Lib.hid (HN.out.below hb8)
          have HG8 := Lib.hid (HG.out.below hb8)
          have HC8 : Hid (Sys w.heap.size w8 p (4 * k) (putZ S cown ep (fun _ => none))) := Lib.hid (HC.out.below hb8)
          have HB8 := Lib.hid (Below.step HB.out hb8)
          rw [← hx8] at hW8 ⊢
          have HW8 := Lib.hid hW8
          clear hw8 hx8 e3 e4 n38 f1 f2 HC HN HB HG HGB hb8 hW8
          have k0 : w8.cell? ⟨x7, 0, none⟩ = some (.int .i64 1) := HG8.out.cell (i := 0) rfl
          have k1 : w8.cell? ⟨x8, 1, none⟩ = some (.int .i64 cown) := HW8.out.cell (i := 1) rfl
          have k3 : w8.cell? ⟨x8, 3, none⟩ = some (.int .i64 ep) := HW8.out.cell (i := 3) rfl
          have k4 : w8.cell? ⟨x8, 4, none⟩ = some (.int .i64 2) := HW8.out.cell (i := 4) rfl
          have k5 : w8.cell? ⟨x8, 5, none⟩ = some (.int .i64 5) := HW8.out.cell (i := 5) rfl
          obtain ⟨⟨o1, o2⟩, ⟨o3, o4⟩, ⟨o5, o6⟩, ⟨o7, o8⟩, o9, _, o10⟩ := HO.out
          obtain ⟨o11, o12⟩ := o10 rfl
          clear o10
          have HFI := Lib.hid (okz_fire HO.out)
          have HPU := Lib.hid (okz_put HO.out)
          have hcs : (own = 0 ∧ ¬ cown < last) ∨ (own = cown ∧ cown < last) ∨ (own = cown ∧ ¬ cown < last) := by
            rcases o9 with h | h
            · exact .inl ⟨h, by have := o12 h; omega⟩
            · by_cases hq : cown < last
              · exact .inr (.inl ⟨h, hq⟩)
              · exact .inr (.inr ⟨h, hq⟩)
          clear o9 o12
          rcases hcs with ⟨rfl, hcl⟩ | ⟨rfl, hcl⟩ | ⟨rfl, hcl⟩
          · go_upto_region 24 with (fail)
            clear k0 k1 k3 k5 hcl
            have hIr := HI.out.below HB8.out
            obtain ⟨b, off, rfl, hbb, hc⟩ := hIr.at_lt hlt
            have hcell := hc k hlt
            obtain ⟨y, hy⟩ : ∃ y, y = l[k] := ⟨_, rfl⟩
            rw [← hy] at hcell
            clear hy hc hIr hbb
            go_wp2_with fail
            refine Calls.mono (bring_any y 3 _ (by decide) (by decide)) ?_
            rintro en wq1 ⟨rfl, rfl⟩
            obtain ⟨m, hm⟩ : ∃ m, m = bringI y 3 := ⟨_, rfl⟩
            rw [← hm]
            clear hm hcell
            by_cases hm0 : m = 0
            · subst hm0
              clear k4
              go_wp2_with fail
              refine Calls.mono (fire_Z w.heap.size p (4 * k) false S cown ep w8 (by omega) HC8.out) ?_
              rintro en w9 ⟨l9, rfl, q1, q2, q3⟩
              obtain ⟨e1, e2, hbA, hGA, hVA⟩ := put_out q2
              have HTA := Lib.hid (q3.then hbA HC8.out.low)
              have HCA := Lib.hid (q1.below hbA)
              have HXA := Lib.hid hGA
              have HVA := Lib.hid hVA
              clear hbA hGA hVA q1 q2 q3
              go_upto_region 26 with (fail)
              obtain ⟨wA, hwA⟩ : ∃ x, x = (w9.alloc (.cells out0.toArray 90)).setCells w9.heap.size 0 l9 := ⟨_, rfl⟩
              obtain ⟨xA, hxA⟩ : ∃ x, x = w9.heap.size := ⟨_, rfl⟩
              rw [← hwA] at HTA HCA HXA HVA ⊢
              rw [← hxA] at HXA ⊢
              clear hwA hxA e1 e2
              have HNA := Lib.hid (HN8.out.stp HTA.out)
              obtain ⟨b9, ba9, bc9, k39, hB9, hL9⟩ := note39 HXA.out HVA.out (kind := 1) (fr := 32) (W := putX cown ep) rfl
              obtain ⟨g9, wa9, wq9, _, k38, hG9, hM9⟩ := HNA.out.wish
              have HB9 := Lib.hid hB9
              have HL9 := Lib.hid hL9
              have HGG := Lib.hid hG9
              have HMM := Lib.hid hM9
              clear hB9 hL9 hG9 hM9
              go_wp2_with fail
              refine Calls.mono (alike_is (putX cown ep) b9 g9 ba9 bc9 wa9 wq9 wA HB9.out HGG.out HL9.out HMM.out) ?_
              rintro en wB ⟨rfl, hbB⟩
              have HCB := Lib.hid ((HCA.out.below hbB).mono (show 4 * k ≤ 4 * (k + 1) by omega))
              have HNB := Lib.hid (HNA.out.below hbB)
              have HBB := Lib.hid (HB8.out.trans ((HTA.out.then hbB HC8.out.low).low))
              clear hbB k38 k39
              go_wp2_with fail
              go_roundw
              case rel => exact ⟨k + 1, false, S, cown, cown, max last cown, ep, by omega, by omega, by go_num, rfl, rfl, rfl, HFI, HCB, HNB, HBB⟩
              case measure => simp [intOf]; omega
            · have hm1 : (m == 0) = false := by simpa using hm0
              have hwe : IntKind.i64.wrap (ep + 1) = ep + 1 := IntWalk.i64_in _ (by omega)
              clear k4
              go_upto_region 29 with (fail)
              obtain ⟨wC, hwC⟩ : ∃ x, x = w8.alloc (.cells #[.int .i64 171, .slice none 0 0, .int .i64 (ep + 1), .slice none 0 0] 72) := ⟨_, rfl⟩
              obtain ⟨xA, hxA⟩ : ∃ x, x = w8.heap.size := ⟨_, rfl⟩
              have hbA : Below w8.heap.size w8 wC := by rw [hwC]; exact Below.new _ _
              have hXA : Blk wC xA (ansL (otherA (ep + 1)) none 0 none 0) 72 := by rw [hwC, hxA]; exact Blk.new _ _ _
              rw [← hwC]
              rw [← hxA]
              clear hwC hxA
              have HXC := Lib.hid hXA
              have HCC := Lib.hid (HC8.out.below hbA)
              have HNC : Hid (NowAt wC x7 (putX cown ep)) := Lib.hid (HN8.out.below hbA)
              have HBC := Lib.hid (Below.step HB8.out hbA)
              have k4 : wC.cell? ⟨x8, 4, none⟩ = some (.int .i64 2) := (HW8.out.below hbA).cell (i := 4) rfl
              have HXLC : Hid (BL wC none (otherA (ep + 1)).data) := Lib.hid (BL.nil _ _)
              have HYLC : Hid (IL wC none (otherA (ep + 1)).nodes) := Lib.hid (TL.nil _ _)
              clear hbA hXA
              go_upto_region 32 with (fail)
              clear k4
              obtain ⟨g3, wa3, wq3, hG3, _, hgb3, _⟩ := HNC.out.wish
              have HGB3 := Lib.hid hgb3
              obtain ⟨n1, n2⟩ := note81_at hG3 rfl (Below.refl _ _)
              have a0 := HXC.out.cell (i := 0) rfl
              have a1 := HXC.out.cell (i := 1) rfl
              have a2 := HXC.out.cell (i := 2) rfl
              have a3 := HXC.out.cell (i := 3) rfl
              clear hG3 hgb3
              go_wp2_with fail
              refine Calls.mono (reply_any 5 1 32 (putX cown ep) g3 wa3 wq3 (otherA (ep + 1)) none 0 none 0 wC HGB3.out) ?_
              rintro en wD ⟨rfl, hbD⟩
              have HXD := Lib.hid (HXC.out.below hbD)
              have hCD := HCC.out.below hbD
              have HND := Lib.hid (HNC.out.below hbD)
              have HBD := Lib.hid (Below.step HBC.out hbD)
              have HXL := Lib.hid (HXLC.out.below hbD)
              have HYL := Lib.hid (TL.below HYLC.out hbD)
              clear hbD n1 n2 a0 a1 a2 a3
              go_wp2_with fail
              refine Calls.mono (take_Z w.heap.size p (4 * k) (putZ S cown ep (fun _ => none)) (putZ S cown ep (oneF 5 (otherA (ep + 1)))) Ou.zero 5 (putX cown ep) (otherA (ep + 1)) none 0 none 0 wD (putZ_fits S cown ep _ (by omega) (fun k a h => by cases h)) (heard_putZ S cown ep _ 5 _ (.inl rfl)) (take_putZ1 S cown ep (ep + 1)).1 (take_putZ1 S cown ep (ep + 1)).2 (by omega) hCD HXL.out (fun _ => rfl) HYL.out (fun _ => rfl)) ?_
              rintro en wE ⟨lE, rfl, q1, q2, q3⟩
              obtain ⟨e1, e2, hbF, hGF, hVF⟩ := put_out q2
              have HTF := Lib.hid (q3.then hbF hCD.low)
              have HCF := Lib.hid (q1.below hbF)
              have HGF := Lib.hid hGF
              have HVF := Lib.hid hVF
              clear hbF hGF hVF q1 q2 q3 hCD
              go_upto_region 33 with (fail)
              obtain ⟨wF, hwF⟩ : ∃ x, x = (wE.alloc (.cells out0.toArray 90)).setCells wE.heap.size 0 lE := ⟨_, rfl⟩
              obtain ⟨xF, hxF⟩ : ∃ x, x = wE.heap.size := ⟨_, rfl⟩
              rw [← hwF] at HTF HCF HGF HVF ⊢
              rw [← hxF] at HGF ⊢
              clear hwF hxF e1 e2
              have HXF := Lib.hid (HTF.out.blk HXD.out (by decide))
              have HNF := Lib.hid (HND.out.stp HTF.out)
              have HBF := Lib.hid (HBD.out.trans HTF.out.low)
              have HXLF := Lib.hid (HTF.out.stays.keeps.bl HXL.out)
              have HYLF := Lib.hid (HTF.out.stays.keeps.il HYL.out)
              clear HXD HND HBD HXL HYL HTF
              obtain ⟨g4, wa4, wq4, hG4, _, hgb4, _⟩ := HNF.out.wish
              have HGB4 := Lib.hid hgb4
              obtain ⟨n1, n2⟩ := note81_at hG4 rfl (Below.refl _ _)
              have a0 := HXF.out.cell (i := 0) rfl
              have a1 := HXF.out.cell (i := 1) rfl
              have a2 := HXF.out.cell (i := 2) rfl
              have a3 := HXF.out.cell (i := 3) rfl
              have hw2 : IntKind.i64.wrap 6 = 6 := IntWalk.i64_in _ (by decide)
              clear hG4 hgb4
              go_wp2_with fail
              refine Calls.mono (reply_any 6 1 32 (putX cown ep) g4 wa4 wq4 (otherA (ep + 1)) none 0 none 0 wF HGB4.out) ?_
              rintro en wG ⟨rfl, hbG⟩
              have hCG := HCF.out.below hbG
              have HNG := Lib.hid (HNF.out.below hbG)
              have HBG := Lib.hid (Below.step HBF.out hbG)
              have HXLG := Lib.hid (HXLF.out.below hbG)
              have HYLG := Lib.hid (TL.below HYLF.out hbG)
              have HGG := Lib.hid (HGF.out.below hbG)
              have HVG := Lib.hid (HVF.out.below hbG)
              clear hbG n1 n2 a0 a1 a2 a3 hw2
              go_wp2_with fail
              refine Calls.mono (take_Z w.heap.size p (4 * k + 2) (putZ S cown ep (oneF 5 (otherA (ep + 1)))) (askZ (S + 1) cown (fun _ => none)) (againO (askZ (S + 1) cown (fun _ => none)) Ou.zero) 6 (putX cown ep) (otherA (ep + 1)) none 0 none 0 wG (putZ_fits S cown ep _ (by omega) (oneF_keys 5 _ (by decide))) (heard_putZ S cown ep _ 6 _ (.inr rfl)) (take_putZ2 S cown ep (ep + 1)).1 (take_putZ2 S cown ep (ep + 1)).2 (by omega) hCG HXLG.out (fun _ => rfl) HYLG.out (fun _ => rfl)) ?_
              rintro en wH ⟨lH, rfl, q1, q2, q3⟩
              obtain ⟨e1, e2, hbI, hGI, hVI⟩ := put_out q2
              have HTI := Lib.hid (q3.then hbI hCG.low)
              have HCI := Lib.hid (q1.below hbI)
              have HGI := Lib.hid hGI
              have HVI := Lib.hid hVI
              clear hbI hGI hVI q1 q2 q3 hCG
              go_upto_region 34 with (fail)
              obtain ⟨wI, hwI⟩ : ∃ x, x = (wH.alloc (.cells out0.toArray 90)).setCells wH.heap.size 0 lH := ⟨_, rfl⟩
              obtain ⟨xI, hxI⟩ : ∃ x, x = wH.heap.size := ⟨_, rfl⟩
              rw [← hwI] at HTI HCI HGI HVI ⊢
              rw [← hxI] at HGI ⊢
              clear hwI hxI e1 e2
              have HNI := Lib.hid (HNG.out.stp HTI.out)
              have HBI := Lib.hid (HBG.out.trans HTI.out.low)
              have HFI := Lib.hid (HTI.out.blk HGG.out (by decide))
              have HUI := Lib.hid (HTI.out.outv HVG.out)
              clear HTI HNG HBG HXLG HYLG HGG HVG
              obtain ⟨g1, g2⟩ := out_at HFI.out HUI.out.len (Below.refl _ _)
              go_wp2_with fail
              refine Calls.mono (quiet_is lE Ou.zero wI HUI.out rfl rfl rfl) ?_
              rintro en wJ ⟨rfl, hbJ⟩
              have HCJ := Lib.hid (HCI.out.below hbJ)
              have HGJ := Lib.hid (HGI.out.below hbJ)
              have HVJ := Lib.hid (HVI.out.below hbJ)
              have HNJ := Lib.hid (HNI.out.below hbJ)
              have HBJ := Lib.hid (Below.step HBI.out hbJ)
              obtain ⟨b9, ba9, bc9, k39, _, _⟩ := note39 HGJ.out HVJ.out (kind := 1) (fr := 32) (W := (askX (S + 1))) rfl
              obtain ⟨da0, dc0, na0, nc0, ⟨P60, _⟩, _⟩ := HVJ.out.parts
              replace P60 : lH[60]? = some (.bool false) := P60
              have k60 := HGJ.out.cell P60
              clear hbJ g1 g2 P60
              go_upto_region 36 with (fail)
              obtain ⟨g5, wa5, wq5, hG5, _, _, _⟩ := HNJ.out.wish
              obtain ⟨nlJ, m1, m2, m3, m4, hNK⟩ := now_of (W := (askX (S + 1))) hG5 rfl HGJ.out HVJ.out rfl
              have HCK : Hid (Sys w.heap.size (wJ.setCells x7 0 nlJ) p (4 * k + 2 + 2) (askZ (S + 1) cown (fun _ => none))) := Lib.hid (Sys.setCells HCJ.out hG5 (by decide) (by decide) 0 nlJ)
              have HBK : Hid (Below w.heap.size w (wJ.setCells x7 0 nlJ)) := Lib.hid (below_sets HX7.out nlJ 0 HBJ.out)
              have HNK := Lib.hid hNK
              have HOB : Hid (OkZ true (k + 1) (S + 1) cown cown (max last cown) ep) := Lib.hid HPU.out
              clear hG5 hNK k39 k60
              go_wp2_with fail
              go_roundw
              case rel => exact ⟨k + 1, true, S + 1, cown, cown, max last cown, ep, by omega, by omega, by go_num, rfl, rfl, rfl, HOB, Lib.hid (HCK.out.mono (by omega)), HNK, HBK⟩
              case measure => simp [intOf]; omega
          · have hcz : (own == 0) = false := by simpa using (show ¬ own = 0 by omega)
            go_upto_region 24 with (fail)
            clear k0 k1 k3 k5 hcl
            have hIr := HI.out.below HB8.out
            obtain ⟨b, off, rfl, hbb, hc⟩ := hIr.at_lt hlt
            have hcell := hc k hlt
            obtain ⟨y, hy⟩ : ∃ y, y = l[k] := ⟨_, rfl⟩
            rw [← hy] at hcell
            clear hy hc hIr hbb
            go_wp2_with fail
            refine Calls.mono (bring_any y 3 _ (by decide) (by decide)) ?_
            rintro en wq1 ⟨rfl, rfl⟩
            obtain ⟨m, hm⟩ : ∃ m, m = bringI y 3 := ⟨_, rfl⟩
            rw [← hm]
            clear hm hcell
            by_cases hm0 : m = 0
            · subst hm0
              clear k4
              go_wp2_with fail
              refine Calls.mono (fire_Z w.heap.size p (4 * k) false S own ep w8 (by omega) HC8.out) ?_
              rintro en w9 ⟨l9, rfl, q1, q2, q3⟩
              obtain ⟨e1, e2, hbA, hGA, hVA⟩ := put_out q2
              have HTA := Lib.hid (q3.then hbA HC8.out.low)
              have HCA := Lib.hid (q1.below hbA)
              have HXA := Lib.hid hGA
              have HVA := Lib.hid hVA
              clear hbA hGA hVA q1 q2 q3
              go_upto_region 26 with (fail)
              obtain ⟨wA, hwA⟩ : ∃ x, x = (w9.alloc (.cells out0.toArray 90)).setCells w9.heap.size 0 l9 := ⟨_, rfl⟩
              obtain ⟨xA, hxA⟩ : ∃ x, x = w9.heap.size := ⟨_, rfl⟩
              rw [← hwA] at HTA HCA HXA HVA ⊢
              rw [← hxA] at HXA ⊢
              clear hwA hxA e1 e2
              have HNA := Lib.hid (HN8.out.stp HTA.out)
              obtain ⟨b9, ba9, bc9, k39, hB9, hL9⟩ := note39 HXA.out HVA.out (kind := 1) (fr := 32) (W := putX own ep) rfl
              obtain ⟨g9, wa9, wq9, _, k38, hG9, hM9⟩ := HNA.out.wish
              have HB9 := Lib.hid hB9
              have HL9 := Lib.hid hL9
              have HGG := Lib.hid hG9
              have HMM := Lib.hid hM9
              clear hB9 hL9 hG9 hM9
              go_wp2_with fail
              refine Calls.mono (alike_is (putX own ep) b9 g9 ba9 bc9 wa9 wq9 wA HB9.out HGG.out HL9.out HMM.out) ?_
              rintro en wB ⟨rfl, hbB⟩
              have HCB := Lib.hid ((HCA.out.below hbB).mono (show 4 * k ≤ 4 * (k + 1) by omega))
              have HNB := Lib.hid (HNA.out.below hbB)
              have HBB := Lib.hid (HB8.out.trans ((HTA.out.then hbB HC8.out.low).low))
              clear hbB k38 k39
              go_wp2_with fail
              go_roundw
              case rel => exact ⟨k + 1, false, S, own, own, max last own, ep, by omega, by omega, by go_num, rfl, rfl, rfl, HFI, HCB, HNB, HBB⟩
              case measure => simp [intOf]; omega
            · have hm1 : (m == 0) = false := by simpa using hm0
              have hwe : IntKind.i64.wrap (ep + 1) = ep + 1 := IntWalk.i64_in _ (by omega)
              clear k4
              go_upto_region 29 with (fail)
              obtain ⟨wC, hwC⟩ : ∃ x, x = w8.alloc (.cells #[.int .i64 171, .slice none 0 0, .int .i64 (ep + 1), .slice none 0 0] 72) := ⟨_, rfl⟩
              obtain ⟨xA, hxA⟩ : ∃ x, x = w8.heap.size := ⟨_, rfl⟩
              have hbA : Below w8.heap.size w8 wC := by rw [hwC]; exact Below.new _ _
              have hXA : Blk wC xA (ansL (otherA (ep + 1)) none 0 none 0) 72 := by rw [hwC, hxA]; exact Blk.new _ _ _
              rw [← hwC]
              rw [← hxA]
              clear hwC hxA
              have HXC := Lib.hid hXA
              have HCC := Lib.hid (HC8.out.below hbA)
              have HNC : Hid (NowAt wC x7 (putX own ep)) := Lib.hid (HN8.out.below hbA)
              have HBC := Lib.hid (Below.step HB8.out hbA)
              have k4 : wC.cell? ⟨x8, 4, none⟩ = some (.int .i64 2) := (HW8.out.below hbA).cell (i := 4) rfl
              have HXLC : Hid (BL wC none (otherA (ep + 1)).data) := Lib.hid (BL.nil _ _)
              have HYLC : Hid (IL wC none (otherA (ep + 1)).nodes) := Lib.hid (TL.nil _ _)
              clear hbA hXA
              go_upto_region 32 with (fail)
              clear k4
              obtain ⟨g3, wa3, wq3, hG3, _, hgb3, _⟩ := HNC.out.wish
              have HGB3 := Lib.hid hgb3
              obtain ⟨n1, n2⟩ := note81_at hG3 rfl (Below.refl _ _)
              have a0 := HXC.out.cell (i := 0) rfl
              have a1 := HXC.out.cell (i := 1) rfl
              have a2 := HXC.out.cell (i := 2) rfl
              have a3 := HXC.out.cell (i := 3) rfl
              clear hG3 hgb3
              go_wp2_with fail
              refine Calls.mono (reply_any 5 1 32 (putX own ep) g3 wa3 wq3 (otherA (ep + 1)) none 0 none 0 wC HGB3.out) ?_
              rintro en wD ⟨rfl, hbD⟩
              have HXD := Lib.hid (HXC.out.below hbD)
              have hCD := HCC.out.below hbD
              have HND := Lib.hid (HNC.out.below hbD)
              have HBD := Lib.hid (Below.step HBC.out hbD)
              have HXL := Lib.hid (HXLC.out.below hbD)
              have HYL := Lib.hid (TL.below HYLC.out hbD)
              clear hbD n1 n2 a0 a1 a2 a3
              go_wp2_with fail
              refine Calls.mono (take_Z w.heap.size p (4 * k) (putZ S own ep (fun _ => none)) (putZ S own ep (oneF 5 (otherA (ep + 1)))) Ou.zero 5 (putX own ep) (otherA (ep + 1)) none 0 none 0 wD (putZ_fits S own ep _ (by omega) (fun k a h => by cases h)) (heard_putZ S own ep _ 5 _ (.inl rfl)) (take_putZ1 S own ep (ep + 1)).1 (take_putZ1 S own ep (ep + 1)).2 (by omega) hCD HXL.out (fun _ => rfl) HYL.out (fun _ => rfl)) ?_
              rintro en wE ⟨lE, rfl, q1, q2, q3⟩
              obtain ⟨e1, e2, hbF, hGF, hVF⟩ := put_out q2
              have HTF := Lib.hid (q3.then hbF hCD.low)
              have HCF := Lib.hid (q1.below hbF)
              have HGF := Lib.hid hGF
              have HVF := Lib.hid hVF
              clear hbF hGF hVF q1 q2 q3 hCD
              go_upto_region 33 with (fail)
              obtain ⟨wF, hwF⟩ : ∃ x, x = (wE.alloc (.cells out0.toArray 90)).setCells wE.heap.size 0 lE := ⟨_, rfl⟩
              obtain ⟨xF, hxF⟩ : ∃ x, x = wE.heap.size := ⟨_, rfl⟩
              rw [← hwF] at HTF HCF HGF HVF ⊢
              rw [← hxF] at HGF ⊢
              clear hwF hxF e1 e2
              have HXF := Lib.hid (HTF.out.blk HXD.out (by decide))
              have HNF := Lib.hid (HND.out.stp HTF.out)
              have HBF := Lib.hid (HBD.out.trans HTF.out.low)
              have HXLF := Lib.hid (HTF.out.stays.keeps.bl HXL.out)
              have HYLF := Lib.hid (HTF.out.stays.keeps.il HYL.out)
              clear HXD HND HBD HXL HYL HTF
              obtain ⟨g4, wa4, wq4, hG4, _, hgb4, _⟩ := HNF.out.wish
              have HGB4 := Lib.hid hgb4
              obtain ⟨n1, n2⟩ := note81_at hG4 rfl (Below.refl _ _)
              have a0 := HXF.out.cell (i := 0) rfl
              have a1 := HXF.out.cell (i := 1) rfl
              have a2 := HXF.out.cell (i := 2) rfl
              have a3 := HXF.out.cell (i := 3) rfl
              have hw2 : IntKind.i64.wrap 6 = 6 := IntWalk.i64_in _ (by decide)
              clear hG4 hgb4
              go_wp2_with fail
              refine Calls.mono (reply_any 6 1 32 (putX own ep) g4 wa4 wq4 (otherA (ep + 1)) none 0 none 0 wF HGB4.out) ?_
              rintro en wG ⟨rfl, hbG⟩
              have hCG := HCF.out.below hbG
              have HNG := Lib.hid (HNF.out.below hbG)
              have HBG := Lib.hid (Below.step HBF.out hbG)
              have HXLG := Lib.hid (HXLF.out.below hbG)
              have HYLG := Lib.hid (TL.below HYLF.out hbG)
              have HGG := Lib.hid (HGF.out.below hbG)
              have HVG := Lib.hid (HVF.out.below hbG)
              clear hbG n1 n2 a0 a1 a2 a3 hw2
              go_wp2_with fail
              refine Calls.mono (take_Z w.heap.size p (4 * k + 2) (putZ S own ep (oneF 5 (otherA (ep + 1)))) (askZ (S + 1) own (fun _ => none)) (againO (askZ (S + 1) own (fun _ => none)) Ou.zero) 6 (putX own ep) (otherA (ep + 1)) none 0 none 0 wG (putZ_fits S own ep _ (by omega) (oneF_keys 5 _ (by decide))) (heard_putZ S own ep _ 6 _ (.inr rfl)) (take_putZ2 S own ep (ep + 1)).1 (take_putZ2 S own ep (ep + 1)).2 (by omega) hCG HXLG.out (fun _ => rfl) HYLG.out (fun _ => rfl)) ?_
              rintro en wH ⟨lH, rfl, q1, q2, q3⟩
              obtain ⟨e1, e2, hbI, hGI, hVI⟩ := put_out q2
              have HTI := Lib.hid (q3.then hbI hCG.low)
              have HCI := Lib.hid (q1.below hbI)
              have HGI := Lib.hid hGI
              have HVI := Lib.hid hVI
              clear hbI hGI hVI q1 q2 q3 hCG
              go_upto_region 34 with (fail)
              obtain ⟨wI, hwI⟩ : ∃ x, x = (wH.alloc (.cells out0.toArray 90)).setCells wH.heap.size 0 lH := ⟨_, rfl⟩
              obtain ⟨xI, hxI⟩ : ∃ x, x = wH.heap.size := ⟨_, rfl⟩
              rw [← hwI] at HTI HCI HGI HVI ⊢
              rw [← hxI] at HGI ⊢
              clear hwI hxI e1 e2
              have HNI := Lib.hid (HNG.out.stp HTI.out)
              have HBI := Lib.hid (HBG.out.trans HTI.out.low)
              have HFI := Lib.hid (HTI.out.blk HGG.out (by decide))
              have HUI := Lib.hid (HTI.out.outv HVG.out)
              clear HTI HNG HBG HXLG HYLG HGG HVG
              obtain ⟨g1, g2⟩ := out_at HFI.out HUI.out.len (Below.refl _ _)
              go_wp2_with fail
              refine Calls.mono (quiet_is lE Ou.zero wI HUI.out rfl rfl rfl) ?_
              rintro en wJ ⟨rfl, hbJ⟩
              have HCJ := Lib.hid (HCI.out.below hbJ)
              have HGJ := Lib.hid (HGI.out.below hbJ)
              have HVJ := Lib.hid (HVI.out.below hbJ)
              have HNJ := Lib.hid (HNI.out.below hbJ)
              have HBJ := Lib.hid (Below.step HBI.out hbJ)
              obtain ⟨b9, ba9, bc9, k39, _, _⟩ := note39 HGJ.out HVJ.out (kind := 1) (fr := 32) (W := (askX (S + 1))) rfl
              obtain ⟨da0, dc0, na0, nc0, ⟨P60, _⟩, _⟩ := HVJ.out.parts
              replace P60 : lH[60]? = some (.bool false) := P60
              have k60 := HGJ.out.cell P60
              clear hbJ g1 g2 P60
              go_upto_region 36 with (fail)
              obtain ⟨g5, wa5, wq5, hG5, _, _, _⟩ := HNJ.out.wish
              obtain ⟨nlJ, m1, m2, m3, m4, hNK⟩ := now_of (W := (askX (S + 1))) hG5 rfl HGJ.out HVJ.out rfl
              have HCK : Hid (Sys w.heap.size (wJ.setCells x7 0 nlJ) p (4 * k + 2 + 2) (askZ (S + 1) own (fun _ => none))) := Lib.hid (Sys.setCells HCJ.out hG5 (by decide) (by decide) 0 nlJ)
              have HBK : Hid (Below w.heap.size w (wJ.setCells x7 0 nlJ)) := Lib.hid (below_sets HX7.out nlJ 0 HBJ.out)
              have HNK := Lib.hid hNK
              have HOB : Hid (OkZ true (k + 1) (S + 1) own own (max last own) ep) := Lib.hid HPU.out
              clear hG5 hNK k39 k60
              go_wp2_with fail
              go_roundw
              case rel => exact ⟨k + 1, true, S + 1, own, own, max last own, ep, by omega, by omega, by go_num, rfl, rfl, rfl, HOB, Lib.hid (HCK.out.mono (by omega)), HNK, HBK⟩
              case measure => simp [intOf]; omega
          · have hcz : (own == 0) = false := by simpa using (show ¬ own = 0 by omega)
            go_upto_region 24 with (fail)
            clear k0 k1 k3 k5 hcl
            have hIr := HI.out.below HB8.out
            obtain ⟨b, off, rfl, hbb, hc⟩ := hIr.at_lt hlt
            have hcell := hc k hlt
            obtain ⟨y, hy⟩ : ∃ y, y = l[k] := ⟨_, rfl⟩
            rw [← hy] at hcell
            clear hy hc hIr hbb
            go_wp2_with fail
            refine Calls.mono (bring_any y 3 _ (by decide) (by decide)) ?_
            rintro en wq1 ⟨rfl, rfl⟩
            obtain ⟨m, hm⟩ : ∃ m, m = bringI y 3 := ⟨_, rfl⟩
            rw [← hm]
            clear hm hcell
            by_cases hm0 : m = 0
            · subst hm0
              clear k4
              go_wp2_with fail
              refine Calls.mono (fire_Z w.heap.size p (4 * k) false S own ep w8 (by omega) HC8.out) ?_
              rintro en w9 ⟨l9, rfl, q1, q2, q3⟩
              obtain ⟨e1, e2, hbA, hGA, hVA⟩ := put_out q2
              have HTA := Lib.hid (q3.then hbA HC8.out.low)
              have HCA := Lib.hid (q1.below hbA)
              have HXA := Lib.hid hGA
              have HVA := Lib.hid hVA
              clear hbA hGA hVA q1 q2 q3
              go_upto_region 26 with (fail)
              obtain ⟨wA, hwA⟩ : ∃ x, x = (w9.alloc (.cells out0.toArray 90)).setCells w9.heap.size 0 l9 := ⟨_, rfl⟩
              obtain ⟨xA, hxA⟩ : ∃ x, x = w9.heap.size := ⟨_, rfl⟩
              rw [← hwA] at HTA HCA HXA HVA ⊢
              rw [← hxA] at HXA ⊢
              clear hwA hxA e1 e2
              have HNA := Lib.hid (HN8.out.stp HTA.out)
              obtain ⟨b9, ba9, bc9, k39, hB9, hL9⟩ := note39 HXA.out HVA.out (kind := 1) (fr := 32) (W := putX own ep) rfl
              obtain ⟨g9, wa9, wq9, _, k38, hG9, hM9⟩ := HNA.out.wish
              have HB9 := Lib.hid hB9
              have HL9 := Lib.hid hL9
              have HGG := Lib.hid hG9
              have HMM := Lib.hid hM9
              clear hB9 hL9 hG9 hM9
              go_wp2_with fail
              refine Calls.mono (alike_is (putX own ep) b9 g9 ba9 bc9 wa9 wq9 wA HB9.out HGG.out HL9.out HMM.out) ?_
              rintro en wB ⟨rfl, hbB⟩
              have HCB := Lib.hid ((HCA.out.below hbB).mono (show 4 * k ≤ 4 * (k + 1) by omega))
              have HNB := Lib.hid (HNA.out.below hbB)
              have HBB := Lib.hid (HB8.out.trans ((HTA.out.then hbB HC8.out.low).low))
              clear hbB k38 k39
              go_wp2_with fail
              go_roundw
              case rel => exact ⟨k + 1, false, S, own, own, max last own, ep, by omega, by omega, by go_num, rfl, rfl, rfl, HFI, HCB, HNB, HBB⟩
              case measure => simp [intOf]; omega
            · have hm1 : (m == 0) = false := by simpa using hm0
              have hwe : IntKind.i64.wrap (ep + 1) = ep + 1 := IntWalk.i64_in _ (by omega)
              clear k4
              go_upto_region 29 with (fail)
              obtain ⟨wC, hwC⟩ : ∃ x, x = w8.alloc (.cells #[.int .i64 171, .slice none 0 0, .int .i64 (ep + 1), .slice none 0 0] 72) := ⟨_, rfl⟩
              obtain ⟨xA, hxA⟩ : ∃ x, x = w8.heap.size := ⟨_, rfl⟩
              have hbA : Below w8.heap.size w8 wC := by rw [hwC]; exact Below.new _ _
              have hXA : Blk wC xA (ansL (otherA (ep + 1)) none 0 none 0) 72 := by rw [hwC, hxA]; exact Blk.new _ _ _
              rw [← hwC]
              rw [← hxA]
              clear hwC hxA
              have HXC := Lib.hid hXA
              have HCC := Lib.hid (HC8.out.below hbA)
              have HNC : Hid (NowAt wC x7 (putX own ep)) := Lib.hid (HN8.out.below hbA)
              have HBC := Lib.hid (Below.step HB8.out hbA)
              have k4 : wC.cell? ⟨x8, 4, none⟩ = some (.int .i64 2) := (HW8.out.below hbA).cell (i := 4) rfl
              have HXLC : Hid (BL wC none (otherA (ep + 1)).data) := Lib.hid (BL.nil _ _)
              have HYLC : Hid (IL wC none (otherA (ep + 1)).nodes) := Lib.hid (TL.nil _ _)
              clear hbA hXA
              go_upto_region 32 with (fail)
              clear k4
              obtain ⟨g3, wa3, wq3, hG3, _, hgb3, _⟩ := HNC.out.wish
              have HGB3 := Lib.hid hgb3
              obtain ⟨n1, n2⟩ := note81_at hG3 rfl (Below.refl _ _)
              have a0 := HXC.out.cell (i := 0) rfl
              have a1 := HXC.out.cell (i := 1) rfl
              have a2 := HXC.out.cell (i := 2) rfl
              have a3 := HXC.out.cell (i := 3) rfl
              clear hG3 hgb3
              go_wp2_with fail
              refine Calls.mono (reply_any 5 1 32 (putX own ep) g3 wa3 wq3 (otherA (ep + 1)) none 0 none 0 wC HGB3.out) ?_
              rintro en wD ⟨rfl, hbD⟩
              have HXD := Lib.hid (HXC.out.below hbD)
              have hCD := HCC.out.below hbD
              have HND := Lib.hid (HNC.out.below hbD)
              have HBD := Lib.hid (Below.step HBC.out hbD)
              have HXL := Lib.hid (HXLC.out.below hbD)
              have HYL := Lib.hid (TL.below HYLC.out hbD)
              clear hbD n1 n2 a0 a1 a2 a3
              go_wp2_with fail
              refine Calls.mono (take_Z w.heap.size p (4 * k) (putZ S own ep (fun _ => none)) (putZ S own ep (oneF 5 (otherA (ep + 1)))) Ou.zero 5 (putX own ep) (otherA (ep + 1)) none 0 none 0 wD (putZ_fits S own ep _ (by omega) (fun k a h => by cases h)) (heard_putZ S own ep _ 5 _ (.inl rfl)) (take_putZ1 S own ep (ep + 1)).1 (take_putZ1 S own ep (ep + 1)).2 (by omega) hCD HXL.out (fun _ => rfl) HYL.out (fun _ => rfl)) ?_
              rintro en wE ⟨lE, rfl, q1, q2, q3⟩
              obtain ⟨e1, e2, hbF, hGF, hVF⟩ := put_out q2
              have HTF := Lib.hid (q3.then hbF hCD.low)
              have HCF := Lib.hid (q1.below hbF)
              have HGF := Lib.hid hGF
              have HVF := Lib.hid hVF
              clear hbF hGF hVF q1 q2 q3 hCD
              go_upto_region 33 with (fail)
              obtain ⟨wF, hwF⟩ : ∃ x, x = (wE.alloc (.cells out0.toArray 90)).setCells wE.heap.size 0 lE := ⟨_, rfl⟩
              obtain ⟨xF, hxF⟩ : ∃ x, x = wE.heap.size := ⟨_, rfl⟩
              rw [← hwF] at HTF HCF HGF HVF ⊢
              rw [← hxF] at HGF ⊢
              clear hwF hxF e1 e2
              have HXF := Lib.hid (HTF.out.blk HXD.out (by decide))
              have HNF := Lib.hid (HND.out.stp HTF.out)
              have HBF := Lib.hid (HBD.out.trans HTF.out.low)
              have HXLF := Lib.hid (HTF.out.stays.keeps.bl HXL.out)
              have HYLF := Lib.hid (HTF.out.stays.keeps.il HYL.out)
              clear HXD HND HBD HXL HYL HTF
              obtain ⟨g4, wa4, wq4, hG4, _, hgb4, _⟩ := HNF.out.wish
              have HGB4 := Lib.hid hgb4
              obtain ⟨n1, n2⟩ := note81_at hG4 rfl (Below.refl _ _)
              have a0 := HXF.out.cell (i := 0) rfl
              have a1 := HXF.out.cell (i := 1) rfl
              have a2 := HXF.out.cell (i := 2) rfl
              have a3 := HXF.out.cell (i := 3) rfl
              have hw2 : IntKind.i64.wrap 6 = 6 := IntWalk.i64_in _ (by decide)
              clear hG4 hgb4
              go_wp2_with fail
              refine Calls.mono (reply_any 6 1 32 (putX own ep) g4 wa4 wq4 (otherA (ep + 1)) none 0 none 0 wF HGB4.out) ?_
              rintro en wG ⟨rfl, hbG⟩
              have hCG := HCF.out.below hbG
              have HNG := Lib.hid (HNF.out.below hbG)
              have HBG := Lib.hid (Below.step HBF.out hbG)
              have HXLG := Lib.hid (HXLF.out.below hbG)
              have HYLG := Lib.hid (TL.below HYLF.out hbG)
              have HGG := Lib.hid (HGF.out.below hbG)
              have HVG := Lib.hid (HVF.out.below hbG)
              clear hbG n1 n2 a0 a1 a2 a3 hw2
              go_wp2_with fail
              refine Calls.mono (take_Z w.heap.size p (4 * k + 2) (putZ S own ep (oneF 5 (otherA (ep + 1)))) (askZ (S + 1) own (fun _ => none)) (againO (askZ (S + 1) own (fun _ => none)) Ou.zero) 6 (putX own ep) (otherA (ep + 1)) none 0 none 0 wG (putZ_fits S own ep _ (by omega) (oneF_keys 5 _ (by decide))) (heard_putZ S own ep _ 6 _ (.inr rfl)) (take_putZ2 S own ep (ep + 1)).1 (take_putZ2 S own ep (ep + 1)).2 (by omega) hCG HXLG.out (fun _ => rfl) HYLG.out (fun _ => rfl)) ?_
              rintro en wH ⟨lH, rfl, q1, q2, q3⟩
              obtain ⟨e1, e2, hbI, hGI, hVI⟩ := put_out q2
              have HTI := Lib.hid (q3.then hbI hCG.low)
              have HCI := Lib.hid (q1.below hbI)
              have HGI := Lib.hid hGI
              have HVI := Lib.hid hVI
              clear hbI hGI hVI q1 q2 q3 hCG
              go_upto_region 34 with (fail)
              obtain ⟨wI, hwI⟩ : ∃ x, x = (wH.alloc (.cells out0.toArray 90)).setCells wH.heap.size 0 lH := ⟨_, rfl⟩
              obtain ⟨xI, hxI⟩ : ∃ x, x = wH.heap.size := ⟨_, rfl⟩
              rw [← hwI] at HTI HCI HGI HVI ⊢
              rw [← hxI] at HGI ⊢
              clear hwI hxI e1 e2
              have HNI := Lib.hid (HNG.out.stp HTI.out)
              have HBI := Lib.hid (HBG.out.trans HTI.out.low)
              have HFI := Lib.hid (HTI.out.blk HGG.out (by decide))
              have HUI := Lib.hid (HTI.out.outv HVG.out)
              clear HTI HNG HBG HXLG HYLG HGG HVG
              obtain ⟨g1, g2⟩ := out_at HFI.out HUI.out.len (Below.refl _ _)
              go_wp2_with fail
              refine Calls.mono (quiet_is lE Ou.zero wI HUI.out rfl rfl rfl) ?_
              rintro en wJ ⟨rfl, hbJ⟩
              have HCJ := Lib.hid (HCI.out.below hbJ)
              have HGJ := Lib.hid (HGI.out.below hbJ)
              have HVJ := Lib.hid (HVI.out.below hbJ)
              have HNJ := Lib.hid (HNI.out.below hbJ)
              have HBJ := Lib.hid (Below.step HBI.out hbJ)
              obtain ⟨b9, ba9, bc9, k39, _, _⟩ := note39 HGJ.out HVJ.out (kind := 1) (fr := 32) (W := (askX (S + 1))) rfl
              obtain ⟨da0, dc0, na0, nc0, ⟨P60, _⟩, _⟩ := HVJ.out.parts
              replace P60 : lH[60]? = some (.bool false) := P60
              have k60 := HGJ.out.cell P60
              clear hbJ g1 g2 P60
              go_upto_region 36 with (fail)
              obtain ⟨g5, wa5, wq5, hG5, _, _, _⟩ := HNJ.out.wish
              obtain ⟨nlJ, m1, m2, m3, m4, hNK⟩ := now_of (W := (askX (S + 1))) hG5 rfl HGJ.out HVJ.out rfl
              have HCK : Hid (Sys w.heap.size (wJ.setCells x7 0 nlJ) p (4 * k + 2 + 2) (askZ (S + 1) own (fun _ => none))) := Lib.hid (Sys.setCells HCJ.out hG5 (by decide) (by decide) 0 nlJ)
              have HBK : Hid (Below w.heap.size w (wJ.setCells x7 0 nlJ)) := Lib.hid (below_sets HX7.out nlJ 0 HBJ.out)
              have HNK := Lib.hid hNK
              have HOB : Hid (OkZ true (k + 1) (S + 1) own own (max last own) ep) := Lib.hid HPU.out
              clear hG5 hNK k39 k60
              go_wp2_with fail
              go_roundw
              case rel => exact ⟨k + 1, true, S + 1, own, own, max last own, ep, by omega, by omega, by go_num, rfl, rfl, rfl, HOB, Lib.hid (HCK.out.mono (by omega)), HNK, HBK⟩
              case measure => simp [intOf]; omega
        -- END PUT
        · obtain ⟨g, wa, wq, rfl, hgb, _⟩ := hN
          have HG := Lib.hid hG
          have HGB : Hid (Blk wr g (wishL (askX S) wa wq) 88) := Lib.hid hgb
          have n38 := hG.cell (i := 38) rfl
          have f1 : cellsAt wr ⟨g, 0, none⟩ 10 = wishL (askX S) wa wq := HGB.out.cells (Nat.le_refl _)
          have f2 := HGB.out.held (o := 0) (n := 10) (Nat.le_refl _)
          clear hG hgb
          have e3 := (put_wish wr (askX S) wa wq).1
          have e4 := (put_wish wr (askX S) wa wq).2.1
          go_upto_region 16 with (fail)
          obtain ⟨_, _, hb8, hW8⟩ := put_wish wr (askX S) wa wq
          obtain ⟨w8, hw8⟩ : ∃ x, x = (wr.alloc (.cells #[.int .i64 0, .int .i64 0, .int .i64 0, .int .i64 0, .int .i64 0, .int .i64 0, .slice none 0 0, .int .i64 0, .int .i64 0, .slice none 0 0] 88)).setCells wr.heap.size 0 (wishL (askX S) wa wq) := ⟨_, rfl⟩
          obtain ⟨x8, hx8⟩ : ∃ x, x = wr.heap.size := ⟨_, rfl⟩
          rw [← hw8] at hb8 hW8 ⊢
          have HN8 := Lib.hid (HN.out.below hb8)
          have HG8 := Lib.hid (HG.out.below hb8)
          have HGB8 := Lib.hid (HGB.out.below hb8)
          have HC8 : Hid (Sys w.heap.size w8 p (4 * k) (askZ S cown (fun _ => none))) := Lib.hid (HC.out.below hb8)
          have HB8 := Lib.hid (Below.step HB.out hb8)
          rw [← hx8] at hW8 ⊢
          have HW8 := Lib.hid hW8
          clear hw8 hx8 e3 e4 n38 f1 f2 HC HN HB HG HGB hb8 hW8
          have k1 : w8.cell? ⟨x8, 1, none⟩ = some (.int .i64 S) := HW8.out.cell (i := 1) rfl
          have k4 : w8.cell? ⟨x8, 4, none⟩ = some (.int .i64 3) := HW8.out.cell (i := 4) rfl
          obtain ⟨⟨o1, o2⟩, ⟨o3, o4⟩, ⟨o5, o6⟩, ⟨o7, o8⟩, o9, o10, _⟩ := HO.out
          have o11 := o10 rfl
          clear o9 o10
          subst o11
          have hls : ¬ S < last := by omega
          go_upto_region 24 with (fail)
          clear k1 hls
          have hIr := HI.out.below HB8.out
          obtain ⟨b, off, rfl, hbb, hc⟩ := hIr.at_lt hlt
          have hcell := hc k hlt
          obtain ⟨y, hy⟩ : ∃ y, y = l[k] := ⟨_, rfl⟩
          rw [← hy] at hcell
          clear hy hc hIr hbb
          go_wp2_with fail
          refine Calls.mono (bring_any y 3 _ (by decide) (by decide)) ?_
          rintro en wq1 ⟨rfl, rfl⟩
          obtain ⟨m, hm⟩ : ∃ m, m = bringI y 3 := ⟨_, rfl⟩
          rw [← hm]
          clear hm hcell
          by_cases hm0 : m = 0
          · subst hm0
            clear k4
            go_wp2_with fail
            refine Calls.mono (fire_Z w.heap.size p (4 * k) true S own ep w8 (by omega) HC8.out) ?_
            rintro en w9 ⟨l9, rfl, q1, q2, q3⟩
            obtain ⟨e1, e2, hbA, hGA, hVA⟩ := put_out q2
            have HTA := Lib.hid (q3.then hbA HC8.out.low)
            have HCA := Lib.hid (q1.below hbA)
            have HXA := Lib.hid hGA
            have HVA := Lib.hid hVA
            clear hbA hGA hVA q1 q2 q3
            go_upto_region 26 with (fail)
            obtain ⟨wA, hwA⟩ : ∃ x, x = (w9.alloc (.cells out0.toArray 90)).setCells w9.heap.size 0 l9 := ⟨_, rfl⟩
            obtain ⟨xA, hxA⟩ : ∃ x, x = w9.heap.size := ⟨_, rfl⟩
            rw [← hwA] at HTA HCA HXA HVA ⊢
            rw [← hxA] at HXA ⊢
            clear hwA hxA e1 e2
            have HNA := Lib.hid (HN8.out.stp HTA.out)
            obtain ⟨b9, ba9, bc9, k39, hB9, hL9⟩ := note39 HXA.out HVA.out (kind := 1) (fr := 32) (W := askX S) rfl
            obtain ⟨g9, wa9, wq9, _, k38, hG9, hM9⟩ := HNA.out.wish
            have HB9 := Lib.hid hB9
            have HL9 := Lib.hid hL9
            have HGG := Lib.hid hG9
            have HMM := Lib.hid hM9
            clear hB9 hL9 hG9 hM9
            go_wp2_with fail
            refine Calls.mono (alike_is (askX S) b9 g9 ba9 bc9 wa9 wq9 wA HB9.out HGG.out HL9.out HMM.out) ?_
            rintro en wB ⟨rfl, hbB⟩
            have HCB := Lib.hid ((HCA.out.below hbB).mono (show 4 * k ≤ 4 * (k + 1) by omega))
            have HNB := Lib.hid (HNA.out.below hbB)
            have HBB := Lib.hid (HB8.out.trans ((HTA.out.then hbB HC8.out.low).low))
            have HOB : Hid (OkZ true (k + 1) S own own (max last S) ep) := Lib.hid ⟨by omega, by omega, by omega, by omega, .inr rfl, fun _ => rfl, fun h => by cases h⟩
            clear hbB k38 k39
            go_wp2_with fail
            go_roundw
            case rel => exact ⟨k + 1, true, S, own, own, max last S, ep, by omega, by omega, by go_num, rfl, rfl, rfl, HOB, HCB, HNB, HBB⟩
            case measure => simp [intOf]; omega
          · have hm1 : (m == 0) = false := by simpa using hm0
            have hwe : IntKind.i64.wrap (ep + 1) = ep + 1 := IntWalk.i64_in _ (by omega)
            clear k4
            go_upto_region 29 with (fail)
            obtain ⟨wA, hwA⟩ : ∃ x, x = w8.alloc (.cells #[.int .i64 171, .slice none 0 0, .int .i64 (ep + 1), .slice none 0 0] 72) := ⟨_, rfl⟩
            obtain ⟨xA, hxA⟩ : ∃ x, x = w8.heap.size := ⟨_, rfl⟩
            have hbA : Below w8.heap.size w8 wA := by rw [hwA]; exact Below.new _ _
            have hXA : Blk wA xA [.int .i64 171, .slice none 0 0, .int .i64 (ep + 1), .slice none 0 0] 72 := by rw [hwA, hxA]; exact Blk.new _ _ _
            have HXW : Hid (w.heap.size ≤ xA) := Lib.hid (by rw [hxA]; exact HB8.out.size)
            rw [← hwA]
            rw [← hxA]
            clear hwA hxA
            have HXA := Lib.hid hXA
            have HCA := Lib.hid (HC8.out.below hbA)
            have HNA := Lib.hid (HN8.out.below hbA)
            have HBA := Lib.hid (Below.step HB8.out hbA)
            have k4 : wA.cell? ⟨x8, 4, none⟩ = some (.int .i64 3) := (HW8.out.below hbA).cell (i := 4) rfl
            clear hbA hXA
            go_wp2_with fail
            refine Calls.mono (serves_any (ep + 1) _) ?_
            rintro en wB ⟨v, rfl, ⟨da, dc, na, nc, hv, ⟨hX, hXn⟩, hY, hYn⟩, hbB⟩
            have hv : v = .agg #[.int .i64 0, .slice da 0 dc, .int .i64 (ep + 1), .slice na 4 nc] := hv
            subst hv
            have hXB := HXA.out.below hbB
            have HXB := Lib.hid hXB
            have HCB := Lib.hid (HCA.out.below hbB)
            have HNB := Lib.hid (HNA.out.below hbB)
            have HBB := Lib.hid (Below.step HBA.out hbB)
            have HX := Lib.hid hX
            have HY := Lib.hid hY
            have a0 := hXB.cell (i := 0) rfl
            have a1 := hXB.cell (i := 1) rfl
            have a2 := hXB.cell (i := 2) rfl
            have a3 := hXB.cell (i := 3) rfl
            have f0 := hXB.free 0
            have f1 := hXB.free 1
            have f2 := hXB.free 2
            have f3 := hXB.free 3
            clear hbB hXB hX hY k4
            go_upto_region 32 with (fail)
            -- TAKES ask
            obtain ⟨wC, hwC⟩ : ∃ x, x = wB.setCells xA 0 [.int .i64 0, .slice da 0 dc, .int .i64 (ep + 1), .slice na 4 nc] := ⟨_, rfl⟩
            have hwC' : ((((wB.setCell ⟨xA, 0, none⟩ (.int .i64 0)).setCell ⟨xA, 1, none⟩ (.slice da 0 dc)).setCell ⟨xA, 2, none⟩ (.int .i64 (ep + 1))).setCell ⟨xA, 3, none⟩ (.slice na 4 nc)) = wC := by rw [hwC]; rfl
            rw [hwC']
            have hXC := HXB.out.sets [.int .i64 0, .slice da 0 dc, .int .i64 (ep + 1), .slice na 4 nc] 0 (Nat.le_refl _)
            rw [spl_all (by rfl), ← hwC] at hXC
            have HXC : Hid (Blk wC xA (ansL (servesA (ep + 1)) da dc na nc) 72) := Lib.hid hXC
            have hxw : w.heap.size ≤ xA := HXW.out
            have HCC : Hid (Sys w.heap.size wC p (4 * k) (askZ S own (fun _ => none))) := Lib.hid (by rw [hwC]; exact Sys.setCells HCB.out HXB.out (by decide) (by decide) _ _)
            have HNC : Hid (NowAt wC x7 (askX S)) := Lib.hid (by rw [hwC]; exact NowAt.sets HNB.out HXB.out (by obtain ⟨nlq, hq1, _⟩ := HNB.out; exact hq1.ne HXB.out (by decide)) (by decide) _ _)
            have HBC : Hid (Below w.heap.size w wC) := Lib.hid (by rw [hwC]; exact below_sets hxw _ _ HBB.out)
            have HXLC : Hid (BL wC da (servesA (ep + 1)).data) := Lib.hid (by rw [hwC]; exact (Keeps.sets HXB.out (by decide) _ _).bl HX.out)
            have HYLC : Hid (IL wC na (servesA (ep + 1)).nodes) := Lib.hid (by rw [hwC]; exact (Keeps.sets HXB.out (by decide) _ _).il HY.out)
            clear hwC hwC' hXC a0 a1 a2 a3 f0 f1 f2 f3 HXB HCB HNB HBB HX HY HXA HCA HNA HBA
            obtain ⟨g3, wa3, wq3, hG3, _, hgb3, _⟩ := HNC.out.wish
            have HGB3 := Lib.hid hgb3
            obtain ⟨n1, n2⟩ := note81_at hG3 rfl (Below.refl _ _)
            have a0 := HXC.out.cell (i := 0) rfl
            have a1 := HXC.out.cell (i := 1) rfl
            have a2 := HXC.out.cell (i := 2) rfl
            have a3 := HXC.out.cell (i := 3) rfl
            clear hG3 hgb3
            go_wp2_with fail
            refine Calls.mono (reply_any 1 1 32 (askX S) g3 wa3 wq3 (servesA (ep + 1)) da dc na nc wC HGB3.out) ?_
            rintro en wD ⟨rfl, hbD⟩
            have HXD := Lib.hid (HXC.out.below hbD)
            have hCD := HCC.out.below hbD
            have HND := Lib.hid (HNC.out.below hbD)
            have HBD := Lib.hid (Below.step HBC.out hbD)
            have HXL := Lib.hid (HXLC.out.below hbD)
            have HYL := Lib.hid (TL.below HYLC.out hbD)
            clear hbD n1 n2 a0 a1 a2 a3
            go_wp2_with fail
            refine Calls.mono (take_Z w.heap.size p (4 * k) (askZ S own (fun _ => none)) (askZ S own (oneF 1 (servesA (ep + 1)))) Ou.zero 1 (askX S) (servesA (ep + 1)) da dc na nc wD (askZ_fits S own _ (by omega) (fun k a h => by cases h)) (heard_askZ S own _ 1 _ (.inl rfl)) (take_askZ1 S own (ep + 1)).1 (take_askZ1 S own (ep + 1)).2 (by omega) hCD HXL.out hXn HYL.out hYn) ?_
            rintro en wE ⟨lE, rfl, q1, q2, q3⟩
            obtain ⟨e1, e2, hbF, hGF, hVF⟩ := put_out q2
            have HTF := Lib.hid (q3.then hbF hCD.low)
            have HCF := Lib.hid (q1.below hbF)
            have HGF := Lib.hid hGF
            have HVF := Lib.hid hVF
            clear hbF hGF hVF q1 q2 q3 hCD
            go_upto_region 33 with (fail)
            obtain ⟨wF, hwF⟩ : ∃ x, x = (wE.alloc (.cells out0.toArray 90)).setCells wE.heap.size 0 lE := ⟨_, rfl⟩
            obtain ⟨xF, hxF⟩ : ∃ x, x = wE.heap.size := ⟨_, rfl⟩
            rw [← hwF] at HTF HCF HGF HVF ⊢
            rw [← hxF] at HGF ⊢
            clear hwF hxF e1 e2
            have HXF := Lib.hid (HTF.out.blk HXD.out (by decide))
            have HNF := Lib.hid (HND.out.stp HTF.out)
            have HBF := Lib.hid (HBD.out.trans HTF.out.low)
            have HXLF := Lib.hid (HTF.out.stays.keeps.bl HXL.out)
            have HYLF := Lib.hid (HTF.out.stays.keeps.il HYL.out)
            clear HXD HND HBD HXL HYL HTF
            obtain ⟨g4, wa4, wq4, hG4, _, hgb4, _⟩ := HNF.out.wish
            have HGB4 := Lib.hid hgb4
            obtain ⟨n1, n2⟩ := note81_at hG4 rfl (Below.refl _ _)
            have a0 := HXF.out.cell (i := 0) rfl
            have a1 := HXF.out.cell (i := 1) rfl
            have a2 := HXF.out.cell (i := 2) rfl
            have a3 := HXF.out.cell (i := 3) rfl
            have hw2 : IntKind.i64.wrap 2 = 2 := IntWalk.i64_in _ (by decide)
            clear hG4 hgb4
            go_wp2_with fail
            refine Calls.mono (reply_any 2 1 32 (askX S) g4 wa4 wq4 (servesA (ep + 1)) da dc na nc wF HGB4.out) ?_
            rintro en wG ⟨rfl, hbG⟩
            have hCG := HCF.out.below hbG
            have HNG := Lib.hid (HNF.out.below hbG)
            have HBG := Lib.hid (Below.step HBF.out hbG)
            have HXLG := Lib.hid (HXLF.out.below hbG)
            have HYLG := Lib.hid (TL.below HYLF.out hbG)
            have HGG := Lib.hid (HGF.out.below hbG)
            have HVG := Lib.hid (HVF.out.below hbG)
            clear hbG n1 n2 a0 a1 a2 a3 hw2
            go_wp2_with fail
            refine Calls.mono (take_Z w.heap.size p (4 * k + 2) (askZ S own (oneF 1 (servesA (ep + 1)))) (putZ (stampOf S own) (ownOf S own) (ep + 1) (fun _ => none)) (againO (putZ (stampOf S own) (ownOf S own) (ep + 1) (fun _ => none)) Ou.zero) 2 (askX S) (servesA (ep + 1)) da dc na nc wG (askZ_fits S own _ (by omega) (oneF_keys 1 _ (by decide))) (heard_askZ S own _ 2 _ (.inr rfl)) (take_askZ2 S own (ep + 1)).1 (take_askZ2 S own (ep + 1)).2 (by omega) hCG HXLG.out hXn HYLG.out hYn) ?_
            rintro en wH ⟨lH, rfl, q1, q2, q3⟩
            obtain ⟨e1, e2, hbI, hGI, hVI⟩ := put_out q2
            have HTI := Lib.hid (q3.then hbI hCG.low)
            have HCI := Lib.hid (q1.below hbI)
            have HGI := Lib.hid hGI
            have HVI := Lib.hid hVI
            clear hbI hGI hVI q1 q2 q3 hCG
            go_upto_region 34 with (fail)
            obtain ⟨wI, hwI⟩ : ∃ x, x = (wH.alloc (.cells out0.toArray 90)).setCells wH.heap.size 0 lH := ⟨_, rfl⟩
            obtain ⟨xI, hxI⟩ : ∃ x, x = wH.heap.size := ⟨_, rfl⟩
            rw [← hwI] at HTI HCI HGI HVI ⊢
            rw [← hxI] at HGI ⊢
            clear hwI hxI e1 e2
            have HNI := Lib.hid (HNG.out.stp HTI.out)
            have HBI := Lib.hid (HBG.out.trans HTI.out.low)
            have HFI := Lib.hid (HTI.out.blk HGG.out (by decide))
            have HUI := Lib.hid (HTI.out.outv HVG.out)
            clear HTI HNG HBG HXLG HYLG HGG HVG
            obtain ⟨g1, g2⟩ := out_at HFI.out HUI.out.len (Below.refl _ _)
            go_wp2_with fail
            refine Calls.mono (quiet_is lE Ou.zero wI HUI.out rfl rfl rfl) ?_
            rintro en wJ ⟨rfl, hbJ⟩
            have HCJ := Lib.hid (HCI.out.below hbJ)
            have HGJ := Lib.hid (HGI.out.below hbJ)
            have HVJ := Lib.hid (HVI.out.below hbJ)
            have HNJ := Lib.hid (HNI.out.below hbJ)
            have HBJ := Lib.hid (Below.step HBI.out hbJ)
            obtain ⟨b9, ba9, bc9, k39, _, _⟩ := note39 HGJ.out HVJ.out (kind := 1) (fr := 32) (W := (putX (ownOf S own) (ep + 1))) rfl
            obtain ⟨da0, dc0, na0, nc0, ⟨P60, _⟩, _⟩ := HVJ.out.parts
            replace P60 : lH[60]? = some (.bool false) := P60
            have k60 := HGJ.out.cell P60
            clear hbJ g1 g2 P60
            go_upto_region 36 with (fail)
            obtain ⟨g5, wa5, wq5, hG5, _, _, _⟩ := HNJ.out.wish
            obtain ⟨nlJ, m1, m2, m3, m4, hNK⟩ := now_of (W := (putX (ownOf S own) (ep + 1))) hG5 rfl HGJ.out HVJ.out rfl
            have HCK : Hid (Sys w.heap.size (wJ.setCells x7 0 nlJ) p (4 * k + 2 + 2) (putZ (stampOf S own) (ownOf S own) (ep + 1) (fun _ => none))) := Lib.hid (Sys.setCells HCJ.out hG5 (by decide) (by decide) 0 nlJ)
            have HBK : Hid (Below w.heap.size w (wJ.setCells x7 0 nlJ)) := Lib.hid (below_sets HX7.out nlJ 0 HBJ.out)
            have HNK := Lib.hid hNK
            have HOB : Hid (OkZ false (k + 1) (stampOf S own) (ownOf S own) own (max last S) (ep + 1)) := Lib.hid (okz_ask HO.out)
            clear hG5 hNK k39 k60
            go_wp2_with fail
            go_roundw
            case rel => exact ⟨k + 1, false, stampOf S own, ownOf S own, own, max last S, ep + 1, by omega, by omega, by go_num, rfl, rfl, rfl, HOB, Lib.hid (HCK.out.mono (by omega)), HNK, HBK⟩
            case measure => simp [intOf]; omega
            -- END ask
      · obtain ⟨r1', r2', hCl, _⟩ := HC.out
        have HCl := Lib.hid hCl
        clear hCl
        cases b
        all_goals
          go_wp2_with fail
          refine Calls.mono (busy_is p r1' r2' _ _ _ HCl.out) ?_
          rintro en wh ⟨rfl, rfl⟩
          go_wp2_with fail
          go_ret
          exact ⟨rfl, HB.out⟩
    · obtain ⟨r1', r2', hCl, _⟩ := HC.out
      have HCl := Lib.hid hCl
      clear hCl
      cases b
      all_goals
        go_wp2_with fail
        refine Calls.mono (busy_is p r1' r2' _ _ _ HCl.out) ?_
        rintro en wh ⟨rfl, rfl⟩
        go_wp2_with fail
        go_ret
        exact ⟨rfl, HB.out⟩
end Go.Proofs.Ytldcpnabgpjgiaa.Walks
