/-
  The walk of the law DiskKnown.
-/
import Derived.Test.YtldcpnabgpjgiaaDiskKC
import Derived.Test.YtldcpnabgpjgiaaAnyLaw
import Derived.Deep.CutRange
namespace Go.Proofs.Ytldcpnabgpjgiaa.Walks
open Go.RowKit Plain
set_option linter.unusedVariables false
attribute [local go_sem] isPV_mk adV_mk cells_agg cells_agg' held_drew room_drew cellsAt_drew isA4_mk isSl_mk isI_mk intOf_mk
attribute [local go_sem ↓] exec_load88 exec_store88 exec_load81 exec_store81 exec_load90 exec_store90 Go.wp_at_zero Go.wp_at_succ exec_alloc81 exec_build81r exec_build81s exec_bs69 exec_alloc90 exec_build90n
attribute [local irreducible] out0

def zerosN (n : Nat) : List Int := List.replicate n 0
theorem make15 (w : World) : (Instr.makeSlice 70 (.int .i64 15) (.int .i64 15)).run Try.prog w = .ok (.slice (some ⟨w.heap.size, 0, none⟩) 15 15) (w.alloc (.cells #[.int .u8 0, .int .u8 0, .int .u8 0, .int .u8 0, .int .u8 0, .int .u8 0, .int .u8 0, .int .u8 0, .int .u8 0, .int .u8 0, .int .u8 0, .int .u8 0, .int .u8 0, .int .u8 0, .int .u8 0] 5)) := by
  kernel_rfl
theorem make16 (w : World) : (Instr.makeSlice 70 (.int .i64 16) (.int .i64 16)).run Try.prog w = .ok (.slice (some ⟨w.heap.size, 0, none⟩) 16 16) (w.alloc (.cells #[.int .u8 0, .int .u8 0, .int .u8 0, .int .u8 0, .int .u8 0, .int .u8 0, .int .u8 0, .int .u8 0, .int .u8 0, .int .u8 0, .int .u8 0, .int .u8 0, .int .u8 0, .int .u8 0, .int .u8 0, .int .u8 0] 5)) := by
  kernel_rfl
attribute [local go_sem] make15 make16
theorem zeros_bl (w : World) : BL (w.alloc (.cells #[.int .u8 0, .int .u8 0, .int .u8 0, .int .u8 0, .int .u8 0, .int .u8 0, .int .u8 0, .int .u8 0, .int .u8 0, .int .u8 0, .int .u8 0, .int .u8 0, .int .u8 0, .int .u8 0, .int .u8 0, .int .u8 0] 5)) (some ⟨w.heap.size, 0, none⟩) (zerosN 16) := by
  refine ⟨⟨by decide, .inr ⟨w.heap.size, 0, (List.replicate 16 (Value.int .u8 0)).toArray, (0, 0), rfl, heap_alloc_new _ _, fun i hi => ?_⟩⟩, by decide⟩
  have h16 : i < 16 := hi
  have e1 : (List.replicate 16 (Value.int .u8 0)).toArray[0 + i]? = some (Value.int .u8 0) := by
    rw [Nat.zero_add, List.getElem?_toArray, List.getElem?_replicate, if_pos h16]
  have e2 : (zerosN 16)[i] = 0 := by simp only [zerosN, List.getElem_replicate]
  exact e1.trans (congrArg (fun z => some (Value.int .u8 z)) e2.symm)
theorem sys1 {f : FuncId} {args : Array Value} {B p N N' : Nat} {c c' : Cl} {o : Ou} {err : Int} {w : World} (h : Sys B w p N c) (hf : ∀ r1 r2, CliAt w p r1 r2 N c → Calls Try.prog f args w (GiveP [p] p r1 r2 N' c' o err w)) : Calls Try.prog f args w (GiveS B p N' c' o err w) := by
  obtain ⟨r1, r2, h1, h2⟩ := h
  exact Calls.mono (hf r1 r2 h1) fun e w' hg => GiveS.of1 h1 h2 hg
/-- What comes of something, in its block. -/
def OutX (w : World) (x : Nat) (l : List Value) (o : Ou) : Prop := Blk w x l 90 ∧ OutV w l o
theorem OutX.stp {B : Nat} {w w' : World} {x : Nat} {l : List Value} {o : Ou} (h : OutX w x l o) (hs : Stp B w w') : OutX w' x l o := ⟨hs.blk h.1 (by decide), hs.outv h.2⟩
theorem OutX.below {w w' : World} {x : Nat} {l : List Value} {o : Ou} (h : OutX w x l o) (hb : Below w.heap.size w w') : OutX w' x l o := ⟨h.1.below hb, h.2.below hb⟩
theorem OutV.group {w : World} {l : List Value} {o : Ou} (h : OutV w l o) : l[63]? = some (.int .i64 o.call.group) := by
  obtain ⟨ta, tc, nl, ca, cc, da, dc, na, nc, e, _, hn, _⟩ := h
  subst e
  exact outL_rest hn.len 4
/-- The law's client that asks, its n-th call. -/
def callO (n : Int) : Wi := ⟨31, n, 1, 0, 1, 0, [], 0, 0⟩
def askO (S : Int) : Wi := ⟨31, S, 0, 0, 3, 1, [], 0, 0⟩
def oneS (n S : Int) (ans : Int → Option An) : Cl := ⟨31, 1, fun _ => none, S, n, 1, callO n, 0, dirL, 1, askO S, ans⟩
def doneS (n S : Int) (ans : Int → Option An) : Cl := { oneS n S ans with way := 0 }
def errA : An := ⟨180, [], 0, []⟩
def oddA : An := ⟨0, [], 0, [5]⟩
theorem begin_one : beginC (newC 31 1) (readW 0) = oneS 1 1 (fun _ => none) ∧ beginO (newC 31 1) (readW 0) = againO (oneS 1 1 (fun _ => none)) (beganO (callO 1)) := ⟨rfl, rfl⟩
theorem begin_two (ans : Int → Option An) : beginC (doneS 1 1 ans) (readW 0) = oneS 2 2 (fun _ => none) ∧ beginO (doneS 1 1 ans) (readW 0) = againO (oneS 2 2 (fun _ => none)) (beganO (callO 2)) := ⟨rfl, rfl⟩
theorem heard_one (n S : Int) (ans : Int → Option An) (fr : Int) (A : An) (h : fr = 1 ∨ fr = 2 ∨ fr = 4) : heardB (oneS n S ans) (replyN fr (askO S) A) = true := by
  unfold heardB
  rcases h with rfl | rfl | rfl <;> simp [oneS, replyN, askO] <;> decide
theorem take_one1 (n S : Int) (A : An) : takeC (oneS n S (fun _ => none)) (replyN 1 (askO S) A) = oneS n S (oneF 1 A) ∧ takeO (oneS n S (fun _ => none)) (replyN 1 (askO S) A) = Ou.zero := by
  have hh := heard_one n S (fun _ => none) 1 A (.inl rfl)
  have hn : cntA dirL (oneF 1 A) A = 1 := by rw [count_one]; rfl
  have hb : countB (hearC (oneS n S (fun _ => none)) (replyN 1 (askO S) A)) A = 0 := by
    unfold countB
    rw [if_pos (show (hearC (oneS n S (fun _ => none)) (replyN 1 (askO S) A)).way = 1 from rfl)]
    rw [show cntA (hearC (oneS n S (fun _ => none)) (replyN 1 (askO S) A)).crew (hearC (oneS n S (fun _ => none)) (replyN 1 (askO S) A)).ans A = 1 from hn]
    rfl
  unfold takeC takeO
  rw [hh]
  simp only [if_true]
  unfold countC countO
  rw [show (replyN 1 (askO S) A).ans = A from rfl, hb]
  exact ⟨rfl, rfl⟩
theorem take_one2 (n S fr : Int) (A : An) (hf : fr = 2 ∨ fr = 4) (hA : toldB A = false) : takeC (oneS n S (oneF 1 A)) (replyN fr (askO S) A) = doneS n S (upF (oneF 1 A) fr (some A)) ∧ takeO (oneS n S (oneF 1 A)) (replyN fr (askO S) A) = doneO (oneS n S (upF (oneF 1 A) fr (some A))) Ou.zero A := by
  have hh := heard_one n S (oneF 1 A) fr A (.inr hf)
  have hn : cntA dirL (upF (oneF 1 A) fr (some A)) A = 2 := by rw [count_two]; rcases hf with rfl | rfl <;> rfl
  have hb : countB (hearC (oneS n S (oneF 1 A)) (replyN fr (askO S) A)) A = 1 := by
    unfold countB
    rw [if_pos (show (hearC (oneS n S (oneF 1 A)) (replyN fr (askO S) A)).way = 1 from rfl)]
    rw [show cntA (hearC (oneS n S (oneF 1 A)) (replyN fr (askO S) A)).crew (hearC (oneS n S (oneF 1 A)) (replyN fr (askO S) A)).ans A = 2 from hn]
    rfl
  unfold takeC takeO
  rw [hh]
  simp only [if_true]
  unfold countC countO
  rw [show (replyN fr (askO S) A).ans = A from rfl, hb]
  simp only [if_true]
  unfold toldC toldO
  rw [hA]
  exact ⟨rfl, rfl⟩
theorem oneS_fits (n S : Int) (ans : Int → Option An) (hS : 0 ≤ S ∧ S ≤ 1000000) (h : ∀ k a, ans k = some a → k ∈ dirL) : Fits (oneS n S ans) :=
  ⟨(by decide : goodC 1 dirL = true), hS, (Wf.of (by decide) (by decide) : Wf 1), (Wf.of (by decide) (by decide) : Wf 0), h, fun m hm => (by
    have hm' : (none : Option (List Int × Int)) = some m := hm
    cases hm'), fun h => absurd h (show ¬ (1 : Int) = 2 by decide)⟩
theorem keys1 (k : Int) (A : An) {l : List Int} (hk : k ∈ l) : ∀ x a, oneF k A x = some a → x ∈ l := by
  intro x a h
  unfold oneF upF at h
  split at h
  · rename_i e; rw [e]; exact hk
  · cases h
theorem take_Q (B p N : Nat) (c c' : Cl) (o' : Ou) (fr : Int) (W : Wi) (A : An) (da : Option Addr) (dc : Nat) (na : Option Addr) (nc : Nat) (w : World) (hf : Fits c) (hh : heardB c (replyN fr W A) = true) (hc : takeC c (replyN fr W A) = c') (ho : takeO c (replyN fr W A) = o') (hN1 : N + 1 < 1000000) (h : Sys B w p N c)
    (hD : BL w da A.data) (hDn : da = none → dc = 0) (hN : IL w na A.nodes) (hNn : na = none → nc = 0) :
    Calls Try.prog 52 #[.pointer (some ⟨p, 0, none⟩), .agg (noteL 2 fr W.group W.epoch (.slice none 0 0) (ansL A da dc na nc) W.stamp W.client).toArray] w (GiveS B p (N + 2) c' o' 0 w) := by
  have h1 := take_sys B p N c (replyN fr W A) da dc na nc w h hf hh hN1 hD hDn hN hNn
  rw [hc, ho] at h1
  exact h1
theorem out_note {w : World} {x : Nat} {l : List Value} {o : Ou} (h : OutX w x l o) {kind fr : Int} {W : Wi} (hn : o.note = some (kind, fr, W)) :
    ∃ g wa wq, cellsAt w ⟨x, 1, none⟩ 58 = noteL kind fr W.group W.epoch (.slice (some ⟨g, 0, none⟩) 1 1) zeroA 0 0 ∧ Held w ⟨x, 1, none⟩ 58 ∧ Blk w g (wishL W wa wq) 88 ∧ w.cell? ⟨x, 39, none⟩ = some (.slice (some ⟨g, 0, none⟩) 1 1) := by
  obtain ⟨nl, ca, cc, hN, _, _, ⟨g1, g2⟩, _⟩ := out_open h.1 h.2
  rw [hn] at hN
  obtain ⟨g, wa, wq, rfl, hb, _⟩ := hN
  refine ⟨g, wa, wq, g1, g2, hb, ?_⟩
  have hl := h.2.len
  have hc : (l.drop 1).take 58 = noteL kind fr W.group W.epoch (.slice (some ⟨g, 0, none⟩) 1 1) zeroA 0 0 := by rw [← h.1.cells (by omega)]; exact g1
  have : l[39]? = some (.slice (some ⟨g, 0, none⟩) 1 1) := by
    have h2 : ((l.drop 1).take 58)[38]? = some (.slice (some ⟨g, 0, none⟩) 1 1) := by rw [hc]; rfl
    rw [List.getElem?_take_of_lt (by omega), List.getElem?_drop] at h2
    exact h2
  exact h.1.cell this
theorem il_five (w : World) : IL (w.alloc (.cells #[.int .i64 5] 3)) (some ⟨w.heap.size, 0, none⟩) [5] := by
  refine ⟨by decide, .inr ⟨w.heap.size, 0, #[.int .i64 5], (0, 0), rfl, heap_alloc_new _ _, fun i hi => ?_⟩⟩
  have : i = 0 := by simpa using hi
  subst this
  rfl
def askF : Cl := ⟨31, 1, fun _ => none, 3, 1, 1, callW, 2, dirL, 1, askO 3, fun _ => none⟩
theorem take_oth1 : takeC (mapC 4 2 (fun _ => none)) (replyN 5 (lookW 4) (otherA 5)) = mapC 4 2 (oneF 5 (otherA 5)) ∧ takeO (mapC 4 2 (fun _ => none)) (replyN 5 (lookW 4) (otherA 5)) = Ou.zero := by
  have hh := heard_map 4 2 (.inl rfl) (fun _ => none) 5 (otherA 5) (by decide)
  have hb : countB (hearC (mapC 4 2 (fun _ => none)) (replyN 5 (lookW 4) (otherA 5))) (otherA 5) = 0 := by decide +kernel
  unfold takeC takeO
  rw [hh]
  simp only [if_true]
  unfold countC countO
  rw [show (replyN 5 (lookW 4) (otherA 5)).ans = otherA 5 from rfl, hb]
  exact ⟨rfl, rfl⟩
theorem take_oth2 : takeC (mapC 4 2 (oneF 5 (otherA 5))) (replyN 8 (lookW 4) (otherA 5)) = askF ∧ takeO (mapC 4 2 (oneF 5 (otherA 5))) (replyN 8 (lookW 4) (otherA 5)) = againO askF Ou.zero := by
  have hh := heard_map 4 2 (.inl rfl) (oneF 5 (otherA 5)) 8 (otherA 5) (by decide)
  have hb : countB (hearC (mapC 4 2 (oneF 5 (otherA 5))) (replyN 8 (lookW 4) (otherA 5))) (otherA 5) = 2 := by decide +kernel
  have hf : onC (forgetC (hearC (mapC 4 2 (oneF 5 (otherA 5))) (replyN 8 (lookW 4) (otherA 5)))) = askF := by
    have h1 : forgetC (hearC (mapC 4 2 (oneF 5 (otherA 5))) (replyN 8 (lookW 4) (otherA 5))) = ⟨31, 1, fun _ => none, 2, 1, 2, callW, 2, fiveL, 14, lookW 4, upF (oneF 5 (otherA 5)) 8 (some (otherA 5))⟩ := by
      show (⟨31, 1, upF (upF (fun _ => none) 1 (some (fiveL, 4))) 1 none, 2, 1, 2, callW, 2, fiveL, 14, lookW 4, upF (oneF 5 (otherA 5)) 8 (some (otherA 5))⟩ : Cl) = _
      rw [upF_back]
    rw [h1]
    rfl
  unfold takeC takeO
  rw [hh]
  simp only [if_true]
  unfold countC countO
  rw [show (replyN 8 (lookW 4) (otherA 5)).ans = otherA 5 from rfl, hb]
  have h1 : ¬ (2 : Int) = 1 := by decide
  simp only [h1, if_false, if_true]
  rw [hf]
  exact ⟨rfl, rfl⟩
theorem eq_five (a a' : Option Addr) (c c' : Nat) (w : World) (hI : IL w a [5, 6, 7, 8]) (hI' : IL w a' [5, 6, 7, 8]) : Calls Try.prog 36 #[.slice a 4 c, .slice a' 4 c'] w fun e w' => e = .returned (.bool true) ∧ Below w.heap.size w w' := by
  have h := eqInts_any a a' c c' [5, 6, 7, 8] [5, 6, 7, 8] w hI.ints hI'.ints
  rw [decide_eq_true (rfl : ([5, 6, 7, 8] : List Int) = [5, 6, 7, 8])] at h
  exact h
theorem says_three (l : List Value) (a : Addr) (w : World) (h : OutV w l (againO askF Ou.zero)) (hI : IL w (some a) [1, 2, 3, 4]) :
    Calls Try.prog 55 #[.agg l.toArray, .int .i64 0, .slice (some a) 4 4, .int .i64 1, .agg #[.int .i64 31, .int .i64 3, .int .i64 0, .int .i64 0, .int .i64 3, .int .i64 1, .slice none 0 0, .int .i64 0, .int .i64 0, .slice none 0 0]] w fun en w' => en = .returned (.bool true) ∧ Below w.heap.size w w' :=
  says_is l (againO askF Ou.zero) 1 (askO 3) dirL (some a) 4 4 none 0 w h rfl rfl rfl rfl hI (BL.nil _ _)
theorem blk_cell (w : World) (cs : Array Value) (t : TypeId) (j : Nat) : (w.alloc (.cells cs t)).cell? ⟨w.heap.size, j, none⟩ = cs[j]? := by
  have h : (w.alloc (.cells cs t)).heap[w.heap.size]? = some (.cells cs t) := heap_alloc_new _ _
  unfold World.cell?
  simp only [h]
  rfl
def FiveV (w : World) (v : Value) : Prop := ∃ a5, v = .slice (some a5) 4 4 ∧ IL w (some a5) [5, 6, 7, 8]
def FourV (w : World) (v : Value) : Prop := ∃ b, v = .slice (some b) 4 4 ∧ IL w (some b) [1, 2, 3, 4]
def noteQ : Value := .agg #[.int .i64 31, .int .i64 3, .int .i64 0, .int .i64 0, .int .i64 3, .int .i64 1, .slice none 0 0, .int .i64 0, .int .i64 0, .slice none 0 0]
/-- What the slot k holds behind the operation that yields it. -/
def PhiK (a37 : Option Addr) (c37 x37 : Nat) (l39 : List Value) (k : Nat) (v : Value) (w : World) : Prop :=
  if k = 388 then FiveV w v
  else if k = 394 then FourV w v
  else if k = 376 ∨ k = 399 then v = .bool false
  else if k = 382 then v = .int .i64 4
  else if k = 386 then v = .pointer (some ⟨x37, 1, none⟩)
  else if k = 387 then v = .slice a37 4 c37
  else if k = 392 then v = .agg l39.toArray
  else if k = 393 then v = .int .i64 0
  else if k = 395 then v = noteQ
  else v = .bool true
theorem PhiK.below {a37 : Option Addr} {c37 x37 : Nat} {l39 : List Value} {k : Nat} {v : Value} {w w' : World} (h : PhiK a37 c37 x37 l39 k v w) (hb : Below w.heap.size w w') : PhiK a37 c37 x37 l39 k v w' := by
  unfold PhiK at h ⊢
  split at h
  · rw [if_pos (by assumption)]
    obtain ⟨a, e, h1⟩ := h
    exact ⟨a, e, TL.below h1 hb⟩
  · rw [if_neg (by assumption)]
    split at h
    · rw [if_pos (by assumption)]
      obtain ⟨a, e, h1⟩ := h
      exact ⟨a, e, TL.below h1 hb⟩
    · rw [if_neg (by assumption)]
      exact h
def beg2 : Cl := beginC (newC 33 2) (writeW 15 (zerosN 16))
set_option maxRecDepth 100000 in
set_option maxHeartbeats 40000000 in
theorem diskKnown_walk (w : World) : Calls Try.prog 14 #[] w fun e w' => e = .returned (.bool true) ∧ Below w.heap.size w w' := by
  go_enter Try.func14, Try.ntmps14
  have HB0 : Hid (Below w.heap.size w w) := Lib.hid (Below.refl _ _)
  go_wp2_with fail
  refine Calls.mono (directory_any _) ?_
  rintro en d1 ⟨a1, rfl, hI, hb⟩
  have HD1 := Lib.hid (Below.step HB0.out hb)
  have HI1 := Lib.hid hI
  clear hI hb HB0
  go_wp2_with fail
  refine Calls.mono (new_name 30 1 1 (some a1) 4 4 _ (.inl (by decide))) ?_
  rintro en n1 ⟨rfl, hb⟩
  have HB1 := Lib.hid (Below.step HD1.out hb)
  clear hb HD1
  go_wp2_with fail
  refine Calls.mono (directory_any _) ?_
  rintro en d2 ⟨a2, rfl, hI, hb⟩
  have HD2 := Lib.hid (Below.step HB1.out hb)
  have HI2 := Lib.hid hI
  clear hI hb HB1
  go_wp2_with fail
  refine Calls.mono (new_name 35 1 1 (some a2) 4 4 _ (.inr ⟨by decide, by decide⟩)) ?_
  rintro en n2 ⟨rfl, hb⟩
  have HB2 := Lib.hid (Below.step HD2.out hb)
  clear hb HD2
  go_wp2_with fail
  refine Calls.mono (new_crew _) ?_
  rintro en n3 ⟨rfl, hb⟩
  have HB3 := Lib.hid (Below.step HB2.out hb)
  clear hb HB2
  go_wp2_with fail
  refine Calls.mono (directory_any _) ?_
  rintro en d4 ⟨a4, rfl, hI, hb⟩
  have HD4 := Lib.hid (Below.step HB3.out hb)
  have HI4 := Lib.hid hI
  clear hI hb HB3
  go_wp2_with fail
  refine Calls.mono (new_chunks (some a4) 4 0 _ HI4.out (.inl (by decide))) ?_
  rintro en n4 ⟨rfl, hb⟩
  have HB4 := Lib.hid (Below.step HD4.out hb)
  clear hb HD4
  go_wp2_with fail
  refine Calls.mono (directory_any _) ?_
  rintro en d5 ⟨a5, rfl, hI, hb⟩
  have HD5 := Lib.hid (Below.step HB4.out hb)
  have HI5 := Lib.hid hI
  clear hI hb HB4
  go_wp2_with fail
  refine Calls.mono (new_chunks (some a5) 4 3 _ HI5.out (.inr ⟨by decide, by decide⟩)) ?_
  rintro en n5 ⟨rfl, hb⟩
  have HB5 := Lib.hid (Below.step HD5.out hb)
  clear hb HD5
  go_wp2_with fail
  refine Calls.mono (new_name 30 0 0 none 0 0 _ (.inl (by decide))) ?_
  rintro en n6 ⟨rfl, hb⟩
  have HB6 := Lib.hid (Below.step HB5.out hb)
  clear hb HB5
  go_wp2_with fail
  refine Calls.mono (directory_any _) ?_
  rintro en d7 ⟨a7, rfl, hI, hb⟩
  have HD7 := Lib.hid (Below.step HB6.out hb)
  have HI7 := Lib.hid hI
  clear hI hb HB6
  go_wp2_with fail
  refine Calls.mono (new_is 33 2 (some a7) 4 _ HI7.out (fun h => by cases h) (by decide) (by decide)) ?_
  rintro en w7 ⟨p, r1, rfl, hp, hr1, hC, hb⟩
  have hz := HD7.out.size
  have HP : Hid (w.heap.size ≤ p ∧ w.heap.size ≤ r1) := Lib.hid (by omega)
  have HC7 : Hid (Sys w.heap.size w7 p 0 (newC 33 2)) := Lib.hid ⟨r1, r1, hC r1, by omega, by omega, by omega⟩
  have HT7 : Hid (Stp w.heap.size w w7) := Lib.hid (Stp.of_below (Below.step HD7.out hb) (Nat.le_refl _))
  clear hp hr1 hC hb hz HD7
  go_wp2_with fail
  refine Calls.mono (sys1 HC7.out fun r1 r2 h => read_bad p r1 r2 0 (newC 33 2) 16 w7 h (by decide) (.inr ⟨by decide, by decide⟩)) ?_
  rintro en g11 ⟨l11, rfl, q1, q2, q3⟩
  obtain ⟨e1, e2, hb, hG, hV⟩ := put_out q2
  have HC11 := Lib.hid (q1.below hb)
  have hs := q3.then hb HC7.out.low
  have HT11 := Lib.hid (HT7.out.trans hs)
  have HX11 : Hid (OutX _ g11.heap.size l11 Ou.zero) := Lib.hid ⟨hG, hV⟩
  clear hb hG hV q1 q2 q3 hs HC7 HT7
  go_upto_region 12 with (fail)
  obtain ⟨w11, hw⟩ : ∃ x, x = (g11.alloc (.cells out0.toArray 90)).setCells g11.heap.size 0 l11 := ⟨_, rfl⟩
  obtain ⟨x11, hx⟩ : ∃ x, x = g11.heap.size := ⟨_, rfl⟩
  rw [← hw] at HC11 HT11 HX11  ⊢
  rw [← hx] at HX11 ⊢
  clear hw hx e1 e2
  clear HX11
  go_wp2_with fail
  refine Calls.mono (sys1 HC11.out fun r1 r2 h => read_bad p r1 r2 0 (newC 33 2) (-1) w11 h (by decide) (.inl (by decide))) ?_
  rintro en g12 ⟨l12, rfl, q1, q2, q3⟩
  obtain ⟨e1, e2, hb, hG, hV⟩ := put_out q2
  have HC12 := Lib.hid (q1.below hb)
  have hs := q3.then hb HC11.out.low
  have HT12 := Lib.hid (HT11.out.trans hs)
  have HX12 : Hid (OutX _ g12.heap.size l12 Ou.zero) := Lib.hid ⟨hG, hV⟩
  clear hb hG hV q1 q2 q3 hs HC11 HT11
  go_upto_region 13 with (fail)
  obtain ⟨w12, hw⟩ : ∃ x, x = (g12.alloc (.cells out0.toArray 90)).setCells g12.heap.size 0 l12 := ⟨_, rfl⟩
  obtain ⟨x12, hx⟩ : ∃ x, x = g12.heap.size := ⟨_, rfl⟩
  rw [← hw] at HC12 HT12 HX12  ⊢
  rw [← hx] at HX12 ⊢
  clear hw hx e1 e2
  clear HX12
  go_wp2_with fail
  refine Calls.mono (sys1 HC12.out fun r1 r2 h => write_bad p r1 r2 0 (newC 33 2) 16 none 0 0 170 w12 h (by decide) (by decide) (.inl ⟨rfl, .inr ⟨by decide, by decide⟩⟩)) ?_
  rintro en g13 ⟨l13, rfl, q1, q2, q3⟩
  obtain ⟨e1, e2, hb, hG, hV⟩ := put_out q2
  have HC13 := Lib.hid (q1.below hb)
  have hs := q3.then hb HC12.out.low
  have HT13 := Lib.hid (HT12.out.trans hs)
  have HX13 : Hid (OutX _ g13.heap.size l13 Ou.zero) := Lib.hid ⟨hG, hV⟩
  clear hb hG hV q1 q2 q3 hs HC12 HT12
  go_upto_region 14 with (fail)
  obtain ⟨w13, hw⟩ : ∃ x, x = (g13.alloc (.cells out0.toArray 90)).setCells g13.heap.size 0 l13 := ⟨_, rfl⟩
  obtain ⟨x13, hx⟩ : ∃ x, x = g13.heap.size := ⟨_, rfl⟩
  rw [← hw] at HC13 HT13 HX13  ⊢
  rw [← hx] at HX13 ⊢
  clear hw hx e1 e2
  clear HX13
  go_wp2_with fail
  obtain ⟨m14, hm⟩ : ∃ x, x = w13.alloc (.cells #[.int .u8 0, .int .u8 0, .int .u8 0, .int .u8 0, .int .u8 0, .int .u8 0, .int .u8 0, .int .u8 0, .int .u8 0, .int .u8 0, .int .u8 0, .int .u8 0, .int .u8 0, .int .u8 0, .int .u8 0] 5) := ⟨_, rfl⟩
  have hb : Below w13.heap.size w13 m14 := by rw [hm]; exact Below.new _ _
  have HM14 : Hid (True) := Lib.hid (by trivial)
  obtain ⟨y14, hy⟩ : ∃ x, x = w13.heap.size := ⟨_, rfl⟩
  rw [← hm]
  rw [← hy]
  have HCm14 := Lib.hid (HC13.out.below hb)
  have HTm14 := Lib.hid (HT13.out.then hb (Nat.le_refl _))
  clear hm hy hb HC13 HT13
  refine Calls.mono (sys1 HCm14.out fun r1 r2 h => write_bad p r1 r2 0 (newC 33 2) 15 (some ⟨y14, 0, none⟩) 15 15 2 m14 h (by decide) (by decide) (.inr ⟨rfl, by decide, by decide, by decide⟩)) ?_
  rintro en g14 ⟨l14, rfl, q1, q2, q3⟩
  obtain ⟨e1, e2, hb, hG, hV⟩ := put_out q2
  have HC14 := Lib.hid (q1.below hb)
  have hs := q3.then hb HCm14.out.low
  have HT14 := Lib.hid (HTm14.out.trans hs)
  have HX14 : Hid (OutX _ g14.heap.size l14 Ou.zero) := Lib.hid ⟨hG, hV⟩
  clear hb hG hV q1 q2 q3 hs HCm14 HTm14
  go_upto_region 15 with (fail)
  obtain ⟨w14, hw⟩ : ∃ x, x = (g14.alloc (.cells out0.toArray 90)).setCells g14.heap.size 0 l14 := ⟨_, rfl⟩
  obtain ⟨x14, hx⟩ : ∃ x, x = g14.heap.size := ⟨_, rfl⟩
  rw [← hw] at HC14 HT14 HX14  ⊢
  rw [← hx] at HX14 ⊢
  clear hw hx e1 e2
  clear HX14
  go_wp2_with fail
  refine Calls.mono (sys1 HC14.out fun r1 r2 h => replace_bad p r1 r2 0 (newC 33 2) 1 1 2 w14 h (by decide)) ?_
  rintro en g15 ⟨l15, rfl, q1, q2, q3⟩
  obtain ⟨e1, e2, hb, hG, hV⟩ := put_out q2
  have HC15 := Lib.hid (q1.below hb)
  have hs := q3.then hb HC14.out.low
  have HT15 := Lib.hid (HT14.out.trans hs)
  have HX15 : Hid (OutX _ g15.heap.size l15 Ou.zero) := Lib.hid ⟨hG, hV⟩
  clear hb hG hV q1 q2 q3 hs HC14 HT14
  go_upto_region 16 with (fail)
  obtain ⟨w15, hw⟩ : ∃ x, x = (g15.alloc (.cells out0.toArray 90)).setCells g15.heap.size 0 l15 := ⟨_, rfl⟩
  obtain ⟨x15, hx⟩ : ∃ x, x = g15.heap.size := ⟨_, rfl⟩
  rw [← hw] at HC15 HT15 HX15  ⊢
  rw [← hx] at HX15 ⊢
  clear hw hx e1 e2
  clear HX15
  go_wp2_with fail
  obtain ⟨m16, hm⟩ : ∃ x, x = w15.alloc (.cells #[.int .u8 0, .int .u8 0, .int .u8 0, .int .u8 0, .int .u8 0, .int .u8 0, .int .u8 0, .int .u8 0, .int .u8 0, .int .u8 0, .int .u8 0, .int .u8 0, .int .u8 0, .int .u8 0, .int .u8 0, .int .u8 0] 5) := ⟨_, rfl⟩
  have hb : Below w15.heap.size w15 m16 := by rw [hm]; exact Below.new _ _
  have HM16 : Hid (BL m16 (some ⟨w15.heap.size, 0, none⟩) (zerosN 16)) := Lib.hid (by rw [hm]; exact zeros_bl _)
  obtain ⟨y16, hy⟩ : ∃ x, x = w15.heap.size := ⟨_, rfl⟩
  rw [← hm]
  rw [← hy] at HM16 ⊢
  have HCm16 := Lib.hid (HC15.out.below hb)
  have HTm16 := Lib.hid (HT15.out.then hb (Nat.le_refl _))
  clear hm hy hb HC15 HT15
  refine Calls.mono (sys1 HCm16.out fun r1 r2 h => write_is p r1 r2 0 (newC 33 2) 15 (zerosN 16) (some ⟨y16, 0, none⟩) 16 m16 h (by decide) (by decide) rfl HM16.out (fun h => by cases h) rfl (by decide) (by decide) (fun m hm => by cases hm)) ?_
  rintro en g16 ⟨l16, rfl, q1, q2, q3⟩
  obtain ⟨e1, e2, hb, hG, hV⟩ := put_out q2
  have HC16 := Lib.hid (q1.below hb)
  have hs := q3.then hb HCm16.out.low
  have HT16 := Lib.hid (HTm16.out.trans hs)
  have HX16 : Hid (OutX _ g16.heap.size l16 (beginO (newC 33 2) (writeW 15 (zerosN 16)))) := Lib.hid ⟨hG, hV⟩
  clear hb hG hV q1 q2 q3 hs HCm16 HTm16
  go_upto_region 17 with (fail)
  obtain ⟨w16, hw⟩ : ∃ x, x = (g16.alloc (.cells out0.toArray 90)).setCells g16.heap.size 0 l16 := ⟨_, rfl⟩
  obtain ⟨x16, hx⟩ : ∃ x, x = g16.heap.size := ⟨_, rfl⟩
  rw [← hw] at HC16 HT16 HX16  ⊢
  rw [← hx] at HX16 ⊢
  clear hw hx e1 e2
  go_wp2_with fail
  refine Calls.mono (sys1 HC16.out fun r1 r2 h => read_busy p r1 r2 0 beg2 0 w16 h (by decide) (by decide) (by decide)) ?_
  rintro en g17 ⟨l17, rfl, q1, q2, q3⟩
  obtain ⟨e1, e2, hb, hG, hV⟩ := put_out q2
  have HC17 := Lib.hid (q1.below hb)
  have hs := q3.then hb HC16.out.low
  have HT17 := Lib.hid (HT16.out.trans hs)
  have HX17 : Hid (OutX _ g17.heap.size l17 Ou.zero) := Lib.hid ⟨hG, hV⟩
  have HX16 := Lib.hid (HX16.out.stp hs)
  clear hb hG hV q1 q2 q3 hs HC16 HT16
  go_upto_region 18 with (fail)
  obtain ⟨w17, hw⟩ : ∃ x, x = (g17.alloc (.cells out0.toArray 90)).setCells g17.heap.size 0 l17 := ⟨_, rfl⟩
  obtain ⟨x17, hx⟩ : ∃ x, x = g17.heap.size := ⟨_, rfl⟩
  rw [← hw] at HC17 HT17 HX17 HX16 ⊢
  rw [← hx] at HX17 ⊢
  clear hw hx e1 e2
  clear HX17
  go_wp2_with fail
  obtain ⟨m18, hm⟩ : ∃ x, x = w17.alloc (.cells #[.int .u8 0, .int .u8 0, .int .u8 0, .int .u8 0, .int .u8 0, .int .u8 0, .int .u8 0, .int .u8 0, .int .u8 0, .int .u8 0, .int .u8 0, .int .u8 0, .int .u8 0, .int .u8 0, .int .u8 0, .int .u8 0] 5) := ⟨_, rfl⟩
  have hb : Below w17.heap.size w17 m18 := by rw [hm]; exact Below.new _ _
  have HM18 : Hid (BL m18 (some ⟨w17.heap.size, 0, none⟩) (zerosN 16)) := Lib.hid (by rw [hm]; exact zeros_bl _)
  obtain ⟨y18, hy⟩ : ∃ x, x = w17.heap.size := ⟨_, rfl⟩
  rw [← hm]
  rw [← hy] at HM18 ⊢
  have HCm18 := Lib.hid (HC17.out.below hb)
  have HTm18 := Lib.hid (HT17.out.then hb (Nat.le_refl _))
  have HX16 := Lib.hid (HX16.out.below hb)
  clear hm hy hb HC17 HT17
  refine Calls.mono (sys1 HCm18.out fun r1 r2 h => write_busy p r1 r2 0 beg2 0 (zerosN 16) (some ⟨y18, 0, none⟩) 16 m18 h (by decide) (by decide) rfl HM18.out (fun h => by cases h) (by decide)) ?_
  rintro en g18 ⟨l18, rfl, q1, q2, q3⟩
  obtain ⟨e1, e2, hb, hG, hV⟩ := put_out q2
  have HC18 := Lib.hid (q1.below hb)
  have hs := q3.then hb HCm18.out.low
  have HT18 := Lib.hid (HTm18.out.trans hs)
  have HX18 : Hid (OutX _ g18.heap.size l18 Ou.zero) := Lib.hid ⟨hG, hV⟩
  have HX16 := Lib.hid (HX16.out.stp hs)
  clear hb hG hV q1 q2 q3 hs HCm18 HTm18
  go_upto_region 19 with (fail)
  obtain ⟨w18, hw⟩ : ∃ x, x = (g18.alloc (.cells out0.toArray 90)).setCells g18.heap.size 0 l18 := ⟨_, rfl⟩
  obtain ⟨x18, hx⟩ : ∃ x, x = g18.heap.size := ⟨_, rfl⟩
  rw [← hw] at HC18 HT18 HX18 HX16 ⊢
  rw [← hx] at HX18 ⊢
  clear hw hx e1 e2
  clear HX18
  go_wp2_with fail
  refine Calls.mono (sys1 HC18.out fun r1 r2 h => write_bad p r1 r2 0 beg2 0 none 0 0 2 w18 h (by decide) (by decide) (.inr ⟨rfl, by decide, by decide, by decide⟩)) ?_
  rintro en g19 ⟨l19, rfl, q1, q2, q3⟩
  obtain ⟨e1, e2, hb, hG, hV⟩ := put_out q2
  have HC19 := Lib.hid (q1.below hb)
  have hs := q3.then hb HC18.out.low
  have HT19 := Lib.hid (HT18.out.trans hs)
  have HX19 : Hid (OutX _ g19.heap.size l19 Ou.zero) := Lib.hid ⟨hG, hV⟩
  have HX16 := Lib.hid (HX16.out.stp hs)
  clear hb hG hV q1 q2 q3 hs HC18 HT18
  go_upto_region 20 with (fail)
  obtain ⟨w19, hw⟩ : ∃ x, x = (g19.alloc (.cells out0.toArray 90)).setCells g19.heap.size 0 l19 := ⟨_, rfl⟩
  obtain ⟨x19, hx⟩ : ∃ x, x = g19.heap.size := ⟨_, rfl⟩
  rw [← hw] at HC19 HT19 HX19 HX16 ⊢
  rw [← hx] at HX19 ⊢
  clear hw hx e1 e2
  clear HX19
  obtain ⟨da0, dc0, na0, nc0, ⟨P60, P62, P66, _, _⟩, _⟩ := HX16.out.2.parts
  have P63 := HX16.out.2.group
  replace P63 : l16[63]? = some (.int .i64 2) := P63
  replace P66 : l16[66]? = some (.int .i64 7) := P66
  have k63 := HX16.out.1.cell P63
  have k66 := HX16.out.1.cell P66
  obtain ⟨q1', q2', hCl, _⟩ := HC19.out
  have HCl := Lib.hid hCl
  clear P60 P62 P63 P66 hCl
  go_wp2_with fail
  refine Calls.mono (busy_is p q1' q2' _ _ _ HCl.out) ?_
  rintro en wh ⟨rfl, rfl⟩
  rw [show (!decide (beg2.way = 0)) = true from by decide]
  clear k63 k66 HX16
  go_wp2_with fail
  refine Calls.mono (directory_any _) ?_
  rintro en d21 ⟨a21, rfl, hI, hb⟩
  have HTd := Lib.hid (HT19.out.then hb (Nat.le_refl _))
  have HI21 := Lib.hid hI
  clear hI hb HCl HC19 HT19
  go_wp2_with fail
  refine Calls.mono (new_is 31 1 (some a21) 4 _ HI21.out (fun h => by cases h) (by decide) (by decide)) ?_
  rintro en w21 ⟨p2, s1, rfl, hp, hr1, hC, hb⟩
  have hz := HTd.out.size
  have HC21 : Hid (Sys w.heap.size w21 p2 0 (newC 31 1)) := Lib.hid ⟨s1, s1, hC s1, by omega, by omega, by omega⟩
  have HT21 : Hid (Stp w.heap.size w w21) := Lib.hid (HTd.out.then hb (Nat.le_refl _))
  clear hp hr1 hC hb hz HTd HI21
  go_wp2_with fail
  refine Calls.mono (sys1 HC21.out fun r1 r2 h => read_is p2 r1 r2 0 (newC 31 1) 0 w21 h (by decide) (by decide) rfl (by decide) (by decide) (fun m hm => by cases hm)) ?_
  rintro en g22 ⟨l22, rfl, q1, q2, q3⟩
  obtain ⟨e1, e2, hb, hG, hV⟩ := put_out q2
  have HC22 := Lib.hid (q1.below hb)
  have hs := q3.then hb HC21.out.low
  have HT22 := Lib.hid (HT21.out.trans hs)
  have HX22 : Hid (OutX _ g22.heap.size l22 (againO (oneS 1 1 (fun _ => none)) (beganO (callO 1)))) := Lib.hid ⟨hG, hV⟩
  clear hb hG hV q1 q2 q3 hs HC21 HT21
  go_upto_region 23 with (fail)
  obtain ⟨w22, hw⟩ : ∃ x, x = (g22.alloc (.cells out0.toArray 90)).setCells g22.heap.size 0 l22 := ⟨_, rfl⟩
  obtain ⟨x22, hx⟩ : ∃ x, x = g22.heap.size := ⟨_, rfl⟩
  rw [← hw] at HC22 HT22 HX22  ⊢
  rw [← hx] at HX22 ⊢
  clear hw hx e1 e2
  replace HC22 : Hid (Sys w.heap.size w22 p2 0 (oneS 1 1 (fun _ => none))) := HC22
  obtain ⟨g, wa, wq, f1, f2, hgb, _⟩ := out_note HX22.out (kind := 1) (fr := 31) (W := (askO 1)) rfl
  go_wp2_with fail
  refine Calls.mono (reply_any 1 1 31 (askO 1) g wa wq errA none 0 none 0 _ hgb) ?_
  rintro en r23 ⟨rfl, hb⟩
  have HCr23 := Lib.hid (HC22.out.below hb)
  have HTr23 := Lib.hid (HT22.out.then hb (Nat.le_refl _))
  have HX22 := Lib.hid (HX22.out.below hb)
  clear f1 f2 hgb hb HC22 HT22
  go_wp2_with fail
  refine Calls.mono (take_Q w.heap.size p2 (0) (oneS 1 1 (fun _ => none)) (oneS 1 1 (oneF 1 errA)) Ou.zero 1 (askO 1) errA none 0 none 0 _ (oneS_fits 1 1 _ (by decide) (fun k a h => by cases h)) (heard_one 1 1 _ 1 _ (.inl rfl)) (take_one1 1 1 errA).1 (take_one1 1 1 errA).2 (by decide) HCr23.out (BL.nil _ _) (fun _ => rfl) (TL.nil _ _) (fun _ => rfl)) ?_
  rintro en w23 ⟨l23, rfl, q1, _, hb⟩
  have HC23 := Lib.hid q1
  have HT23 := Lib.hid (HTr23.out.trans hb)
  have HX22 := Lib.hid (HX22.out.stp hb)
  clear hb q1 HCr23 HTr23
  obtain ⟨g, wa, wq, f1, f2, hgb, _⟩ := out_note HX22.out (kind := 1) (fr := 31) (W := (askO 1)) rfl
  go_wp2_with fail
  refine Calls.mono (reply_any 2 1 31 (askO 1) g wa wq errA none 0 none 0 _ hgb) ?_
  rintro en r24 ⟨rfl, hb⟩
  have HCr24 := Lib.hid (HC23.out.below hb)
  have HTr24 := Lib.hid (HT23.out.then hb (Nat.le_refl _))
  have HX22 := Lib.hid (HX22.out.below hb)
  clear f1 f2 hgb hb HC23 HT23
  go_wp2_with fail
  refine Calls.mono (take_Q w.heap.size p2 (0 + 2) (oneS 1 1 (oneF 1 errA)) (doneS 1 1 (upF (oneF 1 errA) 2 (some errA))) (doneO (oneS 1 1 (upF (oneF 1 errA) 2 (some errA))) Ou.zero errA) 2 (askO 1) errA none 0 none 0 _ (oneS_fits 1 1 _ (by decide) (keys1 1 _ (by decide))) (heard_one 1 1 _ 2 _ (.inr (.inl rfl))) (take_one2 1 1 2 errA (.inl rfl) (by decide)).1 (take_one2 1 1 2 errA (.inl rfl) (by decide)).2 (by decide) HCr24.out (BL.nil _ _) (fun _ => rfl) (TL.nil _ _) (fun _ => rfl)) ?_
  rintro en g24 ⟨l24, rfl, q1, q2, q3⟩
  obtain ⟨e1, e2, hb, hG, hV⟩ := put_out q2
  have HC24 := Lib.hid (q1.below hb)
  have hs := q3.then hb HCr24.out.low
  have HT24 := Lib.hid (HTr24.out.trans hs)
  have HX24 : Hid (OutX _ g24.heap.size l24 (doneO (oneS 1 1 (upF (oneF 1 errA) 2 (some errA))) Ou.zero errA)) := Lib.hid ⟨hG, hV⟩
  have HX22 := Lib.hid (HX22.out.stp hs)
  clear hb hG hV q1 q2 q3 hs HCr24 HTr24
  go_upto_region 25 with (fail)
  obtain ⟨w24, hw⟩ : ∃ x, x = (g24.alloc (.cells out0.toArray 90)).setCells g24.heap.size 0 l24 := ⟨_, rfl⟩
  obtain ⟨x24, hx⟩ : ∃ x, x = g24.heap.size := ⟨_, rfl⟩
  rw [← hw] at HC24 HT24 HX24 HX22 ⊢
  rw [← hx] at HX24 ⊢
  clear hw hx e1 e2
  obtain ⟨da0, dc0, na0, nc0, ⟨P60, _⟩, ⟨P71, _⟩, _⟩ := HX24.out.2.parts
  replace P60 : l24[60]? = some (.bool true) := P60
  replace P71 : l24[71]? = some (.int .i64 180) := P71
  have k60 := HX24.out.1.cell P60
  have k71 := HX24.out.1.cell P71
  obtain ⟨q1', q2', hCl, _⟩ := HC24.out
  have HCl := Lib.hid hCl
  clear P60 P71 hCl
  go_wp2_with fail
  refine Calls.mono (busy_is p2 q1' q2' _ _ _ HCl.out) ?_
  rintro en wh ⟨rfl, rfl⟩
  rw [show (!decide ((doneS 1 1 (upF (oneF 1 errA) 2 (some errA))).way = 0)) = false from by decide]
  clear k60 k71 HX24 HX22 HCl
  go_wp2_with fail
  refine Calls.mono (sys1 HC24.out fun r1 r2 h => read_is p2 r1 r2 _ (doneS 1 1 (upF (oneF 1 errA) 2 (some errA))) 0 w24 h (by decide) (by decide) rfl (by decide) (by decide) (fun m hm => by cases hm)) ?_
  rintro en g26 ⟨l26, rfl, q1, q2, q3⟩
  obtain ⟨e1, e2, hb, hG, hV⟩ := put_out q2
  have HC26 := Lib.hid (q1.below hb)
  have hs := q3.then hb HC24.out.low
  have HT26 := Lib.hid (HT24.out.trans hs)
  have HX26 : Hid (OutX _ g26.heap.size l26 (againO (oneS 2 2 (fun _ => none)) (beganO (callO 2)))) := Lib.hid ⟨hG, hV⟩
  clear hb hG hV q1 q2 q3 hs HC24 HT24
  go_upto_region 27 with (fail)
  obtain ⟨w26, hw⟩ : ∃ x, x = (g26.alloc (.cells out0.toArray 90)).setCells g26.heap.size 0 l26 := ⟨_, rfl⟩
  obtain ⟨x26, hx⟩ : ∃ x, x = g26.heap.size := ⟨_, rfl⟩
  rw [← hw] at HC26 HT26 HX26  ⊢
  rw [← hx] at HX26 ⊢
  clear hw hx e1 e2
  replace HC26 : Hid (Sys w.heap.size w26 p2 (0 + 2 + 2) (oneS 2 2 (fun _ => none))) := HC26
  obtain ⟨g, wa, wq, f1, f2, hgb, _⟩ := out_note HX26.out (kind := 1) (fr := 31) (W := (askO 2)) rfl
  go_wp2_with fail
  obtain ⟨v27, hv⟩ : ∃ x, x = w26.alloc (.cells #[.int .i64 5] 3) := ⟨_, rfl⟩
  have hb : Below w26.heap.size w26 v27 := by rw [hv]; exact Below.new _ _
  have HI27 : Hid (IL v27 (some ⟨w26.heap.size, 0, none⟩) [5]) := Lib.hid (by rw [hv]; exact il_five _)
  obtain ⟨y27, hy⟩ : ∃ x, x = w26.heap.size := ⟨_, rfl⟩
  rw [← hv]
  rw [← hy] at HI27 ⊢
  have HCv27 := Lib.hid (HC26.out.below hb)
  have HTv27 := Lib.hid (HT26.out.then hb (Nat.le_refl _))
  have HX26 := Lib.hid (HX26.out.below hb)
  replace hgb := hgb.below hb
  clear hv hy hb f1 f2 HC26 HT26
  refine Calls.mono (reply_any 1 1 31 (askO 2) g wa wq oddA none 0 (some ⟨y27, 0, none⟩) 1 _ hgb) ?_
  rintro en r27 ⟨rfl, hb⟩
  have HCr27 := Lib.hid (HCv27.out.below hb)
  have HTr27 := Lib.hid (HTv27.out.then hb (Nat.le_refl _))
  have HX26 := Lib.hid (HX26.out.below hb)
  have HIr27 := Lib.hid (TL.below HI27.out hb)
  clear hgb hb HCv27 HTv27
  go_wp2_with fail
  refine Calls.mono (take_Q w.heap.size p2 (0 + 2 + 2) (oneS 2 2 (fun _ => none)) (oneS 2 2 (oneF 1 oddA)) Ou.zero 1 (askO 2) oddA none 0 (some ⟨y27, 0, none⟩) 1 _ (oneS_fits 2 2 _ (by decide) (fun k a h => by cases h)) (heard_one 2 2 _ 1 _ (.inl rfl)) (take_one1 2 2 oddA).1 (take_one1 2 2 oddA).2 (by decide) HCr27.out (BL.nil _ _) (fun _ => rfl) HIr27.out (fun h => by cases h)) ?_
  rintro en w27 ⟨l27, rfl, q1, _, hb⟩
  have HC27 := Lib.hid q1
  have HT27 := Lib.hid (HTr27.out.trans hb)
  have HX26 := Lib.hid (HX26.out.stp hb)
  clear hb q1 HCr27 HTr27
  obtain ⟨g, wa, wq, f1, f2, hgb, _⟩ := out_note HX26.out (kind := 1) (fr := 31) (W := (askO 2)) rfl
  go_wp2_with fail
  obtain ⟨v28, hv⟩ : ∃ x, x = w27.alloc (.cells #[.int .i64 5] 3) := ⟨_, rfl⟩
  have hb : Below w27.heap.size w27 v28 := by rw [hv]; exact Below.new _ _
  have HI28 : Hid (IL v28 (some ⟨w27.heap.size, 0, none⟩) [5]) := Lib.hid (by rw [hv]; exact il_five _)
  obtain ⟨y28, hy⟩ : ∃ x, x = w27.heap.size := ⟨_, rfl⟩
  rw [← hv]
  rw [← hy] at HI28 ⊢
  have HCv28 := Lib.hid (HC27.out.below hb)
  have HTv28 := Lib.hid (HT27.out.then hb (Nat.le_refl _))
  have HX26 := Lib.hid (HX26.out.below hb)
  replace hgb := hgb.below hb
  clear hv hy hb f1 f2 HC27 HT27
  refine Calls.mono (reply_any 4 1 31 (askO 2) g wa wq oddA none 0 (some ⟨y28, 0, none⟩) 1 _ hgb) ?_
  rintro en r28 ⟨rfl, hb⟩
  have HCr28 := Lib.hid (HCv28.out.below hb)
  have HTr28 := Lib.hid (HTv28.out.then hb (Nat.le_refl _))
  have HX26 := Lib.hid (HX26.out.below hb)
  have HIr28 := Lib.hid (TL.below HI28.out hb)
  clear hgb hb HCv28 HTv28
  go_wp2_with fail
  refine Calls.mono (take_Q w.heap.size p2 (0 + 2 + 2 + 2) (oneS 2 2 (oneF 1 oddA)) (doneS 2 2 (upF (oneF 1 oddA) 4 (some oddA))) (doneO (oneS 2 2 (upF (oneF 1 oddA) 4 (some oddA))) Ou.zero oddA) 4 (askO 2) oddA none 0 (some ⟨y28, 0, none⟩) 1 _ (oneS_fits 2 2 _ (by decide) (keys1 1 _ (by decide))) (heard_one 2 2 _ 4 _ (.inr (.inr rfl))) (take_one2 2 2 4 oddA (.inr rfl) (by decide)).1 (take_one2 2 2 4 oddA (.inr rfl) (by decide)).2 (by decide) HCr28.out (BL.nil _ _) (fun _ => rfl) HIr28.out (fun h => by cases h)) ?_
  rintro en g28 ⟨l28, rfl, q1, q2, q3⟩
  obtain ⟨e1, e2, hb, hG, hV⟩ := put_out q2
  have HC28 := Lib.hid (q1.below hb)
  have hs := q3.then hb HCr28.out.low
  have HT28 := Lib.hid (HTr28.out.trans hs)
  have HX28 : Hid (OutX _ g28.heap.size l28 (doneO (oneS 2 2 (upF (oneF 1 oddA) 4 (some oddA))) Ou.zero oddA)) := Lib.hid ⟨hG, hV⟩
  have HX26 := Lib.hid (HX26.out.stp hs)
  clear hb hG hV q1 q2 q3 hs HCr28 HTr28
  go_upto_region 29 with (fail)
  obtain ⟨w28, hw⟩ : ∃ x, x = (g28.alloc (.cells out0.toArray 90)).setCells g28.heap.size 0 l28 := ⟨_, rfl⟩
  obtain ⟨x28, hx⟩ : ∃ x, x = g28.heap.size := ⟨_, rfl⟩
  rw [← hw] at HC28 HT28 HX28 HX26 ⊢
  rw [← hx] at HX28 ⊢
  clear hw hx e1 e2
  obtain ⟨da0, dc0, na0, nc0, ⟨P60, _⟩, _⟩ := HX28.out.2.parts
  replace P60 : l28[60]? = some (.bool true) := P60
  have k60 := HX28.out.1.cell P60
  obtain ⟨da1, dc1, na1, nc1, ⟨_, P62, _⟩, _⟩ := HX26.out.2.parts
  replace P62 : l26[62]? = some (.int .i64 2) := P62
  have k62 := HX26.out.1.cell P62
  obtain ⟨g9, wa9, wq9, _, _, hg9, k39⟩ := out_note HX26.out (kind := 1) (fr := 31) (W := askO 2) rfl
  have k91 : w28.cell? ⟨g9, 1, none⟩ = some (.int .i64 2) := hg9.cell (i := 1) rfl
  clear P60 P62 hg9
  go_wp2_with fail
  clear k60 k62 k39 k91 HX26 HX28
  refine Calls.mono (sys1 HC28.out fun r1 r2 h => fire_is p2 r1 r2 _ (doneS 2 2 (upF (oneF 1 oddA) 4 (some oddA))) w28 h (by decide) (Wf.of (by decide) (by decide)) (fun hw => absurd rfl hw) (fun hw => absurd hw (show ¬ (0 : Int) = 2 by decide)) (fun m hm => by cases hm)) ?_
  rintro en g30 ⟨l30, rfl, q1, q2, q3⟩
  obtain ⟨e1, e2, hb, hG, hV⟩ := put_out q2
  have HC30 := Lib.hid (q1.below hb)
  have hs := q3.then hb HC28.out.low
  have HT30 := Lib.hid (HT28.out.trans hs)
  have HX30 : Hid (OutX _ g30.heap.size l30 Ou.zero) := Lib.hid ⟨hG, hV⟩
  clear hb hG hV q1 q2 q3 hs HC28 HT28
  go_upto_region 31 with (fail)
  obtain ⟨w30, hw⟩ : ∃ x, x = (g30.alloc (.cells out0.toArray 90)).setCells g30.heap.size 0 l30 := ⟨_, rfl⟩
  obtain ⟨x30, hx⟩ : ∃ x, x = g30.heap.size := ⟨_, rfl⟩
  rw [← hw] at HC30 HT30 HX30  ⊢
  rw [← hx] at HX30 ⊢
  clear hw hx e1 e2
  replace HC30 : Hid (Sys w.heap.size w30 p2 (0 + 2 + 2 + 2 + 2) (doneS 2 2 (upF (oneF 1 oddA) 4 (some oddA)))) := HC30
  go_wp2_with fail
  refine Calls.mono (directory_any _) ?_
  rintro en d31 ⟨a31, rfl, hI, hb⟩
  have HTd := Lib.hid (HT30.out.then hb (Nat.le_refl _))
  have HCd := Lib.hid (HC30.out.below hb)
  have HX30 := Lib.hid (HX30.out.below hb)
  have HI31 := Lib.hid hI
  clear hI hb HC30 HT30
  go_wp2_with fail
  refine Calls.mono (new_is 34 1 (some a31) 4 _ HI31.out (fun h => by cases h) (by decide) (by decide)) ?_
  rintro en w31 ⟨p3, s3, rfl, hp, hr1, hC, hb⟩
  have HC31 : Hid (Sys d31.heap.size w31 p3 0 (newC 34 1)) := Lib.hid ⟨s3, s3, hC s3, hp, hr1, hr1⟩
  have HT31 := Lib.hid (HTd.out.then hb (Nat.le_refl _))
  have HX30 := Lib.hid (HX30.out.below hb)
  have HBd := Lib.hid hb
  clear hp hr1 hC hb HI31
  go_wp2_with fail
  refine Calls.mono (sys1 HC31.out fun r1 r2 h => replace_bad p3 r1 r2 0 (newC 34 1) 2 1 2 w31 h (by decide)) ?_
  rintro en g32 ⟨l32, rfl, q1, q2, q3⟩
  obtain ⟨e1, e2, hb, hG, hV⟩ := put_out q2
  have hs := q3.then hb (HBd.out.size)
  have hz := HTd.out.size
  have HC32 := Lib.hid (HCd.out.below (HBd.out.trans hs.low))
  have HT32 : Hid (Stp w.heap.size w _) := Lib.hid (HT31.out.trans ⟨hs.low.mono hz, hs.stays⟩)
  have HX30 := Lib.hid (HX30.out.stp hs)
  clear hb hG hV q1 q2 q3 hs hz HC31 HT31 HBd HTd HCd
  go_upto_region 33 with (fail)
  obtain ⟨w32, hw⟩ : ∃ x, x = (g32.alloc (.cells out0.toArray 90)).setCells g32.heap.size 0 l32 := ⟨_, rfl⟩
  obtain ⟨x32, hx⟩ : ∃ x, x = g32.heap.size := ⟨_, rfl⟩
  rw [← hw] at HC32 HT32 HX30 ⊢
  rw [← hx]
  clear hw hx e1 e2
  go_wp2_with fail
  obtain ⟨m1, m2, hCm, _⟩ := HC32.out
  refine Calls.mono (map_is p2 m1 m2 _ _ 1 w32 hCm (Wf.of (by decide) (by decide)) (fun z hz => by cases hz)) ?_
  rintro en g33 ⟨f33, ep33, a33, n33, c33, he, _, hb⟩
  obtain rfl : en = .returned (.tuple #[.agg #[.int .i64 f33, .slice a33 n33 c33], .int .i64 ep33, .bool false]) := he
  have HT33 := Lib.hid (HT32.out.then hb (Nat.le_refl _))
  have HX30 := Lib.hid (HX30.out.below hb)
  clear hCm hb HC32 HT32
  go_upto_region 34 with (fail)
  obtain ⟨w33, hw⟩ : ∃ x, x = g33.alloc (.cells #[.int .i64 f33, .slice a33 n33 c33] 24) := ⟨_, rfl⟩
  have hb : Below g33.heap.size g33 w33 := by rw [hw]; exact Below.new _ _
  obtain ⟨x33, hx⟩ : ∃ x, x = g33.heap.size := ⟨_, rfl⟩
  have HT34 := Lib.hid (HT33.out.then hb (Nat.le_refl _))
  have HX30 := Lib.hid (HX30.out.below hb)
  rw [← hw]
  rw [← hx]
  clear hw hx hb HT33
  go_wp2_with fail
  refine Calls.mono (mapped_is 4 w33) ?_
  rintro en w34 ⟨p4, s4, t4, l34, rfl, hN, hC, hb, hp, hr1, hr2⟩
  obtain ⟨g, wa, wq, rfl, hg, _⟩ := hN
  have hz := HT34.out.size
  have hS1 : Sys w.heap.size w34 p4 4 (mapC 4 2 (fun _ => none)) := ⟨s4, t4, hC, by omega, by omega, by omega⟩
  obtain ⟨e3, e4, hb2, hG⟩ := put_note (w := w34) (l := noteL 14 31 (lookW 4).group (lookW 4).epoch (.slice (some ⟨g, 0, none⟩) 1 1) zeroA 0 0) rfl (note_one zeroA_one)
  have HG35 := Lib.hid (hg.below hb2)
  have HC35 := Lib.hid (hS1.below hb2)
  have HT35 := Lib.hid ((HT34.out.then hb (Nat.le_refl _)).then hb2 (Nat.le_refl _))
  have HX30 := Lib.hid ((HX30.out.below hb).below hb2)
  have HN35 := Lib.hid hG
  clear hb2 hG hg hS1 hC hb hp hr1 hr2 hz HT34
  go_upto_region 35 with (fail)
  obtain ⟨x35, hx⟩ : ∃ x, x = w34.heap.size := ⟨_, rfl⟩
  obtain ⟨w35, hw⟩ : ∃ x, x = (w34.alloc (.cells note0.toArray 81)).setCells w34.heap.size 0 (noteL 14 31 (lookW 4).group (lookW 4).epoch (.slice (some ⟨g, 0, none⟩) 1 1) zeroA 0 0) := ⟨_, rfl⟩
  rw [← hw] at HG35 HC35 HT35 HX30 HN35 ⊢
  rw [← hx] at HN35 ⊢
  clear hw hx e3 e4
  go_wp2_with fail
  obtain ⟨m1, m2, hCm, _⟩ := HC35.out
  refine Calls.mono (map_is p4 m1 m2 _ _ 1 w35 hCm (Wf.of (by decide) (by decide)) (fun z hz => by cases hz; decide)) ?_
  rintro en g37 ⟨f37, ep37, a37, n37, c37, he, hq, hb⟩
  obtain ⟨rfl, rfl, hI37⟩ := hq (fiveL, 4) rfl
  obtain rfl : en = .returned (.tuple #[.agg #[.int .i64 f37, .slice a37 4 c37], .int .i64 4, .bool true]) := he
  have hb2 : Below g37.heap.size g37 (g37.alloc (.cells #[.int .i64 f37, .slice a37 4 c37] 24)) := Below.new _ _
  have hbb := Below.step hb hb2
  have HG37 := Lib.hid (HG35.out.below hbb)
  have HC37 := Lib.hid (HC35.out.below hbb)
  have HT37 := Lib.hid (HT35.out.then hbb (Nat.le_refl _))
  have HX30 := Lib.hid (HX30.out.below hbb)
  have HN37 := Lib.hid (HN35.out.below hbb)
  have HI37 : Hid (IL _ a37 [5, 6, 7, 8]) := Lib.hid (TL.below hI37 hb2)
  have HM37 := Lib.hid (Blk.new g37 [.int .i64 f37, .slice a37 4 c37] 24)
  clear hCm hb hb2 hbb hI37 hq HG35 HC35 HT35 HN35
  go_upto_region 38 with (fail)
  obtain ⟨x37, hx⟩ : ∃ x, x = g37.heap.size := ⟨_, rfl⟩
  obtain ⟨w37, hw⟩ : ∃ x, x = g37.alloc (.cells #[.int .i64 f37, .slice a37 4 c37] 24) := ⟨_, rfl⟩
  rw [← hw] at HG37 HC37 HT37 HX30 HN37 HI37 ⊢
  rw [show (g37.alloc (.cells [.int .i64 f37, .slice a37 4 c37].toArray 24)) = w37 from hw.symm] at HM37
  rw [← hx] at HM37 ⊢
  clear hw hx
  obtain ⟨f1, f2⟩ := note81_at HN37.out rfl (Below.refl _ _)
  go_wp2_with fail
  refine Calls.mono (reply_any 5 14 31 (lookW 4) g wa wq (otherA 5) none 0 none 0 w37 HG37.out) ?_
  rintro en r38 ⟨rfl, hb⟩
  have HCr := Lib.hid (HC37.out.below hb)
  have HTr := Lib.hid (HT37.out.then hb (Nat.le_refl _))
  have HGr := Lib.hid (HG37.out.below hb)
  have HNr := Lib.hid (HN37.out.below hb)
  have HIr := Lib.hid (TL.below HI37.out hb)
  have HMr := Lib.hid (HM37.out.below hb)
  have HX30 := Lib.hid (HX30.out.below hb)
  clear f1 f2 hb HC37 HT37 HG37 HN37 HI37 HM37
  go_wp2_with fail
  refine Calls.mono (take_Q w.heap.size p4 (4) (mapC 4 2 (fun _ => none)) (mapC 4 2 (oneF 5 (otherA 5))) Ou.zero 5 (lookW 4) (otherA 5) none 0 none 0 _ (mapC_fits 4 2 _ (fun k a h => by cases h)) (heard_map 4 2 (.inl rfl) _ 5 _ (by decide)) take_oth1.1 take_oth1.2 (by decide) HCr.out (BL.nil _ _) (fun _ => rfl) (TL.nil _ _) (fun _ => rfl)) ?_
  rintro en q38 ⟨l38, rfl, q1, q2, hs⟩
  have HC38 := Lib.hid q1
  have HT38 := Lib.hid (HTr.out.trans hs)
  have HG38 := Lib.hid (hs.blk HGr.out (by decide))
  have HN38 := Lib.hid (hs.blk HNr.out (by decide))
  have HI38 := Lib.hid (hs.stays.keeps.il HIr.out)
  have HM38 := Lib.hid (hs.blk HMr.out (by decide))
  have HX30 := Lib.hid (HX30.out.stp hs)
  obtain ⟨w38, hw⟩ : ∃ x, x = q38 := ⟨_, rfl⟩
  rw [← hw] at HC38 HT38 HG38 HN38 HI38 HM38 HX30 ⊢
  clear hw q1 q2 hs HCr HTr HGr HNr HIr HMr
  go_upto_region 39 with (fail)
  obtain ⟨f1, f2⟩ := note81_at HN38.out rfl (Below.refl _ _)
  go_wp2_with fail
  refine Calls.mono (reply_any 8 14 31 (lookW 4) g wa wq (otherA 5) none 0 none 0 w38 HG38.out) ?_
  rintro en r39 ⟨rfl, hb⟩
  have HCr := Lib.hid (HC38.out.below hb)
  have HTr := Lib.hid (HT38.out.then hb (Nat.le_refl _))
  have HGr := Lib.hid (HG38.out.below hb)
  have HNr := Lib.hid (HN38.out.below hb)
  have HIr := Lib.hid (TL.below HI38.out hb)
  have HMr := Lib.hid (HM38.out.below hb)
  have HX30 := Lib.hid (HX30.out.below hb)
  clear f1 f2 hb HC38 HT38 HG38 HN38 HI38 HM38
  go_wp2_with fail
  refine Calls.mono (take_Q w.heap.size p4 (4 + 2) (mapC 4 2 (oneF 5 (otherA 5))) askF (againO askF Ou.zero) 8 (lookW 4) (otherA 5) none 0 none 0 _ (mapC_fits 4 2 _ (keys1 5 _ (by decide))) (heard_map 4 2 (.inl rfl) _ 8 _ (by decide)) take_oth2.1 take_oth2.2 (by decide) HCr.out (BL.nil _ _) (fun _ => rfl) (TL.nil _ _) (fun _ => rfl)) ?_
  rintro en q39 ⟨l39, rfl, q1, q2, hs⟩
  obtain ⟨e1, e2, hb, hG, hV⟩ := put_out q2
  have hs2 := hs.then hb HCr.out.low
  have HC39 := Lib.hid (q1.below hb)
  have HT39 := Lib.hid (HTr.out.trans hs2)
  have HI39 := Lib.hid (hs2.stays.keeps.il HIr.out)
  have HM39 := Lib.hid (hs2.blk HMr.out (by decide))
  have HX30 := Lib.hid (HX30.out.stp hs2)
  have HX39 : Hid (OutX _ q39.heap.size l39 (againO askF Ou.zero)) := Lib.hid ⟨hG, hV⟩
  clear hb hG hV q1 q2 hs hs2 HCr HTr HGr HNr HIr HMr
  go_upto_region 40 with (fail)
  obtain ⟨w39, hw⟩ : ∃ x, x = (q39.alloc (.cells out0.toArray 90)).setCells q39.heap.size 0 l39 := ⟨_, rfl⟩
  obtain ⟨x39, hx⟩ : ∃ x, x = q39.heap.size := ⟨_, rfl⟩
  rw [← hw] at HC39 HT39 HI39 HM39 HX30 HX39 ⊢
  rw [← hx] at HX39 ⊢
  clear hw hx e1 e2
  go_wp2_with fail
  obtain ⟨m1, m2, hCm, _⟩ := HC39.out
  refine Calls.mono (map_is p4 m1 m2 _ _ 1 w39 hCm (Wf.of (by decide) (by decide)) (fun z hz => by cases hz)) ?_
  rintro en g40 ⟨f40, ep40, a40, n40, c40, he, _, hb⟩
  obtain rfl : en = .returned (.tuple #[.agg #[.int .i64 f40, .slice a40 n40 c40], .int .i64 ep40, .bool false]) := he
  have hb2 : Below g40.heap.size g40 (g40.alloc (.cells #[.int .i64 f40, .slice a40 n40 c40] 24)) := Below.new _ _
  have hbb := Below.step hb hb2
  have HT40 := Lib.hid (HT39.out.then hbb (Nat.le_refl _))
  have HX30 := Lib.hid (HX30.out.below hbb)
  have HX40 := Lib.hid (HX39.out.below hbb)
  have HI40 := Lib.hid (TL.below HI39.out hbb)
  have HM40 := Lib.hid (HM39.out.below hbb)
  clear hCm hb hb2 hbb HC39 HT39 HX39 HI39 HM39
  go_upto_region 41 with (fail)
  obtain ⟨w40, hw⟩ : ∃ x, x = g40.alloc (.cells #[.int .i64 f40, .slice a40 n40 c40] 24) := ⟨_, rfl⟩
  rw [← hw] at HT40 HX30 HX40 HI40 HM40 ⊢
  clear hw
  have c1 := HM40.out.cell (i := 1) rfl
  obtain ⟨g1, g2⟩ := out_at HX40.out.1 HX40.out.2.len (Below.refl _ _)
  have hZ0 : Below w40.heap.size w40 w40 := Below.refl _ _
  clear HI1 HI2 HI4 HI5 HI7 HP HM14 HM16 HM18 HIr28
  go_cut [15, 34, 41, 46, 47, 48, 52, 66] from 0 to 491 (fun v15 v34 v41 v46 v47 v48 v52 v66 wx => v15 = .bool true ∧ v34 = .bool true ∧ v41 = .bool true ∧ v46 = .bool true ∧ v47 = .pointer (some ⟨x30, 0, none⟩) ∧ v48 = .int .i64 0 ∧ v52 = .int .i64 2 ∧ v66 = .bool true ∧ Hid (Below w40.heap.size w40 wx))
  case first =>
    refine wp_region_known (by kernel_rfl) (PhiK a37 c37 x37 l39) (fun w w' => Below w.heap.size w w') (fun w' => Below w40.heap.size w40 w') ?_ (fun w w' h1 h2 => Below.step h1 h2) (fun d v w w' h1 h2 => h1.below h2) (by kernel_rfl) ?_ ?_
    · exact Below.drew (Below.refl _ _)
    · as_aux_lemma =>
      refine And.intro ?_ ?_
      · intro a w HS hold hdep
        refine ⟨Runs.plain rfl, step_of rfl fun K hK => ?_⟩
        have HK := Lib.hid hK
        clear hK
        have e : a.tmps[55]?.getD undef = Value.bool false := hold 55 (by kernel_rfl)
        clear hold hdep
        go_simp
        exact HK.out _ _ (Below.refl _ _) rfl
      refine And.intro ?_ ?_
      · intro a w HS hold hdep
        refine ⟨Runs.plain rfl, step_of rfl fun K hK => ?_⟩
        have HK := Lib.hid hK
        clear hK
        have e : a.tmps[376]?.getD undef = Value.bool false := hdep 376 (by kernel_rfl)
        clear hold hdep
        go_simp
        exact HK.out _ _ (Below.refl _ _) rfl
      refine And.intro ?_ ?_
      · intro a w HS hold hdep
        refine ⟨Runs.plain rfl, step_of rfl fun K hK => ?_⟩
        have HK := Lib.hid hK
        clear hK
        have e : a.tmps[377]?.getD undef = Value.bool true := hdep 377 (by kernel_rfl)
        clear hold hdep
        go_simp
        exact HK.out _ _ (Below.refl _ _) rfl
      refine And.intro ?_ ?_
      · intro a w HS hold hdep
        refine ⟨Runs.by (j := 2) (d := 378) rfl rfl rfl (hdep 378 (by kernel_rfl)), step_of rfl fun K hK => ?_⟩
        have HK := Lib.hid hK
        clear hK
        have e : a.tmps[60]?.getD undef = Value.bool true := hold 60 (by kernel_rfl)
        clear hold hdep
        go_simp
        exact HK.out _ _ (Below.refl _ _) rfl
      refine And.intro ?_ ?_
      · intro a w HS hold hdep
        refine ⟨Runs.plain rfl, step_of rfl fun K hK => ?_⟩
        have HK := Lib.hid hK
        clear hK
        have e1 : a.tmps[378]?.getD undef = Value.bool true := hdep 378 (by kernel_rfl)
        have e2 : a.tmps[379]?.getD undef = Value.bool true := hdep 379 (by kernel_rfl)
        clear hold hdep
        go_simp
        exact HK.out _ _ (Below.refl _ _) rfl
      refine And.intro ?_ ?_
      · intro a w HS hold hdep
        refine ⟨Runs.plain rfl, step_of rfl fun K hK => ?_⟩
        have HK := Lib.hid hK
        clear hK
        have e : a.tmps[380]?.getD undef = Value.bool true := hdep 380 (by kernel_rfl)
        clear hold hdep
        go_simp
        exact HK.out _ _ (Below.refl _ _) rfl
      refine And.intro ?_ ?_
      · intro a w HS hold hdep
        refine ⟨Runs.by (j := 5) (d := 381) rfl rfl rfl (hdep 381 (by kernel_rfl)), step_of rfl fun K hK => ?_⟩
        have HK := Lib.hid hK
        clear hK
        have e : a.tmps[59]?.getD undef = Value.int .i64 4 := hold 59 (by kernel_rfl)
        clear hold hdep
        go_simp
        exact HK.out _ _ (Below.refl _ _) rfl
      refine And.intro ?_ ?_
      · intro a w HS hold hdep
        refine ⟨Runs.by (j := 5) (d := 381) rfl rfl rfl (hdep 381 (by kernel_rfl)), step_of rfl fun K hK => ?_⟩
        have HK := Lib.hid hK
        clear hK
        have e : a.tmps[382]?.getD undef = Value.int .i64 4 := hdep 382 (by kernel_rfl)
        clear hold hdep
        go_simp
        exact HK.out _ _ (Below.refl _ _) rfl
      refine And.intro ?_ ?_
      · intro a w HS hold hdep
        refine ⟨Runs.plain rfl, step_of rfl fun K hK => ?_⟩
        have HK := Lib.hid hK
        clear hK
        have e1 : a.tmps[381]?.getD undef = Value.bool true := hdep 381 (by kernel_rfl)
        have e2 : a.tmps[383]?.getD undef = Value.bool true := hdep 383 (by kernel_rfl)
        clear hold hdep
        go_simp
        exact HK.out _ _ (Below.refl _ _) rfl
      refine And.intro ?_ ?_
      · intro a w HS hold hdep
        refine ⟨Runs.plain rfl, step_of rfl fun K hK => ?_⟩
        have HK := Lib.hid hK
        clear hK
        have e : a.tmps[384]?.getD undef = Value.bool true := hdep 384 (by kernel_rfl)
        clear hold hdep
        go_simp
        exact HK.out _ _ (Below.refl _ _) rfl
      refine And.intro ?_ ?_
      · intro a w HS hold hdep
        refine ⟨Runs.by (j := 9) (d := 385) rfl rfl rfl (hdep 385 (by kernel_rfl)), step_of rfl fun K hK => ?_⟩
        have HK := Lib.hid hK
        clear hK
        have e : a.tmps[58]?.getD undef = Value.pointer (some ⟨x37, 0, none⟩) := hold 58 (by kernel_rfl)
        clear hold hdep
        go_simp
        exact HK.out _ _ (Below.refl _ _) rfl
      refine And.intro ?_ ?_
      · intro a w HS hold hdep
        refine ⟨Runs.by (j := 9) (d := 385) rfl rfl rfl (hdep 385 (by kernel_rfl)), step_of rfl fun K hK => ?_⟩
        have HK := Lib.hid hK
        clear hK
        have e : a.tmps[386]?.getD undef = Value.pointer (some ⟨x37, 1, none⟩) := hdep 386 (by kernel_rfl)
        have c1 := (HM40.out.below HS).cell (i := 1) rfl
        clear hold hdep
        go_simp
        exact HK.out _ _ (Below.refl _ _) rfl
      refine And.intro ?_ ?_
      · intro a w HS hold hdep
        refine ⟨Runs.by (j := 9) (d := 385) rfl rfl rfl (hdep 385 (by kernel_rfl)), step_of rfl fun K hK => ?_⟩
        have HK := Lib.hid hK
        clear hK
        clear hold hdep
        go_simp
        refine Calls.mono (five_any _) ?_
        rintro en we ⟨a5, rfl, hI5, hb5⟩
        exact HK.out _ _ hb5 ⟨a5, rfl, hI5⟩
      refine And.intro ?_ ?_
      · intro a w HS hold hdep
        refine ⟨Runs.by (j := 9) (d := 385) rfl rfl rfl (hdep 385 (by kernel_rfl)), step_of rfl fun K hK => ?_⟩
        have HK := Lib.hid hK
        clear hK
        have e : a.tmps[387]?.getD undef = Value.slice a37 4 c37 := hdep 387 (by kernel_rfl)
        obtain ⟨a5, e2, hI5⟩ : FiveV w (held a 388) := hdep 388 (by kernel_rfl)
        change a.tmps[388]?.getD undef = _ at e2
        clear hold hdep
        go_simp
        refine Calls.mono (eq_five a37 (some a5) c37 4 _ (TL.below HI40.out HS) hI5) ?_
        rintro en wf ⟨rfl, hb6⟩
        exact HK.out _ _ hb6 rfl
      refine And.intro ?_ ?_
      · intro a w HS hold hdep
        refine ⟨Runs.plain rfl, step_of rfl fun K hK => ?_⟩
        have HK := Lib.hid hK
        clear hK
        have e1 : a.tmps[385]?.getD undef = Value.bool true := hdep 385 (by kernel_rfl)
        have e2 : a.tmps[389]?.getD undef = Value.bool true := hdep 389 (by kernel_rfl)
        clear hold hdep
        go_simp
        exact HK.out _ _ (Below.refl _ _) rfl
      refine And.intro ?_ ?_
      · intro a w HS hold hdep
        refine ⟨Runs.plain rfl, step_of rfl fun K hK => ?_⟩
        have HK := Lib.hid hK
        clear hK
        have e : a.tmps[390]?.getD undef = Value.bool true := hdep 390 (by kernel_rfl)
        clear hold hdep
        go_simp
        exact HK.out _ _ (Below.refl _ _) rfl
      refine And.intro ?_ ?_
      · intro a w HS hold hdep
        refine ⟨Runs.by (j := 15) (d := 391) rfl rfl rfl (hdep 391 (by kernel_rfl)), step_of rfl fun K hK => ?_⟩
        have HK := Lib.hid hK
        clear hK
        have e : a.tmps[61]?.getD undef = Value.pointer (some ⟨x39, 0, none⟩) := hold 61 (by kernel_rfl)
        obtain ⟨g1, g2⟩ := out_at HX40.out.1 HX40.out.2.len HS
        clear hold hdep
        go_simp
        exact HK.out _ _ (Below.refl _ _) rfl
      refine And.intro ?_ ?_
      · intro a w HS hold hdep
        refine ⟨Runs.by (j := 15) (d := 391) rfl rfl rfl (hdep 391 (by kernel_rfl)), step_of rfl fun K hK => ?_⟩
        have HK := Lib.hid hK
        clear hK
        have e : a.tmps[62]?.getD undef = Value.int .i64 0 := hold 62 (by kernel_rfl)
        clear hold hdep
        go_simp
        exact HK.out _ _ (Below.refl _ _) rfl
      refine And.intro ?_ ?_
      · intro a w HS hold hdep
        refine ⟨Runs.by (j := 15) (d := 391) rfl rfl rfl (hdep 391 (by kernel_rfl)), step_of rfl fun K hK => ?_⟩
        have HK := Lib.hid hK
        clear hK
        clear hold hdep
        go_simp
        exact HK.out _ _ (Below.new _ _) ⟨_, rfl, il_four _ _ _ _ _⟩
      refine And.intro ?_ ?_
      · intro a w HS hold hdep
        refine ⟨Runs.by (j := 15) (d := 391) rfl rfl rfl (hdep 391 (by kernel_rfl)), step_of rfl fun K hK => ?_⟩
        have HK := Lib.hid hK
        clear hK
        clear hold hdep
        go_simp
        exact HK.out _ _ (Below.refl _ _) rfl
      refine And.intro ?_ ?_
      · intro a w HS hold hdep
        refine ⟨Runs.by (j := 15) (d := 391) rfl rfl rfl (hdep 391 (by kernel_rfl)), step_of rfl fun K hK => ?_⟩
        have HK := Lib.hid hK
        clear hK
        have e1 : a.tmps[392]?.getD undef = Value.agg l39.toArray := hdep 392 (by kernel_rfl)
        have e2 : a.tmps[393]?.getD undef = Value.int .i64 0 := hdep 393 (by kernel_rfl)
        obtain ⟨b, e3, hI⟩ : FourV w (held a 394) := hdep 394 (by kernel_rfl)
        change a.tmps[394]?.getD undef = _ at e3
        have e4 : a.tmps[395]?.getD undef = noteQ := hdep 395 (by kernel_rfl)
        unfold noteQ at e4
        clear hold hdep
        go_simp
        refine Calls.mono (says_three l39 _ _ (HX40.out.2.below HS) hI) ?_
        rintro en wg ⟨rfl, hb7⟩
        exact HK.out _ _ hb7 rfl
      refine And.intro ?_ ?_
      · intro a w HS hold hdep
        refine ⟨Runs.plain rfl, step_of rfl fun K hK => ?_⟩
        have HK := Lib.hid hK
        clear hK
        have e1 : a.tmps[391]?.getD undef = Value.bool true := hdep 391 (by kernel_rfl)
        have e2 : a.tmps[396]?.getD undef = Value.bool true := hdep 396 (by kernel_rfl)
        clear hold hdep
        go_simp
        exact HK.out _ _ (Below.refl _ _) rfl
      refine And.intro ?_ ?_
      · intro a w HS hold hdep
        refine ⟨Runs.plain rfl, step_of rfl fun K hK => ?_⟩
        have HK := Lib.hid hK
        clear hK
        have e : a.tmps[397]?.getD undef = Value.bool true := hdep 397 (by kernel_rfl)
        clear hold hdep
        go_simp
        exact HK.out _ _ (Below.refl _ _) rfl
      refine And.intro ?_ ?_
      · intro a w HS hold hdep
        refine ⟨Runs.by (j := 22) (d := 398) rfl rfl rfl (hdep 398 (by kernel_rfl)), step_of rfl fun K hK => ?_⟩
        have HK := Lib.hid hK
        clear hK
        have e : a.tmps[65]?.getD undef = Value.bool false := hold 65 (by kernel_rfl)
        clear hold hdep
        go_simp
        exact HK.out _ _ (Below.refl _ _) rfl
      refine And.intro ?_ ?_
      · intro a w HS hold hdep
        refine ⟨Runs.by (j := 22) (d := 398) rfl rfl rfl (hdep 398 (by kernel_rfl)), step_of rfl fun K hK => ?_⟩
        have HK := Lib.hid hK
        clear hK
        have e : a.tmps[399]?.getD undef = Value.bool false := hdep 399 (by kernel_rfl)
        clear hold hdep
        go_simp
        exact HK.out _ _ (Below.refl _ _) rfl
      refine And.intro ?_ ?_
      · intro a w HS hold hdep
        refine ⟨Runs.plain rfl, step_of rfl fun K hK => ?_⟩
        have HK := Lib.hid hK
        clear hK
        have e1 : a.tmps[398]?.getD undef = Value.bool true := hdep 398 (by kernel_rfl)
        have e2 : a.tmps[400]?.getD undef = Value.bool true := hdep 400 (by kernel_rfl)
        clear hold hdep
        go_simp
        exact HK.out _ _ (Below.refl _ _) rfl
      refine And.intro ?_ ?_
      · intro a w HS hold hdep
        refine ⟨Runs.plain rfl, step_of rfl fun K hK => ?_⟩
        have HK := Lib.hid hK
        clear hK
        have e : a.tmps[401]?.getD undef = Value.bool true := hdep 401 (by kernel_rfl)
        clear hold hdep
        go_simp
        exact HK.out _ _ (Below.refl _ _) rfl
      exact trivial
    · as_aux_lemma =>
      intro a w' hsz hdf hS hold hall
      have H66 : held a 66 = .bool true := hall 26 _ 66 rfl rfl
      have H15 : held a 15 = .bool true := hold 15 (by kernel_rfl)
      have H34 : held a 34 = .bool true := hold 34 (by kernel_rfl)
      have H41 : held a 41 = .bool true := hold 41 (by kernel_rfl)
      have H46 : held a 46 = .bool true := hold 46 (by kernel_rfl)
      have H47 : held a 47 = .pointer (some ⟨x30, 0, none⟩) := hold 47 (by kernel_rfl)
      have H48 : held a 48 = .int .i64 0 := hold 48 (by kernel_rfl)
      have H52 : held a 52 = .int .i64 2 := hold 52 (by kernel_rfl)
      clear hall hold
      obtain ⟨arr, df⟩ := a
      obtain ⟨l, rfl⟩ : ∃ l : List Value, arr = l.toArray := ⟨arr.toList, by simp⟩
      replace hdf : df = [] := hdf
      have h0 : l.length = 492 := hsz
      clear hsz
      subst hdf
      obtain ⟨f, rfl⟩ := list_fn h0
      clear h0
      rw [show (List.range 492).map f = [f 0, f 1, f 2, f 3, f 4, f 5, f 6, f 7, f 8, f 9, f 10, f 11, f 12, f 13, f 14, f 15, f 16, f 17, f 18, f 19, f 20, f 21, f 22, f 23, f 24, f 25, f 26, f 27, f 28, f 29, f 30, f 31, f 32, f 33, f 34, f 35, f 36, f 37, f 38, f 39, f 40, f 41, f 42, f 43, f 44, f 45, f 46, f 47, f 48, f 49, f 50, f 51, f 52, f 53, f 54, f 55, f 56, f 57, f 58, f 59, f 60, f 61, f 62, f 63, f 64, f 65, f 66, f 67, f 68, f 69, f 70, f 71, f 72, f 73, f 74, f 75, f 76, f 77, f 78, f 79, f 80, f 81, f 82, f 83, f 84, f 85, f 86, f 87, f 88, f 89, f 90, f 91, f 92, f 93, f 94, f 95, f 96, f 97, f 98, f 99, f 100, f 101, f 102, f 103, f 104, f 105, f 106, f 107, f 108, f 109, f 110, f 111, f 112, f 113, f 114, f 115, f 116, f 117, f 118, f 119, f 120, f 121, f 122, f 123, f 124, f 125, f 126, f 127, f 128, f 129, f 130, f 131, f 132, f 133, f 134, f 135, f 136, f 137, f 138, f 139, f 140, f 141, f 142, f 143, f 144, f 145, f 146, f 147, f 148, f 149, f 150, f 151, f 152, f 153, f 154, f 155, f 156, f 157, f 158, f 159, f 160, f 161, f 162, f 163, f 164, f 165, f 166, f 167, f 168, f 169, f 170, f 171, f 172, f 173, f 174, f 175, f 176, f 177, f 178, f 179, f 180, f 181, f 182, f 183, f 184, f 185, f 186, f 187, f 188, f 189, f 190, f 191, f 192, f 193, f 194, f 195, f 196, f 197, f 198, f 199, f 200, f 201, f 202, f 203, f 204, f 205, f 206, f 207, f 208, f 209, f 210, f 211, f 212, f 213, f 214, f 215, f 216, f 217, f 218, f 219, f 220, f 221, f 222, f 223, f 224, f 225, f 226, f 227, f 228, f 229, f 230, f 231, f 232, f 233, f 234, f 235, f 236, f 237, f 238, f 239, f 240, f 241, f 242, f 243, f 244, f 245, f 246, f 247, f 248, f 249, f 250, f 251, f 252, f 253, f 254, f 255, f 256, f 257, f 258, f 259, f 260, f 261, f 262, f 263, f 264, f 265, f 266, f 267, f 268, f 269, f 270, f 271, f 272, f 273, f 274, f 275, f 276, f 277, f 278, f 279, f 280, f 281, f 282, f 283, f 284, f 285, f 286, f 287, f 288, f 289, f 290, f 291, f 292, f 293, f 294, f 295, f 296, f 297, f 298, f 299, f 300, f 301, f 302, f 303, f 304, f 305, f 306, f 307, f 308, f 309, f 310, f 311, f 312, f 313, f 314, f 315, f 316, f 317, f 318, f 319, f 320, f 321, f 322, f 323, f 324, f 325, f 326, f 327, f 328, f 329, f 330, f 331, f 332, f 333, f 334, f 335, f 336, f 337, f 338, f 339, f 340, f 341, f 342, f 343, f 344, f 345, f 346, f 347, f 348, f 349, f 350, f 351, f 352, f 353, f 354, f 355, f 356, f 357, f 358, f 359, f 360, f 361, f 362, f 363, f 364, f 365, f 366, f 367, f 368, f 369, f 370, f 371, f 372, f 373, f 374, f 375, f 376, f 377, f 378, f 379, f 380, f 381, f 382, f 383, f 384, f 385, f 386, f 387, f 388, f 389, f 390, f 391, f 392, f 393, f 394, f 395, f 396, f 397, f 398, f 399, f 400, f 401, f 402, f 403, f 404, f 405, f 406, f 407, f 408, f 409, f 410, f 411, f 412, f 413, f 414, f 415, f 416, f 417, f 418, f 419, f 420, f 421, f 422, f 423, f 424, f 425, f 426, f 427, f 428, f 429, f 430, f 431, f 432, f 433, f 434, f 435, f 436, f 437, f 438, f 439, f 440, f 441, f 442, f 443, f 444, f 445, f 446, f 447, f 448, f 449, f 450, f 451, f 452, f 453, f 454, f 455, f 456, f 457, f 458, f 459, f 460, f 461, f 462, f 463, f 464, f 465, f 466, f 467, f 468, f 469, f 470, f 471, f 472, f 473, f 474, f 475, f 476, f 477, f 478, f 479, f 480, f 481, f 482, f 483, f 484, f 485, f 486, f 487, f 488, f 489, f 490, f 491] from rfl] at H66 H15 H34 H41 H46 H47 H48 H52 ⊢
      simp only [Exit.then]
      go_wp2_with fail
      go_meet
      exact ⟨H15, H34, H41, H46, H47, H48, H52, H66, Lib.hid hS⟩
  case rest =>
    as_aux_lemma =>
      obtain ⟨rfl, rfl, rfl, rfl, rfl, rfl, rfl, rfl, HS⟩ := hcut
      have HT41 := Lib.hid (HT40.out.then HS.out (Nat.le_refl _)).low
      have HX30 := Lib.hid (HX30.out.below HS.out)
      clear HS HT40 HX40 HI40 HM40
      go_wp2_with fail
      go_loopw [67, 68] (fun v i wr => ∃ j : Nat, j ≤ 2 ∧ i = .int .i64 j ∧ Hid (NilC wr v) ∧ Hid (Below wc.heap.size wc wr)) (fun _ i _ => 2 - (RowKit.intOf i).toNat)
      case atStart => exact ⟨0, by omega, rfl, Lib.hid (.inl rfl), Lib.hid (Below.refl _ _)⟩
      case round =>
        obtain ⟨j, hj, rfl, HN, HB⟩ := hrel
        by_cases hlt : j < 2
        · go_wp2_with fail
          refine Calls.mono (read_nil _ (-1) _ HN.out) ?_
          rintro en g46 ⟨rfl, hb⟩
          obtain ⟨e1, e2, hb2, _, _⟩ := put_out (out0_v g46)
          have HN := Lib.hid (HN.out.below (Below.step hb hb2))
          have HB := Lib.hid (Below.step HB.out (Below.step hb hb2))
          clear hb hb2
          go_upto_region 47 with (fail)
          obtain ⟨w46, hw⟩ : ∃ x, x = (g46.alloc (.cells out0.toArray 90)).setCells g46.heap.size 0 out0 := ⟨_, rfl⟩
          rw [← hw] at HN HB ⊢
          clear hw e1 e2
          go_wp2_with fail
          refine Calls.mono (write_nil _ (-1) _ HN.out) ?_
          rintro en g47 ⟨rfl, hb⟩
          obtain ⟨e1, e2, hb2, _, _⟩ := put_out (out0_v g47)
          have HN := Lib.hid (HN.out.below (Below.step hb hb2))
          have HB := Lib.hid (Below.step HB.out (Below.step hb hb2))
          clear hb hb2
          go_upto_region 48 with (fail)
          obtain ⟨w47, hw⟩ : ∃ x, x = (g47.alloc (.cells out0.toArray 90)).setCells g47.heap.size 0 out0 := ⟨_, rfl⟩
          rw [← hw] at HN HB ⊢
          clear hw e1 e2
          go_wp2_with fail
          refine Calls.mono (replace_nil _ 0 0 0 _ HN.out) ?_
          rintro en g48 ⟨rfl, hb⟩
          obtain ⟨e1, e2, hb2, _, _⟩ := put_out (out0_v g48)
          have HN := Lib.hid (HN.out.below (Below.step hb hb2))
          have HB := Lib.hid (Below.step HB.out (Below.step hb hb2))
          clear hb hb2
          go_upto_region 49 with (fail)
          obtain ⟨w48, hw⟩ : ∃ x, x = (g48.alloc (.cells out0.toArray 90)).setCells g48.heap.size 0 out0 := ⟨_, rfl⟩
          rw [← hw] at HN HB ⊢
          clear hw e1 e2
          go_wp2_with fail
          refine Calls.mono (take_nil _ _ HN.out) ?_
          rintro en g49 ⟨rfl, hb⟩
          obtain ⟨e1, e2, hb2, _, _⟩ := put_out (out0_v g49)
          have HN := Lib.hid (HN.out.below (Below.step hb hb2))
          have HB := Lib.hid (Below.step HB.out (Below.step hb hb2))
          clear hb hb2
          go_upto_region 50 with (fail)
          obtain ⟨w49, hw⟩ : ∃ x, x = (g49.alloc (.cells out0.toArray 90)).setCells g49.heap.size 0 out0 := ⟨_, rfl⟩
          rw [← hw] at HN HB ⊢
          clear hw e1 e2
          go_wp2_with fail
          refine Calls.mono (fire_nil _ _ HN.out) ?_
          rintro en g50 ⟨rfl, hb⟩
          obtain ⟨e1, e2, hb2, _, _⟩ := put_out (out0_v g50)
          have HN := Lib.hid (HN.out.below (Below.step hb hb2))
          have HB := Lib.hid (Below.step HB.out (Below.step hb hb2))
          clear hb hb2
          go_upto_region 51 with (fail)
          obtain ⟨w50, hw⟩ : ∃ x, x = (g50.alloc (.cells out0.toArray 90)).setCells g50.heap.size 0 out0 := ⟨_, rfl⟩
          rw [← hw] at HN HB ⊢
          clear hw e1 e2
          go_wp2_with fail
          refine Calls.mono (map_nil _ 1 _ HN.out) ?_
          rintro en g51 ⟨rfl, hb⟩
          have hb2 : Below g51.heap.size g51 (g51.alloc (.cells #[.int .i64 0, .slice none 0 0] 24)) := Below.new _ _
          have HN := Lib.hid (HN.out.below (Below.step hb hb2))
          have HB := Lib.hid (Below.step HB.out (Below.step hb hb2))
          clear hb hb2
          go_upto_region 52 with (fail)
          obtain ⟨w51, hw⟩ : ∃ x, x = g51.alloc (.cells #[.int .i64 0, .slice none 0 0] 24) := ⟨_, rfl⟩
          rw [← hw] at HN HB ⊢
          clear hw
          go_wp2_with fail
          refine Calls.mono (busy_nil _ _ HN.out) ?_
          rintro en wz ⟨rfl, rfl⟩
          go_wp2
          go_roundw
          case rel => exact ⟨j + 1, by omega, by go_num, Lib.hid (.inr ⟨w51.heap.size, rfl, by rw [blk_cell]; rfl⟩), Lib.hid (Below.step HB.out (Below.new _ _))⟩
          case measure => simp [RowKit.intOf]; omega
        · go_wp2_with fail
          refine Calls.mono (works_is _) ?_
          rintro en w55 ⟨rfl, hb⟩
          have HB5 := Lib.hid (Below.step HB.out hb)
          obtain ⟨g1, g2⟩ := out_at HX30.out.1 HX30.out.2.len HB5.out
          have HV := Lib.hid (HX30.out.2.below HB5.out)
          clear hb
          go_wp2_with fail
          refine Calls.mono (quiet_is l30 Ou.zero _ HV.out rfl rfl rfl) ?_
          rintro en w56 ⟨rfl, hb⟩
          have HB6 := Lib.hid (Below.step HB5.out hb)
          clear hb g1 g2
          go_wp2
          go_ret
          exact ⟨rfl, HT41.out.trans (HB6.out.mono HT41.out.size)⟩
end Go.Proofs.Ytldcpnabgpjgiaa.Walks
