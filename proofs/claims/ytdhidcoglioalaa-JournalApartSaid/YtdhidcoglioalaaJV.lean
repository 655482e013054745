/-
  A deed is done.
-/
import Derived.Test.YtdhidcoglioalaaJU
namespace Go.Proofs.Ytdhidcoglioalaa.Walks
open Go.RowKit Plain Jn
set_option linter.unusedVariables false
attribute [local go_sem ↓] exec_load67 exec_store67 exec_alloc67 exec_alloc103 exec_load67T exec_store67T Go.wp_at_zero Go.wp_at_succ
attribute [local go_sem] isPt_mk adOf_mk cellsV_mk twL_length setCells_drew oneN_tw roomN_new isRow_new cellL_new alloc_setN roomN_past isRow_past cellL_past roomN_drew isRow_drew cellL_drew setCells_size setCells_past
theorem only_base {R : List Nat} {a b c : World} (h : Only R a b) (k : Below a.heap.size b c) : Only R a c :=
  ⟨k.os.trans h.os, k.tape.trans h.tape, k.output.trans h.output, Nat.le_trans h.size k.size, fun i hi hn => (k.block i hi).trans (h.block i hi hn)⟩
theorem boL_set (f : Nat → Bool) {m : Nat} (hm : m < 12) : (boL f).toArray.setIfInBounds m (.bool true) = (boL fun i => f i || i == m).toArray := by
  apply Array.ext_getElem?
  intro i
  have hg : ∀ g : Nat → Bool, (boL g).toArray[i]? = if i < 12 then some (.bool (g i)) else none := fun g => by
    by_cases hi : i < 12
    · rw [if_pos hi, List.getElem?_toArray, boL_get g hi]
    · rw [if_neg hi]
      exact Array.getElem?_eq_none (by rw [List.size_toArray, boL_length]; omega)
  rw [Array.getElem?_setIfInBounds, hg, hg, List.size_toArray, boL_length]
  by_cases e : m = i
  · subst e
    rw [if_pos rfl, if_pos hm, if_pos hm]; simp
  · rw [if_neg e]
    have : (i == m) = false := by simp; exact fun h => e h.symm
    simp [this]
theorem twL_set (f : Nat → Byte) {m : Nat} (hm : m < 12) (b : Byte) : (twL f).toArray.setIfInBounds m (.int .u8 (b.toNat : Int)) = (twL (upd f m b)).toArray := by
  apply Array.ext_getElem?
  intro i
  have hg : ∀ g : Nat → Byte, (twL g).toArray[i]? = if i < 12 then some (byteV (g i)) else none := fun g => by
    by_cases hi : i < 12
    · rw [if_pos hi, List.getElem?_toArray, twL_get g hi]
    · rw [if_neg hi]
      exact Array.getElem?_eq_none (by rw [List.size_toArray, twL_length]; omega)
  rw [Array.getElem?_setIfInBounds, hg, hg, List.size_toArray, twL_length]
  by_cases e : m = i
  · subst e
    rw [if_pos rfl, if_pos hm, if_pos hm, upd_same]; rfl
  · rw [if_neg e, upd_other _ _ (fun h => e h.symm)]
theorem deedGo_step {B : Byte} : ∀ (l : List Int) (i : Nat) (acc : List (Nat × Byte)) (x : Int), deedGo B i (l ++ [x]) acc = if (deedGo B i l acc).any (fun y => y.1 == (x % 12).toNat) then deedGo B i l acc else deedGo B i l acc ++ [((x % 12).toNat, B + BitVec.ofNat 8 (i + l.length))] := by
  intro l
  induction l with
  | nil => intro i acc x; rfl
  | cons y l ih =>
    intro i acc x
    rw [List.cons_append]
    unfold deedGo
    split
    · rw [ih, List.length_cons, show i + 1 + l.length = i + (l.length + 1) by omega]
    · rw [ih, List.length_cons, show i + 1 + l.length = i + (l.length + 1) by omega]
theorem add_byte (B : Byte) {k : Nat} (hk : k ≤ 12) : IntKind.u8.wrap ((B.toNat : Int) + (k : Int)) = ((B + BitVec.ofNat 8 k).toNat : Int) := by
  rw [IntKind.wrap_u8', BitVec.toNat_add, BitVec.toNat_ofNat]
  have := B.isLt
  omega
theorem res35 {W : World} {x : Nat → Byte} {z : Int} {g : Nat} {tmps : Array Value} (h2 : tmps.getD 6 undef = .pointer (some ⟨g, 0, none⟩)) (h3 : tmps.getD 7 undef = .int .i64 z) (h : RowAt W ⟨g, 0, none⟩ (twL x)) :
    (results Try.f35 tmps).run Try.prog W = .ok (.tuple #[twV x, .int .i64 z]) W := by
  have hr : (loadVar 67 ⟨g, 0, none⟩).run Try.prog W = .ok (twV x) W := run_loadVar_mid W g 0 67 (twL x) _ h.2 Try.underlying67 rfl (by rw [twL_length]; exact z67)
  rw [Array.getD_eq_getD_getElem?] at h2 h3
  simp [results, Try.results35, asAddr, h2, h3, hr, Result.andThen]
section
variable {w w' : World} {j : JLoc} {q : PLoc} {J J' : Jn} {P P' : Pl}
theorem JP.banned (h : JP w j q J P) (hb : Below w.heap.size w w') {X : List Nat} (hX : ∀ x ∈ X, w.heap.size ≤ x ∧ x < w'.heap.size) : JP w' j (q.banX X) J P :=
  ⟨h.pl.reban hb hX, (h.jn.below hb).ban X, h.ok, List.mem_append_right _ h.bp, List.mem_append_right _ h.bm, h.np, h.nm⟩
theorem JP.unban {X : List Nat} (h : JP w j (q.banX X) J P) (h1 : j.p ∈ q.ban) (h2 : j.m ∈ q.ban) : JP w j q J P :=
  ⟨h.pl.unban, ⟨h.jn.c0, h.jn.c1, h.jn.c2, h.jn.c3, h.jn.c4, h.jn.c5, h.jn.c6, h.jn.c7, h.jn.fz, h.jn.mp⟩, h.ok, h1, h2, h.np, h.nm⟩
theorem JP.other {X R : List Nat} (h : JP w j (q.banX X) J P) (ho : Only R w w') (hR : ∀ b ∈ R, b ∈ X ∧ b ∉ j.R q) : JP w' j (q.banX X) J P :=
  ⟨h.pl.only ho (fun b hb hm => (hR b hm).2 (JLoc.inQ hb)) (fun a hd hB => Only.bools ho (fun h0 ad e hm => (hd h0 ad e).2 (List.mem_append_left _ (hR _ hm).1)) hB), h.jn.only ho (fun hm => (hR _ hm).2 JLoc.inP) (fun hm => (hR _ hm).2 JLoc.inM), h.ok, h.bp, h.bm, h.np, h.nm⟩
set_option maxRecDepth 10000 in
set_option maxHeartbeats 2000000 in
theorem does_clear (h : JP w j q J P) (hh : J.head < 4611686018427387904) (now : Nat → Byte) (ba : Option Addr) (bn bc : Nat) (B : Byte) (fail : Int) (ka : Option Addr) (kn kc : Nat) :
    Calls Try.prog 35 #[jv j, twV now, .agg #[.slice ba bn bc, .int .u8 (B.toNat : Int), .bool true, .int .i64 fail, .slice ka kn kc]] w fun e w' => e = .returned (.tuple #[twV now, .int .i64 (clearE P J)]) ∧ JP w' j q (clearJ P J) (clearP P J) ∧ Only (j.R q) w w' := by
  obtain ⟨w3, hw3⟩ : ∃ x, x = ((w.alloc (.cells (twL now).toArray 67)).alloc (.cells #[.slice ba bn bc, .int .u8 (B.toNat : Int), .bool true, .int .i64 fail, .slice ka kn kc] 69)).alloc (.cells (twL tw0).toArray 67) := ⟨_, rfl⟩
  have hb3 : Below w.heap.size w w3 := by rw [hw3]; exact Below.step (Below.step (Below.new _ _) (Below.new _ _)) (Below.new _ _)
  have e4 : w3.heap[w.heap.size]? = some (.cells (twL now).toArray 67 (0, 0)) := by rw [hw3]; exact (heap_alloc_lt (by simp; omega)).trans ((heap_alloc_lt (by simp)).trans (heap_alloc_new _ _))
  have e5 : w3.cell? ⟨w.heap.size + 1, 2, none⟩ = some (.bool true) := by
    rw [hw3]
    refine (cell_past (by simp) 2).trans ?_
    have := cell_new (w.alloc (.cells (twL now).toArray 67)) #[.slice ba bn bc, .int .u8 (B.toNat : Int), .bool true, .int .i64 fail, .slice ka kn kc] 69 2
    rw [World.size_alloc] at this
    exact this
  have e6 : RoomN 12 w3 ⟨w.heap.size + 1 + 1, 0, none⟩ := by
    rw [hw3]
    exact roomN_new _ 67 _ (by simp) (twL_length _)
  have hlt6 : w.heap.size + 1 + 1 < w3.heap.size := by rw [hw3]; simp
  have hX : ∀ x ∈ [w.heap.size + 1 + 1], w.heap.size ≤ x ∧ x < w3.heap.size := fun x hx => by simp only [List.mem_singleton] at hx; subst hx; exact ⟨by omega, hlt6⟩
  have hJ3 := h.banned hb3 hX
  have HIn := Lib.hid (show j.p ∈ q.ban ∧ j.m ∈ q.ban from ⟨h.bp, h.bm⟩)
  have HNin : Hid (∀ b, w.heap.size ≤ b → b ∉ j.R q) := Lib.hid fun b hb hm => Nat.not_lt_of_le hb (h.lt b hm)
  have HB3 := Lib.hid hb3
  have room : ∀ w', Only (j.R q) w3 w' → RoomN 12 w' ⟨w.heap.size + 1 + 1, 0, none⟩ := fun w' ho => ⟨rfl, fun i hi => by
    obtain ⟨h1, h2⟩ := e6.2 i hi
    have hblk := ho.block _ hlt6 (HNin.out _ (by omega))
    exact ⟨by rw [World.cell?_of_block (a := ⟨w.heap.size + 1 + 1, 0 + i, none⟩) hblk]; exact h1, by rw [show w'.frozen? ⟨w.heap.size + 1 + 1, 0 + i, none⟩ = w3.frozen? ⟨w.heap.size + 1 + 1, 0 + i, none⟩ by unfold World.frozen?; simp only [hblk]]; exact h2⟩⟩
  have MK : Hid (∀ w', Only (j.R q) w3 w' → IsRow 12 w' ⟨w.heap.size, 0, none⟩ ∧ cellL 12 w' ⟨w.heap.size, 0, none⟩ = twL now ∧ RoomN 12 w' ⟨w.heap.size + 1 + 1, 0, none⟩) := Lib.hid fun w' ho => by
    have hr := row_of (hkeepO ho (HNin.out _ (Nat.le_refl _)) e4)
    exact ⟨hr.is (twL_length _), hr.cells (twL_length _), room w' ho⟩
  have MK2 : Hid (∀ w', Only (j.R q) w3 w' → IsRow 12 (w'.setCells (w.heap.size + 1 + 1) 0 (twL now)) ⟨w.heap.size, 0, none⟩ ∧ cellL 12 (w'.setCells (w.heap.size + 1 + 1) 0 (twL now)) ⟨w.heap.size, 0, none⟩ = twL now ∧ RoomN 12 (w'.setCells (w.heap.size + 1 + 1) 0 (twL now)) ⟨w.heap.size + 1 + 1, 0, none⟩) := Lib.hid fun w' ho => by
    have hr := (row_of (hkeepO ho (HNin.out _ (Nat.le_refl _)) e4)).only (Only.setCells (R := [w.heap.size + 1 + 1]) (b := w.heap.size + 1 + 1) (by simp) (twL now) 0 (Only.refl _ w')) (by simp; omega)
    exact ⟨hr.is (twL_length _), hr.cells (twL_length _), ⟨rfl, World.there_setCells (room w' ho).2 _ _ _⟩⟩
  have HRoom := Lib.hid room
  have HCl := Lib.hid (clear_any hJ3.drew hh)
  have hS : Only (j.R q) w3 w3 := Only.refl _ _
  obtain ⟨S0, S1, S2⟩ := MK.out w3 hS
  have HLt6 := Lib.hid hlt6
  clear h hb3 e4 e6 room hlt6 hJ3 hX
  go_enter Try.func35, Try.ntmps35
  go_upto_region 1 with (fail)
  rw [← hw3]
  clear hw3
  go_upto_region 2 with (fail)
  obtain ⟨T, hT⟩ : ∃ T : TypeId, T = 67 := ⟨_, rfl⟩
  rw [show Op.load 67 (Operand.tmp 4) = Op.load T (Operand.tmp 4) by rw [hT], show Op.store 67 (Operand.tmp 6) (Operand.tmp 16) = Op.store T (Operand.tmp 6) (Operand.tmp 16) by rw [hT]]
  have HT := Lib.hid hT
  clear hT
  go_region_held3 (fun w' => IsRow 12 w' ⟨w.heap.size, 0, none⟩ ∧ cellL 12 w' ⟨w.heap.size, 0, none⟩ = twL now ∧ RoomN 12 w' ⟨w.heap.size + 1 + 1, 0, none⟩)
    (first | with_reducible exact MK.out _ hS | with_reducible exact MK.out _ hS.drew | with_reducible exact MK2.out _ hS | with_reducible exact MK2.out _ hS.drew)
    ((first | (go_at_call 40; ((with_reducible refine Calls.mono HCl.out ?_); rintro e w4 ⟨rfl, hj, ho⟩; have HJ4 := Lib.hid hj; have hS : Only (j.R q) w3 w4 := hS.drew.trans (ho.mono fun r hr => hr); clear hj ho))))
  all_goals
    go_wp2_with fail
    refine bodyPost_ret (res35 (x := now) (z := clearE P J) rfl rfl ?_) rfl ⟨rfl, ?_, ?_⟩
    · exact ⟨rfl, World.rangeAt_setCells_same _ _ _ _ (by rw [twL_length]; exact (HRoom.out _ hS).2)⟩
    · have hset : Only [w.heap.size + 1 + 1] w4 (w4.setCells (w.heap.size + 1 + 1) 0 (twL now)) := Only.setCells (b := w.heap.size + 1 + 1) (by simp) (twL now) 0 (Only.refl _ _)
      exact (HJ4.out.other hset (fun b hb => by simp only [List.mem_singleton] at hb; subst hb; exact ⟨by simp, HNin.out _ (by omega)⟩)).unban HIn.out.1 HIn.out.2
    · have hset : Only [w.heap.size + 1 + 1] w4 (w4.setCells (w.heap.size + 1 + 1) 0 (twL now)) := Only.setCells (b := w.heap.size + 1 + 1) (by simp) (twL now) 0 (Only.refl _ _)
      exact only_fresh ((Only.of_below HB3.out).trans hS) (hset.mono fun r hr => List.mem_append_left _ hr) (fun x hx => by simp only [List.mem_singleton] at hx; omega)
/-- What a deed's loop keeps. -/
structure DoR (w4 wr : World) (g9 : Nat) (v : Value) (l : List Int) (B : Byte) (k : Nat) (acc : List (Nat × Byte)) : Prop where
  ac : deedGo B 0 (l.take k) [] = acc
  own : OwnP wr w4.heap.size v acc
  seen : wr.heap[g9]? = some (.cells (boL fun i => acc.any (fun y => y.1 == i)).toArray 103 (0, 0))
  only : Only [g9] w4 wr
theorem any_snoc (acc : List (Nat × Byte)) (m : Nat) (b : Byte) : (fun i => (acc ++ [(m, b)]).any (fun y => y.1 == i)) = fun i => acc.any (fun y => y.1 == i) || i == m := by
  funext i
  rw [List.any_append]
  simp only [List.any_cons, List.any_nil, Bool.or_false]
  congr 1
  rw [Bool.eq_iff_iff]
  simp only [beq_iff_eq]
  exact eq_comm
theorem deed_acc (B : Byte) (l : List Int) (k : Nat) (hk : k ≤ 12) : Deeds (deedGo B 0 (l.take k) []) 12 := by
  have := deedGo_ok B (l.take k) 0 [] 0 ⟨(fun x hx => by cases hx), by simp, by simp⟩
  exact ⟨this.lt, this.nd, by have := this.len; rw [List.length_take] at this; omega⟩
theorem nextB_take (now : Nat → Byte) (l : List (Nat × Byte)) {k : Nat} (h : k < l.length) : nextB now (l.take (k + 1)) = upd (nextB now (l.take k)) l[k].1 l[k].2 := by
  unfold nextB
  rw [List.take_succ_eq_append_getElem h, List.foldl_append]
  rfl
set_option maxRecDepth 10000 in
set_option maxHeartbeats 4000000 in
theorem does_commit (h : JP w j q J P) (hh : J.head < 4611686018427387904) (ht : J.turn < 4611686018427387904) (now : Nat → Byte) (ba : Option Addr) (bn bc : Nat) (l : List Int) (hn : l.length = bn) (hI : Ints w ba l) (B : Byte) (fail : Int) (ka : Option Addr) (kn kc : Nat) :
    Calls Try.prog 35 #[jv j, twV now, .agg #[.slice ba bn bc, .int .u8 (B.toNat : Int), .bool false, .int .i64 fail, .slice ka kn kc]] w fun e w' => e = .returned (.tuple #[twV (nextB now (deedL B l)), .int .i64 (commitE P J (putsL (deedL B l)))]) ∧ JP w' j q (commitJ P J (putsL (deedL B l))) (commitP P J (putsL (deedL B l))) ∧ Only (j.R q) w w' := by
  obtain ⟨w3, hw3⟩ : ∃ x, x = ((w.alloc (.cells (twL now).toArray 67)).alloc (.cells #[.slice ba bn bc, .int .u8 (B.toNat : Int), .bool false, .int .i64 fail, .slice ka kn kc] 69)).alloc (.cells (twL tw0).toArray 67) := ⟨_, rfl⟩
  obtain ⟨w4, hw4⟩ : ∃ x, x = w3.alloc (.cells (boL fun _ => false).toArray 103) := ⟨_, rfl⟩
  have hb3 : Below w.heap.size w w3 := by rw [hw3]; exact Below.step (Below.step (Below.new _ _) (Below.new _ _)) (Below.new _ _)
  have hb34 : Below w3.heap.size w3 w4 := by rw [hw4]; exact Below.new _ _
  have hb4 := Below.step hb3 hb34
  have e4 : w3.heap[w.heap.size]? = some (.cells (twL now).toArray 67 (0, 0)) := by rw [hw3]; exact (heap_alloc_lt (by simp; omega)).trans ((heap_alloc_lt (by simp)).trans (heap_alloc_new _ _))
  have e5 : w3.heap[w.heap.size + 1]? = some (.cells #[.slice ba bn bc, .int .u8 (B.toNat : Int), .bool false, .int .i64 fail, .slice ka kn kc] 69 (0, 0)) := by
    rw [hw3]
    refine (heap_alloc_lt (by simp)).trans ?_
    have := heap_alloc_new (w.alloc (.cells (twL now).toArray 67)) (.cells #[.slice ba bn bc, .int .u8 (B.toNat : Int), .bool false, .int .i64 fail, .slice ka kn kc] 69)
    rw [World.size_alloc] at this
    exact this
  have e6 : w3.heap[w.heap.size + 1 + 1]? = some (.cells (twL tw0).toArray 67 (0, 0)) := by
    rw [hw3]
    have := heap_alloc_new ((w.alloc (.cells (twL now).toArray 67)).alloc (.cells #[.slice ba bn bc, .int .u8 (B.toNat : Int), .bool false, .int .i64 fail, .slice ka kn kc] 69)) (.cells (twL tw0).toArray 67)
    rw [World.size_alloc, World.size_alloc] at this
    exact this
  have hsz3 : w3.heap.size = w.heap.size + 3 := by rw [hw3]; simp
  have hsz4 : w4.heap.size = w.heap.size + 4 := by rw [hw4]; simp [hsz3]
  obtain ⟨g9, hg9⟩ : ∃ g, g = w3.heap.size := ⟨_, rfl⟩
  have e9 : w4.heap[g9]? = some (.cells (boL fun _ => false).toArray 103 (0, 0)) := by rw [hw4, hg9]; exact heap_alloc_new _ _
  have E4 := Lib.hid (hkeep hb34 e4)
  have E5 := Lib.hid (hkeep hb34 e5)
  have E6 := Lib.hid (hkeep hb34 e6)
  have E9 := Lib.hid e9
  have c5 : w3.cell? ⟨w.heap.size + 1, 2, none⟩ = some (.bool false) := by rw [cell_of_row _ _ _ _ _ _ e5]; rfl
  have HB4 := Lib.hid hb4
  have HSz := Lib.hid hsz4
  have HG9 : Hid (g9 = w.heap.size + 3) := Lib.hid (hg9.trans hsz3)
  have H := Lib.hid h
  have HI := Lib.hid hI
  have HN := Lib.hid hn
  have HHd := Lib.hid hh
  have HTn := Lib.hid ht
  have hbn : bn ≤ 9223372036854775807 := by rw [← hn]; exact hI.1
  clear h hI hn hh ht hb3 hb34 hb4 e4 e5 e6 e9 hsz3 hsz4
  go_enter Try.func35, Try.ntmps35
  go_upto_region 1 with (fail)
  rw [← hw3]
  clear hw3
  go_upto_region 5 with (fail)
  rw [← hw4, ← hg9]
  clear hw4 hg9 c5
  go_wp2_with fail
  go_loopw [8, 10] (fun v i wr => ∃ (k : Nat) (acc : List (Nat × Byte)) (a' : Option Addr) (n' c' : Nat), k ≤ 12 ∧ k ≤ bn ∧ i = .int .i64 k ∧ v = .slice a' n' c' ∧ n' = acc.length ∧ Hid (DoR w4 wr g9 v l B k acc)) (fun _ i _ => 12 - (RowKit.intOf i).toNat)
  case atStart => exact ⟨0, [], none, 0, 0, by omega, Nat.zero_le _, rfl, rfl, rfl, Lib.hid ⟨rfl, OwnP.nil _ _, E9.out, Only.refl _ _⟩⟩
  case round =>
    obtain ⟨k, acc, a', n', c', hk12, hkn, rfl, rfl, rfl, HD⟩ := hrel
    have hb : Below w.heap.size w wr := HD.out.only.below HB4.out (fun r hr => by simp only [List.mem_singleton] at hr; subst hr; have := HG9.out; omega) (Nat.le_refl _)
    have HB := Lib.hid hb
    have hne : ∀ b, b < w.heap.size + 3 → b ∉ [g9] := fun b hb hm => by simp only [List.mem_singleton] at hm; have := HG9.out; omega
    have F4 := Lib.hid (hkeepO HD.out.only (hne _ (by omega)) E4.out)
    have F5 := hkeepO HD.out.only (hne _ (by omega)) E5.out
    have F6 := Lib.hid (hkeepO HD.out.only (hne _ (by omega)) E6.out)
    have d0 : wr.cell? ⟨w.heap.size + 1, 0, none⟩ = some (.slice ba bn bc) := by rw [cell_of_row _ _ _ _ _ _ F5]; rfl
    have d1 : wr.cell? ⟨w.heap.size + 1, 1, none⟩ = some (.int .u8 (B.toNat : Int)) := by rw [cell_of_row _ _ _ _ _ _ F5]; rfl
    clear hb hne F5
    by_cases hgo : k < bn ∧ k < 12
    · obtain ⟨hlt, hlt12⟩ := hgo
      have hkl : k < l.length := by have := HN.out; omega
      obtain ⟨pb, off, rfl, _, hc⟩ := (HI.out.below HB.out).at_lt hkl
      have hcell := hc k hkl
      obtain ⟨x, hx⟩ : ∃ x, x = l[k] := ⟨_, rfl⟩
      rw [← hx] at hcell
      obtain ⟨m, hm⟩ : ∃ m : Nat, x % 12 = (m : Int) := ⟨(x % 12).toNat, by omega⟩
      have hm12 : m < 12 := by omega
      have HBr : Hid (∀ w', Calls Try.prog 20 #[.int .i64 x, .int .i64 12] w' fun e w'' => e = .returned (.int .i64 (m : Int)) ∧ w' = w'') := Lib.hid fun w' => by
        have := bring_any x 12 w' (by omega) (by omega)
        rw [hm] at this
        exact this
      have hstep : deedGo B 0 (l.take (k + 1)) [] = if acc.any (fun y => y.1 == m) then acc else acc ++ [(m, B + BitVec.ofNat 8 k)] := by
        rw [List.take_succ_eq_append_getElem hkl, deedGo_step, HD.out.ac, ← hx, hm, List.length_take, Nat.min_eq_left (Nat.le_of_lt hkl)]
        simp
      have HSt := Lib.hid hstep
      have hseen : wr.cell? ⟨g9, m, none⟩ = some (.bool (acc.any fun y => y.1 == m)) := by rw [cell_of_row _ _ _ _ _ _ HD.out.seen, List.getElem?_toArray, boL_get _ hm12]
      have hfz : wr.frozen? ⟨g9, m, none⟩ = false := by unfold World.frozen?; rw [HD.out.seen]; rfl
      have HM12 := Lib.hid hm12
      clear hc hx hm hkl hstep
      cases hs : acc.any fun y => y.1 == m
      · rw [hs] at hseen HSt
        obtain ⟨b, hbb⟩ : ∃ b, b = B + BitVec.ofNat 8 k := ⟨_, rfl⟩
        have hadd : IntKind.u8.wrap ((B.toNat : Int) + (k : Int)) = (b.toNat : Int) := by rw [hbb]; exact add_byte B hk12
        have hcv : IntKind.u8.wrap (k : Int) = (k : Int) := by rw [IntKind.wrap_u8']; omega
        rw [← hbb] at HSt
        have HAcc := Lib.hid (deed_acc B l (k + 1) (by omega))
        clear hbb hs
        go_wp2_with fail
        refine Calls.mono (HBr.out _) ?_
        rintro e w' ⟨rfl, rfl⟩
        go_upto_region 11 with (fail)
        obtain ⟨w5, hw5⟩ : ∃ y, y = wr.setCell ⟨g9, m, none⟩ (.bool true) := ⟨_, rfl⟩
        have ho5 : Only [g9] wr w5 := by rw [hw5]; exact (Only.refl _ _).setCell (by simp) _
        have hs5 : w5.heap[g9]? = some (.cells (boL fun i => acc.any (fun y => y.1 == i) || i == m).toArray 103 (0, 0)) := by
          rw [hw5, ← boL_set _ HM12.out]
          exact heap_setCell_same wr g9 m _ 103 _ HD.out.seen
        have hown5 : OwnP w5 w4.heap.size (.slice a' acc.length c') acc := HD.out.own.only ho5 (fun b hb => by simp only [List.mem_singleton] at hb; have := HG9.out; have := HSz.out; omega)
        rw [← hw5]
        have d15 : w5.cell? ⟨w.heap.size + 1, 1, none⟩ = some (.int .u8 (B.toNat : Int)) := ho5.cell (by simp; have := HG9.out; omega) d1
        have HO5 := Lib.hid ho5
        have HS5 := Lib.hid hs5
        have HOw5 := Lib.hid hown5
        have HDa : Hid (∀ w', Calls Try.prog 64 #[.int .u8 (b.toNat : Int)] w' fun e w'' => e = .returned (.slice (some ⟨w'.heap.size, 0, none⟩) 48 48) ∧ w'' = w'.alloc (.cells (blkL (oneB b)).toArray 5)) := Lib.hid fun w' => data_any b w'
        clear hw5 ho5 hs5 hown5 d0 d1 hcell hseen hfz F4 F6
        go_wp2_with fail
        refine Calls.mono (HDa.out _) ?_
        rintro e w6 ⟨rfl, rfl⟩
        have hw4s : w4.heap.size ≤ w5.heap.size := Nat.le_trans HD.out.only.size HO5.out.size
        go_wp2_with (first | (at_builtin; go_loud (refine wp_append_put rfl (.tmp 42) (.tmp 51) rfl w4.heap.size (.slice a' acc.length c') acc rfl ((HOw5.out.below (Below.new _ _)).below (Below.new _ _)) (w5.heap.size + 1) 1 (m, b) w5.heap.size rfl (by have := heap_alloc_new (w5.alloc (.cells (blkL (oneB b)).toArray 5)) (.cells #[.int .i64 (m : Int), .slice (some ⟨w5.heap.size, 0, none⟩) 48 48] 100); rw [World.size_alloc] at this; exact this) hw4s ((heap_alloc_lt (by simp)).trans (heap_alloc_new _ _)) (by simp; omega) (by have := HAcc.out.len; rw [HSt.out] at this; simp at this; omega) ?_)))
        intro a6 c6 w6 hown6 hb6 hkb6
        have HOw6 := Lib.hid hown6
        have HBe6 := Lib.hid hb6
        have HKb6 := Lib.hid hkb6
        clear hown6 hb6 hkb6
        go_wp2
        go_roundw
        case rel =>
          refine ⟨k + 1, acc ++ [(m, b)], a6, acc.length + 1, c6, by omega, by omega, by go_num, rfl, by simp, Lib.hid ⟨HSt.out, HOw6.out, ?_, ?_⟩⟩
          · rw [any_snoc]
            have hlt9 := lt_of_heap HS5.out
            have h1 : ((w5.alloc (.cells (blkL (oneB b)).toArray 5)).alloc (.cells #[.int .i64 (m : Int), .slice (some ⟨w5.heap.size, 0, none⟩) 48 48] 100)).heap[g9]? = some (.cells (boL fun i => acc.any (fun y => y.1 == i) || i == m).toArray 103 (0, 0)) := (heap_alloc_lt (by simp; omega)).trans ((heap_alloc_lt hlt9).trans HS5.out)
            exact (HKb6.out g9 _ 103 (by decide) h1).trans h1
          · exact only_base (((HD.out.only.trans HO5.out).trans (Only.of_below (Below.new _ _))).trans (Only.of_below (Below.new _ _))) HBe6.out
        case measure => simp [RowKit.intOf]; omega
      · rw [hs] at hseen HSt
        clear hs
        go_wp2_with fail
        refine Calls.mono (HBr.out _) ?_
        rintro e w' ⟨rfl, rfl⟩
        go_wp2
        go_roundw
        case rel => exact ⟨k + 1, acc, a', acc.length, c', by omega, by omega, by go_num, rfl, rfl, Lib.hid ⟨HSt.out, HD.out.own, HD.out.seen, HD.out.only⟩⟩
        case measure => simp [RowKit.intOf]; omega
    · have hacc : acc = deedL B l := by
        rw [← HD.out.ac]
        unfold deedL
        congr 1
        have := HN.out
        rcases Nat.lt_or_ge k 12 with h12 | h12
        · rw [List.take_of_length_le (by omega), List.take_of_length_le (by omega)]
        · rw [show k = 12 by omega]
      have HAcc := Lib.hid (deed_acc B l k hk12)
      rw [HD.out.ac] at HAcc
      have HAe := Lib.hid hacc
      have hX : ∀ x ∈ [w.heap.size, w.heap.size + 1 + 1], w.heap.size ≤ x ∧ x < wr.heap.size := fun x hx => by
        have h1 := HD.out.only.size
        have h2 := HSz.out
        simp only [List.mem_cons, List.not_mem_nil, or_false] at hx
        rcases hx with rfl | rfl <;> omega
      have hjb := H.out.banned HB.out hX
      have HNin : Hid (∀ b, w.heap.size ≤ b → b ∉ j.R q) := Lib.hid fun b hb hm => Nat.not_lt_of_le hb (H.out.lt b hm)
      have hRb : ∀ b ∈ j.R q, b < w4.heap.size := fun b hm => Nat.lt_of_lt_of_le (H.out.lt b hm) HB4.out.size
      have hpl : (putsL acc).length = acc.length := by unfold putsL; rw [List.length_map]
      have HCm := Lib.hid (commit_any hjb HHd.out HTn.out a' (putsL acc) acc.length c' hpl (HD.out.own.puts (R := j.R (q.banX [w.heap.size, w.heap.size + 1 + 1])) hRb (by have := HAcc.out.len; omega) (fun x hx => by have := HAcc.out.lt x hx; omega)))
      have HRb := Lib.hid hRb
      have HOw := Lib.hid HD.out.own
      have hgq : (k = bn ∨ (k < bn ∧ k = 12)) := by omega
      clear hacc hX hjb hRb hpl hgo d1
      rcases hgq with rfl | ⟨hkb, rfl⟩
      · clear hk12 hkn
        go_wp2_with fail
        refine Calls.mono HCm.out ?_
        rintro e w5 ⟨rfl, hj5, ho5⟩
        have ho5' : Only (j.R q) wr w5 := ho5
        have HJ5 := Lib.hid hj5
        have HO5 := Lib.hid ho5'
        have G4 : Hid (w5.heap[w.heap.size]? = some (.cells (twL now).toArray 67 (0, 0))) := Lib.hid (hkeepO ho5' (HNin.out _ (Nat.le_refl _)) F4.out)
        have G6 : Hid (w5.heap[w.heap.size + 1 + 1]? = some (.cells (twL tw0).toArray 67 (0, 0))) := Lib.hid (hkeepO ho5' (HNin.out _ (by omega)) F6.out)
        have HOw5 := Lib.hid (HOw.out.only ho5' HRb.out)
        have HAl := Lib.hid HAcc.out.len
        clear hj5 ho5 ho5' d0
        go_wp2_with fail
        go_loopw [13] (fun i wr2 => ∃ k2 : Nat, k2 ≤ acc.length ∧ i = .int .i64 k2 ∧ Hid (wr2.heap[w.heap.size]? = some (.cells (twL (nextB now (acc.take k2))).toArray 67 (0, 0))) ∧ Hid (Only [w.heap.size] w5 wr2)) (fun i _ => acc.length - (RowKit.intOf i).toNat)
        case atStart => exact ⟨0, Nat.zero_le _, rfl, G4, Lib.hid (Only.refl _ _)⟩
        case round =>
          obtain ⟨k2, hk2, rfl, HT4, HO2⟩ := hrel
          have hacc13 : acc.length ≤ 12 := HAl.out
          by_cases hlt : k2 < acc.length
          · have hown := HOw5.out.only HO2.out (fun b hb => by simp only [List.mem_singleton] at hb; have := HSz.out; omega)
            obtain ⟨_, e0 | ⟨g, gs, rfl, hgb, h0, hc, hd⟩⟩ := hown.form
            · rw [e0] at hlt; simp at hlt
            · obtain ⟨y, hy⟩ : ∃ y, y = acc[k2] := ⟨_, rfl⟩
              have ey : acc[k2]? = some y := by rw [hy]; exact List.getElem?_eq_getElem hlt
              obtain ⟨gd, hgd⟩ : ∃ gd, gs[k2]? = some gd := ⟨_, List.getElem?_eq_getElem (by omega)⟩
              obtain ⟨f1, f2⟩ := flatP_get acc gs k2 y gd ey hgd
              obtain ⟨_, g2⟩ := hd k2 gd y hgd ey
              have z0 := hc _ _ f1
              have z1 := hc _ _ f2
              have z2 : wr.cell? ⟨gd, 0, none⟩ = some (.int .u8 (y.2.toNat : Int)) := by rw [cell_of_row _ _ _ _ _ _ g2]; rfl
              have hm12 : y.1 < 12 := HAcc.out.lt y (by rw [hy]; exact List.getElem_mem _)
              have hnx : nextB now (acc.take (k2 + 1)) = upd (nextB now (acc.take k2)) y.1 y.2 := by rw [nextB_take now acc hlt, hy]
              have z4 : wr.cell? ⟨w.heap.size, y.1, none⟩ = some (byteV (nextB now (acc.take k2) y.1)) := by rw [cell_of_row _ _ _ _ _ _ HT4.out, List.getElem?_toArray, twL_get _ hm12]
              have z5 : wr.frozen? ⟨w.heap.size, y.1, none⟩ = false := by unfold World.frozen?; rw [HT4.out]; rfl
              have HNx := Lib.hid hnx
              have HM12 := Lib.hid hm12
              clear hown hgb h0 hc hd hy ey hgd f1 f2 g2 hnx
              go_wp2_with fail
              go_region
              go_wp2
              go_roundw
              case rel =>
                refine ⟨k2 + 1, by omega, by go_num, Lib.hid ?_, Lib.hid ?_⟩
                · rw [HNx.out, ← twL_set _ HM12.out]
                  exact heap_setCell_same _ _ _ _ 67 _ (show wr.drew.heap[w.heap.size]? = _ from HT4.out)
                · exact HO2.out.drew.setCell (by simp) _
              case measure => simp [RowKit.intOf]; omega
          · obtain rfl : k2 = acc.length := by omega
            rw [List.take_length] at HT4
            have hr4 := row_of HT4.out
            have hi4 := hr4.is (twL_length _)
            have hcl4 := hr4.cells (twL_length _)
            have hG6 : wr.heap[w.heap.size + 1 + 1]? = some (.cells (twL tw0).toArray 67 (0, 0)) := hkeepO HO2.out (by simp only [List.mem_singleton]; omega) G6.out
            have hr6 : RoomN 12 wr ⟨w.heap.size + 1 + 1, 0, none⟩ := ⟨rfl, fun i hi => ⟨by rw [cell_of_row _ _ _ _ _ _ hG6, List.getElem?_toArray, show (⟨w.heap.size + 1 + 1, 0, none⟩ : Addr).off + i = i by show 0 + i = i; omega, twL_get _ hi]; rfl, by unfold World.frozen?; simp only [hG6]; rfl⟩⟩
            have HR6 := Lib.hid hr6
            go_wp2_with fail
            have hset : Only [w.heap.size + 1 + 1] wr (wr.setCells (w.heap.size + 1 + 1) 0 (twL (nextB now acc))) := Only.setCells (b := w.heap.size + 1 + 1) (by simp) (twL (nextB now acc)) 0 (Only.refl _ _)
            refine bodyPost_ret (res35 (x := nextB now acc) (z := commitE P J (putsL acc)) rfl rfl ⟨rfl, World.rangeAt_setCells_same _ _ _ _ (by rw [twL_length]; exact HR6.out.2)⟩) rfl ?_
            rw [← HAe.out]
            refine ⟨rfl, ((HJ5.out.other HO2.out (fun b hb => by simp only [List.mem_singleton] at hb; subst hb; exact ⟨by simp, HNin.out _ (Nat.le_refl _)⟩)).other hset (fun b hb => by simp only [List.mem_singleton] at hb; subst hb; exact ⟨by simp, HNin.out _ (by omega)⟩)).unban H.out.bp H.out.bm, ?_⟩
            have h1 := (Only.of_below (R := j.R q) HB.out).trans HO5.out
            have h2 : Only (j.R q) w wr := only_fresh h1 (HO2.out.mono fun r hr => List.mem_append_left _ hr) (fun x hx => by simp only [List.mem_singleton] at hx; omega)
            exact only_fresh h2 (hset.mono fun r hr => List.mem_append_left _ hr) (fun x hx => by simp only [List.mem_singleton] at hx; omega)
      · clear hk12 hkn
        go_wp2_with fail
        refine Calls.mono HCm.out ?_
        rintro e w5 ⟨rfl, hj5, ho5⟩
        have ho5' : Only (j.R q) wr w5 := ho5
        have HJ5 := Lib.hid hj5
        have HO5 := Lib.hid ho5'
        have G4 : Hid (w5.heap[w.heap.size]? = some (.cells (twL now).toArray 67 (0, 0))) := Lib.hid (hkeepO ho5' (HNin.out _ (Nat.le_refl _)) F4.out)
        have G6 : Hid (w5.heap[w.heap.size + 1 + 1]? = some (.cells (twL tw0).toArray 67 (0, 0))) := Lib.hid (hkeepO ho5' (HNin.out _ (by omega)) F6.out)
        have HOw5 := Lib.hid (HOw.out.only ho5' HRb.out)
        have HAl := Lib.hid HAcc.out.len
        clear hj5 ho5 ho5' d0
        go_wp2_with fail
        go_loopw [13] (fun i wr2 => ∃ k2 : Nat, k2 ≤ acc.length ∧ i = .int .i64 k2 ∧ Hid (wr2.heap[w.heap.size]? = some (.cells (twL (nextB now (acc.take k2))).toArray 67 (0, 0))) ∧ Hid (Only [w.heap.size] w5 wr2)) (fun i _ => acc.length - (RowKit.intOf i).toNat)
        case atStart => exact ⟨0, Nat.zero_le _, rfl, G4, Lib.hid (Only.refl _ _)⟩
        case round =>
          obtain ⟨k2, hk2, rfl, HT4, HO2⟩ := hrel
          have hacc13 : acc.length ≤ 12 := HAl.out
          by_cases hlt : k2 < acc.length
          · have hown := HOw5.out.only HO2.out (fun b hb => by simp only [List.mem_singleton] at hb; have := HSz.out; omega)
            obtain ⟨_, e0 | ⟨g, gs, rfl, hgb, h0, hc, hd⟩⟩ := hown.form
            · rw [e0] at hlt; simp at hlt
            · obtain ⟨y, hy⟩ : ∃ y, y = acc[k2] := ⟨_, rfl⟩
              have ey : acc[k2]? = some y := by rw [hy]; exact List.getElem?_eq_getElem hlt
              obtain ⟨gd, hgd⟩ : ∃ gd, gs[k2]? = some gd := ⟨_, List.getElem?_eq_getElem (by omega)⟩
              obtain ⟨f1, f2⟩ := flatP_get acc gs k2 y gd ey hgd
              obtain ⟨_, g2⟩ := hd k2 gd y hgd ey
              have z0 := hc _ _ f1
              have z1 := hc _ _ f2
              have z2 : wr.cell? ⟨gd, 0, none⟩ = some (.int .u8 (y.2.toNat : Int)) := by rw [cell_of_row _ _ _ _ _ _ g2]; rfl
              have hm12 : y.1 < 12 := HAcc.out.lt y (by rw [hy]; exact List.getElem_mem _)
              have hnx : nextB now (acc.take (k2 + 1)) = upd (nextB now (acc.take k2)) y.1 y.2 := by rw [nextB_take now acc hlt, hy]
              have z4 : wr.cell? ⟨w.heap.size, y.1, none⟩ = some (byteV (nextB now (acc.take k2) y.1)) := by rw [cell_of_row _ _ _ _ _ _ HT4.out, List.getElem?_toArray, twL_get _ hm12]
              have z5 : wr.frozen? ⟨w.heap.size, y.1, none⟩ = false := by unfold World.frozen?; rw [HT4.out]; rfl
              have HNx := Lib.hid hnx
              have HM12 := Lib.hid hm12
              clear hown hgb h0 hc hd hy ey hgd f1 f2 g2 hnx
              go_wp2_with fail
              go_region
              go_wp2
              go_roundw
              case rel =>
                refine ⟨k2 + 1, by omega, by go_num, Lib.hid ?_, Lib.hid ?_⟩
                · rw [HNx.out, ← twL_set _ HM12.out]
                  exact heap_setCell_same _ _ _ _ 67 _ (show wr.drew.heap[w.heap.size]? = _ from HT4.out)
                · exact HO2.out.drew.setCell (by simp) _
              case measure => simp [RowKit.intOf]; omega
          · obtain rfl : k2 = acc.length := by omega
            rw [List.take_length] at HT4
            have hr4 := row_of HT4.out
            have hi4 := hr4.is (twL_length _)
            have hcl4 := hr4.cells (twL_length _)
            have hG6 : wr.heap[w.heap.size + 1 + 1]? = some (.cells (twL tw0).toArray 67 (0, 0)) := hkeepO HO2.out (by simp only [List.mem_singleton]; omega) G6.out
            have hr6 : RoomN 12 wr ⟨w.heap.size + 1 + 1, 0, none⟩ := ⟨rfl, fun i hi => ⟨by rw [cell_of_row _ _ _ _ _ _ hG6, List.getElem?_toArray, show (⟨w.heap.size + 1 + 1, 0, none⟩ : Addr).off + i = i by show 0 + i = i; omega, twL_get _ hi]; rfl, by unfold World.frozen?; simp only [hG6]; rfl⟩⟩
            have HR6 := Lib.hid hr6
            go_wp2_with fail
            have hset : Only [w.heap.size + 1 + 1] wr (wr.setCells (w.heap.size + 1 + 1) 0 (twL (nextB now acc))) := Only.setCells (b := w.heap.size + 1 + 1) (by simp) (twL (nextB now acc)) 0 (Only.refl _ _)
            refine bodyPost_ret (res35 (x := nextB now acc) (z := commitE P J (putsL acc)) rfl rfl ⟨rfl, World.rangeAt_setCells_same _ _ _ _ (by rw [twL_length]; exact HR6.out.2)⟩) rfl ?_
            rw [← HAe.out]
            refine ⟨rfl, ((HJ5.out.other HO2.out (fun b hb => by simp only [List.mem_singleton] at hb; subst hb; exact ⟨by simp, HNin.out _ (Nat.le_refl _)⟩)).other hset (fun b hb => by simp only [List.mem_singleton] at hb; subst hb; exact ⟨by simp, HNin.out _ (by omega)⟩)).unban H.out.bp H.out.bm, ?_⟩
            have h1 := (Only.of_below (R := j.R q) HB.out).trans HO5.out
            have h2 : Only (j.R q) w wr := only_fresh h1 (HO2.out.mono fun r hr => List.mem_append_left _ hr) (fun x hx => by simp only [List.mem_singleton] at hx; omega)
            exact only_fresh h2 (hset.mono fun r hr => List.mem_append_left _ hr) (fun x hx => by simp only [List.mem_singleton] at hx; omega)
end
end Go.Proofs.Ytdhidcoglioalaa.Walks
