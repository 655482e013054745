/-
  Deeds: commits of some blocks of one byte each, or a clearing.
-/
import Derived.Test.YtdhidcoglioalaaJrnF
namespace Go.Proofs.Ytdhidcoglioalaa.Plain
open Jn
/-- The puts of a deed, as they are gathered: each block once. -/
def deedGo (B : Byte) : Nat → List Int → List (Nat × Byte) → List (Nat × Byte)
  | _, [], acc => acc
  | i, x :: l, acc => if acc.any (fun y => y.1 == (x % 12).toNat) then deedGo B (i + 1) l acc else deedGo B (i + 1) l (acc ++ [((x % 12).toNat, B + BitVec.ofNat 8 i)])
def deedL (B : Byte) (l : List Int) : List (Nat × Byte) := deedGo B 0 (l.take 12) []
structure Deeds (l : List (Nat × Byte)) (m : Nat) : Prop where
  lt : ∀ x ∈ l, x.1 < 12
  nd : (l.map (·.1)).Nodup
  len : l.length ≤ m
theorem deedGo_ok (B : Byte) : ∀ (l : List Int) (i : Nat) (acc : List (Nat × Byte)) (m : Nat), Deeds acc m → Deeds (deedGo B i l acc) (m + l.length) := by
  intro l
  induction l with
  | nil => intro i acc m h; exact h
  | cons x l ih =>
    intro i acc m h
    unfold deedGo
    split
    · have := ih (i + 1) acc m h
      exact ⟨this.lt, this.nd, by have := this.len; simp only [List.length_cons]; omega⟩
    · rename_i hn
      have hnot : ∀ y ∈ acc, y.1 ≠ (x % 12).toNat := fun y hy e => hn (List.any_eq_true.2 ⟨y, hy, by simpa using e⟩)
      have := ih (i + 1) (acc ++ [((x % 12).toNat, B + BitVec.ofNat 8 i)]) (m + 1) ⟨?_, ?_, ?_⟩
      · exact ⟨this.lt, this.nd, by have := this.len; simp only [List.length_cons]; omega⟩
      · intro y hy
        rcases List.mem_append.1 hy with hy | hy
        · exact h.lt y hy
        · simp only [List.mem_singleton] at hy
          subst hy
          have := Int.emod_nonneg x (show (12 : Int) ≠ 0 by omega)
          have := Int.emod_lt_of_pos x (show (0 : Int) < 12 by omega)
          simp only
          omega
      · rw [List.map_append, List.nodup_append]
        refine ⟨h.nd, by simp, fun a ha b hb => ?_⟩
        obtain ⟨y, hy, rfl⟩ := List.mem_map.1 ha
        simp only [List.map_cons, List.map_nil, List.mem_singleton] at hb
        rw [hb]
        exact hnot y hy
      · have := h.len
        simp only [List.length_append, List.length_singleton]
        omega
theorem deedL_ok (B : Byte) (l : List Int) : Deeds (deedL B l) (min 12 l.length) := by
  have := deedGo_ok B (l.take 12) 0 [] 0 ⟨fun x hx => by simp at hx, by simp, by simp⟩
  unfold deedL
  rw [List.length_take, Nat.zero_add] at this
  exact this
theorem deedL_len (B : Byte) (l : List Int) : (deedL B l).length ≤ l.length := Nat.le_trans (deedL_ok B l).len (Nat.min_le_right _ _)
/-- The blocks behind a deed. -/
def nextB (now : Nat → Byte) (l : List (Nat × Byte)) : Nat → Byte := l.foldl (fun f x => upd f x.1 x.2) now
def nowF (now : Nat → Byte) : Nat → Blk := fun i => if i < 12 then oneB (now i) else zeroB
def putsL (l : List (Nat × Byte)) : List (Int × List Byte) := l.map fun x => ((x.1 : Int), bytesB (oneB x.2))
def blksL (l : List (Nat × Byte)) : List (Nat × Blk) := l.map fun x => (x.1, oneB x.2)
theorem blks_puts (l : List (Nat × Byte)) : blks (putsL l) = blksL l := by
  unfold blks putsL blksL
  rw [List.map_map]
  refine List.map_congr_left fun x _ => ?_
  simp only [Function.comp, Int.toNat_natCast]
  rw [blk_bytes (flat_one _)]
theorem nowAll_deed : ∀ (l : List (Nat × Byte)) (now : Nat → Byte), (∀ x ∈ l, x.1 < 12) → nowAll (nowF now) (blksL l) = nowF (nextB now l) := by
  intro l
  induction l using snoc_ind with
  | nil => intro now _; funext i; simp [nowAll, blksL, putAll, nextB]
  | append_singleton l x ih =>
    intro now hl
    have hx := hl x (by simp)
    have hr := ih now fun y hy => hl y (by simp [hy])
    funext i
    have e1 : nextB now (l ++ [x]) = upd (nextB now l) x.1 x.2 := by simp [nextB]
    have e2 : putAll (fun _ => none) (blksL (l ++ [x])) = upd (putAll (fun _ => none) (blksL l)) x.1 (some (oneB x.2)) := by simp [putAll, blksL]
    have hr' := congrFun hr i
    unfold nowAll at hr' ⊢
    rw [e1, e2]
    by_cases e : i = x.1
    · rw [e, upd_same]
      unfold nowF
      simp only [if_pos hx, upd_same]; rfl
    · rw [upd_other _ _ e, hr']
      unfold nowF
      rw [upd_other _ _ e]
theorem putsE_zero {blocks : Nat} : ∀ (l : List (Nat × Byte)) (seen : List Int), (∀ x ∈ l, x.1 < blocks) → (l.map (·.1)).Nodup → (∀ x ∈ l, (x.1 : Int) ∉ seen) → putsE blocks seen (putsL l) = 0 := by
  intro l
  induction l with
  | nil => intro seen _ _ _; rfl
  | cons x l ih =>
    intro seen h1 h2 h3
    have hx := h1 x (by simp)
    show putsE blocks seen (((x.1 : Int), bytesB (oneB x.2)) :: putsL l) = 0
    unfold putsE
    rw [if_neg (by simp only; omega), if_neg (by rw [bytesB_length]; simp only [ne_eq, not_true_eq_false, false_or]; exact h3 x (by simp))]
    rw [List.map_cons, List.nodup_cons] at h2
    refine ih _ (fun y hy => h1 y (by simp [hy])) h2.2 (fun y hy hm => ?_)
    rcases List.mem_append.1 hm with hm | hm
    · exact h3 y (by simp [hy]) hm
    · simp only [List.mem_singleton] at hm
      exact h2.1 (List.mem_map.2 ⟨y, hy, by omega⟩)
section
variable {n : Nat} {S : Nat → Sec} {J : Jn} {P : Pl} {now : Nat → Blk}
theorem blocks_inv (h : Inv n S J now) (hn : P.n = n) : J.blocks P.n = n - 2 - J.log := by unfold Jn.blocks; rw [h.live, hn]; simp
theorem badE_zero (h : Inv n S J now) (hn : P.n = n) {l : List (Nat × Byte)} {m : Nat} (hl : Deeds l m) (h12 : 12 ≤ n - 2 - J.log) (hm : l.length + 1 ≤ J.log) : badE P J (putsL l) = 0 := by
  have hb := blocks_inv h hn
  unfold badE
  rw [h.live, hb, putsE_zero l [] (fun x hx => Nat.lt_of_lt_of_le (hl.lt x hx) h12) hl.nd (fun _ _ h => by cases h)]
  simp only [Bool.false_eq_true, if_false, ne_eq, not_true_eq_false]
  rw [if_neg (by simp only [putsL, List.length_map]; omega)]
/-- A deed: a commit of right puts. -/
theorem Inv.commit (h : Inv n S J now) (hP : Live P S (fun _ => none)) (hn : P.n = n) (h0 : Can P 0) (ht : J.turn + 1 < 1099511627776) (hh : J.head + 1 < 1099511627776) {l : List (Nat × Byte)} {m : Nat} (hl : Deeds l m) (h12 : 12 ≤ n - 2 - J.log) (hm : l.length + 1 ≤ J.log) :
    (commitE P J (putsL l) = 0 ∧ (∃ S', Inv n S' (commitJ P J (putsL l)) (nowAll now (blksL l)) ∧ Live (commitP P J (putsL l)) S' (fun _ => none)) ∧ (commitP P J (putsL l)).n = n ∧ (commitP P J (putsL l)).fails = P.fails ∧ (commitJ P J (putsL l)).log = J.log ∧
      (commitJ P J (putsL l)).turn ≤ J.turn + 1 ∧ (commitJ P J (putsL l)).head ≤ J.head + 1) ∨
    (commitE P J (putsL l) = 50 ∧ P.fails = true ∧ ∃ S' J', (Inv n S' J' now ∨ Inv n S' J' (nowAll now (blksL l))) ∧ J'.log = J.log ∧ J'.turn ≤ J.turn + 1 ∧ J'.head ≤ J.head + 1 ∧ Down (commitP P J (putsL l)) S' n) := by
  have hbad := badE_zero h hn hl h12 hm
  unfold commitE commitP commitJ Jn.nothing
  rw [hbad, blks_puts]
  by_cases hl0 : l = []
  · subst hl0
    refine .inl ?_
    simp only [putsL, List.map_nil, List.length_nil, decide_true, Bool.or_true, if_true]
    exact ⟨trivial, ⟨S, h, hP⟩, hn, trivial, trivial, Nat.le_succ _, Nat.le_succ _⟩
  · have hlen : ¬ (putsL l).length = 0 := by simp [putsL, hl0]
    simp only [hlen, ne_eq, not_true_eq_false, decide_false, Bool.or_self, Bool.false_eq_true, if_false]
    have hb0 : blksL l ≠ [] := by simp [blksL, hl0]
    have hbl : (blksL l).length = l.length := by simp [blksL]
    have hbm : ∀ x ∈ blksL l, x.1 < n - 2 - J.log ∧ Flat x.2 := fun x hx => by
      obtain ⟨y, hy, rfl⟩ := List.mem_map.1 hx
      exact ⟨Nat.lt_of_lt_of_le (hl.lt y hy) h12, flat_one _⟩
    obtain ⟨p1, p2⟩ := h.put hP hn h0 ht hh hb0 hbm (by rw [hbl]; exact hm)
    by_cases hc : Can P (putM J n (blksL l).length)
    · obtain ⟨e1, e2, S', f1, f2, f3⟩ := p1 hc
      refine .inl ⟨e1, ⟨S', by rw [e2]; exact f1, f2⟩, f3.n.trans hn, f3.fails, ?_, ?_, ?_⟩ <;> rw [e2] <;> unfold putJ' <;> split <;> first | rfl | exact Nat.le_refl _ | exact Nat.le_succ _
    · obtain ⟨e1, e2, S', J', f1, f2, f3, f4, f5⟩ := p2 hc
      exact .inr ⟨e1, Classical.byContradiction fun hf => hc (can_any (by simpa using hf) _), S', J', f1, f2, f3, f4, f5⟩
end
end Go.Proofs.Ytdhidcoglioalaa.Plain
