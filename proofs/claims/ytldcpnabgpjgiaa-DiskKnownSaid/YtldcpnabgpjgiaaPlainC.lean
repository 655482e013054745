/-
  Plain mathematics of crews, third part: what the outright laws say. No program in sight.
-/
import Derived.Test.YtldcpnabgpjgiaaPlainB
namespace Go.Proofs.Ytldcpnabgpjgiaa.Plain

/-! ### Ranks, as the calls answer -/
def rankOk (_f : Int) (l r : List Int) (many : Int) : Bool := decide (r.length = l.length) && decide (1 ≤ many) && decide (many ≤ r.length)
def rankE (f : Int) (l r : List Int) (many : Int) : Int := if goodC f l then (if rankOk f l r many then 0 else 2) else 110
def rankV (f : Int) (l r : List Int) (many : Int) : Int := if goodC f l && rankOk f l r many then rankC r many.toNat else 0

/-! ### Numbers brought -/
def bringI (i n : Int) : Int := if n ≤ 0 then 0 else i % n
theorem bringI_nonneg (i n : Int) : 0 ≤ bringI i n := by
  unfold bringI; split
  · omega
  · exact Int.emod_nonneg _ (by omega)
theorem bringI_lt (i : Int) {n : Int} (h : 0 < n) : bringI i n < n := by
  unfold bringI; rw [if_neg (by omega)]
  exact Int.emod_lt_of_pos _ h

/-! ### A crew out of any numbers -/
def sumTo (a : List Int) : Nat → Int
  | 0 => 0
  | k + 1 => sumTo a k + 1 + bringI (a.getD (k + 1) 0) 4
def someTo (a : List Int) (k : Nat) : List Int := (List.range k).map fun i => sumTo a (i + 1)
def someF (a : List Int) : Int := bringI (a.getD 0 0) 3
def someN (a : List Int) : Nat := (3 * someF a + 1).toNat
def someL (a : List Int) : List Int := someTo a (someN a)
theorem sumTo_bd (a : List Int) (k : Nat) : (k : Int) ≤ sumTo a k ∧ sumTo a k ≤ 4 * k := by
  induction k with
  | zero => simp [sumTo]
  | succ k ih =>
    have h1 := bringI_nonneg (a.getD (k + 1) 0) 4
    have h2 := bringI_lt (a.getD (k + 1) 0) (n := 4) (by omega)
    simp only [sumTo]
    omega
theorem sumTo_lt (a : List Int) {i j : Nat} (h : i < j) : sumTo a i < sumTo a j := by
  induction j with
  | zero => omega
  | succ j ih =>
    have h1 := bringI_nonneg (a.getD (j + 1) 0) 4
    simp only [sumTo]
    by_cases e : i = j
    · subst e; omega
    · have := ih (by omega); omega
theorem someTo_succ (a : List Int) (k : Nat) : someTo a (k + 1) = someTo a k ++ [sumTo a (k + 1)] := by
  simp [someTo, List.range_succ]
theorem someTo_len (a : List Int) (k : Nat) : (someTo a k).length = k := by simp [someTo]
theorem someF_bd (a : List Int) : 0 ≤ someF a ∧ someF a ≤ 2 := by
  have h1 := bringI_nonneg (a.getD 0 0) 3
  have h2 := bringI_lt (a.getD 0 0) (n := 3) (by omega)
  unfold someF; omega
theorem someN_is (a : List Int) : (someN a : Int) = 3 * someF a + 1 := by
  have := someF_bd a; unfold someN; omega
theorem some_good (a : List Int) : goodC (someF a) (someL a) = true := by
  have hf := someF_bd a
  have hn := someN_is a
  refine goodC_iff.2 ⟨hf, ?_, ?_, ?_⟩
  · rw [someL, someTo_len, hn]
  · unfold someL someTo
    rw [List.pairwise_map]
    exact List.pairwise_lt_range.imp (by intro i j h; exact sumTo_lt a (by omega))
  · intro n hm
    simp only [someL, someTo, List.mem_map, List.mem_range] at hm
    obtain ⟨i, hi, rfl⟩ := hm
    have := sumTo_bd a (i + 1)
    omega

/-! ### Some of a list, by their places -/
def pick (p : Nat → Bool) : List Int → List Int
  | [] => []
  | x :: l => if p 0 then x :: pick (fun i => p (i + 1)) l else pick (fun i => p (i + 1)) l
theorem pick_append (p : Nat → Bool) (l m : List Int) : pick p (l ++ m) = pick p l ++ pick (fun i => p (i + l.length)) m := by
  induction l generalizing p with
  | nil => simp [pick]
  | cons x l ih =>
    have e : (fun i => p (i + 1 + l.length)) = fun i => p (i + (l.length + 1)) := by
      funext i; congr 1; omega
    have e2 : (fun i => p (i + l.length + 1)) = fun i => p (i + (l.length + 1)) := by
      funext i; congr 1
    simp only [List.cons_append, pick, ih, List.length_cons]
    rw [e2]
    split <;> simp
theorem pick_take_succ (p : Nat → Bool) {l : List Int} {k : Nat} (h : k < l.length) : pick p (l.take (k + 1)) = pick p (l.take k) ++ (if p k then [l[k]] else []) := by
  rw [List.take_succ_eq_append_getElem h, pick_append]
  simp [pick, Nat.min_eq_left (Nat.le_of_lt h)]
theorem pick_sub (p : Nat → Bool) (l : List Int) : (pick p l).Sublist l := by
  induction l generalizing p with
  | nil => exact List.Sublist.refl _
  | cons x l ih =>
    simp only [pick]
    split
    · exact (ih _).cons_cons _
    · exact (ih _).cons _
theorem pick_len (p : Nat → Bool) (l : List Int) : (pick p l).length ≤ l.length := (pick_sub p l).length_le
theorem pick_mem {p : Nat → Bool} {l : List Int} {x : Int} (h : x ∈ pick p l) : x ∈ l := (pick_sub p l).subset h
theorem pick_nodup {p : Nat → Bool} {l : List Int} (h : l.Nodup) : (pick p l).Nodup := h.sublist (pick_sub p l)
theorem pick_both (p q : Nat → Bool) (l : List Int) : (pick p l).length + (pick q l).length ≤ l.length + (pick (fun i => p i && q i) l).length := by
  induction l generalizing p q with
  | nil => simp [pick]
  | cons x l ih =>
    have := ih (fun i => p (i + 1)) (fun i => q (i + 1))
    simp only [pick]
    cases hp : p 0 <;> cases hq : q 0 <;> simp <;> omega

/-! ### Counts -/
theorem mem_cnt {l m : List Int} {x : Int} : x ∈ l.filter (fun n => decide (n ∈ m)) ↔ x ∈ l ∧ x ∈ m := by simp
theorem cnt_of_sub {l m : List Int} (hl : l.Nodup) (hm : m.Nodup) (hs : ∀ x ∈ m, x ∈ l) : cnt l m = m.length := by
  unfold cnt
  refine Nat.le_antisymm ?_ ?_
  · exact perm_of_nodup_subset_len (hl.sublist List.filter_sublist) (fun x hx => (mem_cnt.1 hx).2)
  · exact perm_of_nodup_subset_len hm (fun x hx => mem_cnt.2 ⟨hs x hx, hx⟩)
theorem votes_of_sub {f : Int} {l m : List Int} (hg : goodC f l = true) (hm : m.Nodup) (hs : ∀ x ∈ m, x ∈ l) : votesC f l m = m.length := by
  simp [votesC, hg, cnt_of_sub (lt_nodup (good_sorted hg)) hm hs]
theorem cnt_meet {a b c : List Int} (ha : a.Nodup) (hb : b.Nodup) (hac : ∀ x ∈ a, x ∈ c) (hbc : ∀ x ∈ b, x ∈ c) : a.length + b.length ≤ c.length + cnt a b := by
  have h1 : (a.filter fun n => decide (n ∈ b)).length + (a.filter fun n => !decide (n ∈ b)).length = a.length := by
    have := List.length_eq_countP_add_countP (fun n => decide (n ∈ b)) (l := a)
    rw [List.countP_eq_length_filter, List.countP_eq_length_filter] at this
    rw [this]
    congr 2
    apply List.filter_congr
    intro x _; simp
  have h2 : ((a.filter fun n => !decide (n ∈ b)) ++ b).length ≤ c.length := by
    refine perm_of_nodup_subset_len ?_ ?_
    · rw [List.nodup_append]
      refine ⟨ha.sublist List.filter_sublist, hb, ?_⟩
      intro x hx y hy e
      subst e
      simp at hx
      exact hx.2 hy
    · intro x hx
      rcases List.mem_append.1 hx with h | h
      · exact hac x (List.mem_filter.1 h).1
      · exact hbc x h
  rw [List.length_append] at h2
  unfold cnt
  omega

/-! ### CrewMeet -/
theorem meet_law {f : Int} {l : List Int} (hg : goodC f l = true) (p q : Nat → Bool) (h1 : 2 * f + 1 ≤ ((pick p l).length : Int)) (h2 : 2 * f + 1 ≤ ((pick q l).length : Int)) : f + 1 ≤ ((pick (fun i => p i && q i) l).length : Int) := by
  have := pick_both p q l
  have := (goodC_len hg).2.2
  omega
theorem votes_pick {f : Int} {l : List Int} (hg : goodC f l = true) (p : Nat → Bool) : votesC f l (pick p l) = (pick p l).length :=
  votes_of_sub hg (pick_nodup (lt_nodup (good_sorted hg))) (fun _ h => pick_mem h)

/-! ### CrewNext -/
def pairs (x y : List Int) : Nat := (x.map fun a => y.count a).sum
theorem pairs_snoc (x y : List Int) (a : Int) : pairs (x ++ [a]) y = pairs x y + y.count a := by simp [pairs]
theorem pairs_ge (x y : List Int) : cnt x y ≤ pairs x y := by
  induction x with
  | nil => simp [cnt, pairs]
  | cons a x ih =>
    have e : pairs (a :: x) y = y.count a + pairs x y := by simp [pairs]
    rw [e]
    unfold cnt at ih ⊢
    by_cases h : a ∈ y
    · have := List.count_pos_iff.2 h
      simp [h]; omega
    · simp [h]; omega
theorem repL_mem {f : Int} {l : List Int} {old next n : Int} (h : mayC f l old next = true) : n ∈ repL f l old next ↔ (n ∈ l ∧ n ≠ old) ∨ n = next := by
  rw [repL, if_pos h, (sortI_perm _).mem_iff, List.mem_append, mem_dels]
  simp
theorem repL_good {f : Int} {l : List Int} {old next : Int} (h : mayC f l old next = true) : goodC f (repL f l old next) = true := by
  rw [repL, if_pos h]; exact rep_good h
theorem mayC_good {f : Int} {l : List Int} {old next : Int} (h : mayC f l old next = true) : goodC f l = true ∧ (1 ≤ next ∧ next ≤ 28) ∧ old ∈ l ∧ next ∉ l := by
  simp only [mayC, Bool.and_eq_true, decide_eq_true_eq, Bool.not_eq_true', decide_eq_false_iff_not] at h
  exact ⟨h.1.1.1, h.1.1.2, h.1.2, h.2⟩
theorem next_law {f : Int} {l : List Int} {old next : Int} (h : mayC f l old next = true) (p q : Nat → Bool) (h1 : 2 * f + 1 ≤ ((pick p l).length : Int)) (h2 : 2 * f + 1 ≤ ((pick q (repL f l old next)).length : Int)) :
    f ≤ (pairs (pick p l) (pick q (repL f l old next)) : Int) := by
  obtain ⟨hg, hn, ho, hx⟩ := mayC_good h
  have hd := repL_good h
  have hm := cnt_meet (a := pick p l) (b := pick q (repL f l old next)) (c := next :: l) (pick_nodup (lt_nodup (good_sorted hg))) (pick_nodup (lt_nodup (good_sorted hd)))
    (fun x hx => List.mem_cons_of_mem _ (pick_mem hx)) (fun x hx => by
      rcases (repL_mem h).1 (pick_mem hx) with h | h
      · exact List.mem_cons_of_mem _ h.1
      · subst h; exact List.mem_cons_self)
  have hp := pairs_ge (pick p l) (pick q (repL f l old next))
  have hl := (goodC_len hg).2.2
  simp only [List.length_cons] at hm
  omega
/-- What is answered to a replacement of one of a crew by a node. -/
theorem repE_node {f : Int} {l : List Int} {old next : Int} (hg : goodC f l = true) (ho : old ∈ l) (h1 : 1 ≤ next) (h2 : next ≤ 28) :
    (next ∈ l ∧ repE f l old next = 110) ∨ (mayC f l old next = true ∧ repE f l old next = 0 ∧ repF f l old next = f) := by
  by_cases hx : next ∈ l
  · left; exact ⟨hx, by simp [repE, hg, h1, h2, hx]⟩
  · right
    have hm : mayC f l old next = true := by simp [mayC, hg, h1, h2, ho, hx]
    exact ⟨hm, by simp [repE, hg, h1, h2, ho, hx], by simp [repF, hm]⟩

/-! ### CrewThere -/
theorem there_law {f : Int} {l : List Int} {old next : Int} (h : mayC f l old next = true) :
    hasC f (repL f l old next) next = true ∧ hasC f (repL f l old next) old = false ∧ votesC f (repL f l old next) l = (l.length : Int) - 1 ∧ mayC f (repL f l old next) next old = true ∧ repL f (repL f l old next) next old = l := by
  obtain ⟨hg, hn, ho, hx⟩ := mayC_good h
  have hd := repL_good h
  have hne : old ≠ next := fun e => hx (e ▸ ho)
  have hod : old ∉ repL f l old next := by
    rw [repL_mem h]; simp [hne]
  have hnd : next ∈ repL f l old next := by rw [repL_mem h]; simp
  have hob := good_mem hg old ho
  have hm : mayC f (repL f l old next) next old = true := by simp [mayC, hd, hob.1, hob.2, hnd, hod]
  have hdn := lt_nodup (good_sorted hd)
  have hln := lt_nodup (good_sorted hg)
  refine ⟨by simp [hasC, hd, hnd], by simp [hasC, hod], ?_, hm, ?_⟩
  · have e : votesC f (repL f l old next) l = (dels old l).length := by
      simp only [votesC, hd, if_true]
      congr 1
      unfold cnt
      refine Nat.le_antisymm ?_ ?_
      · refine perm_of_nodup_subset_len (hdn.sublist List.filter_sublist) (fun x hx' => ?_)
        obtain ⟨h1, h2⟩ := mem_cnt.1 hx'
        refine mem_dels.2 ⟨h2, fun e => ?_⟩
        subst e; exact hod h1
      · refine perm_of_nodup_subset_len (dels_nodup hln) (fun x hx' => ?_)
        obtain ⟨h1, h2⟩ := mem_dels.1 hx'
        exact mem_cnt.2 ⟨(repL_mem h).2 (.inl ⟨h1, h2⟩), h1⟩
    have := dels_length_mem hln ho
    rw [e]; omega
  · rw [repL, if_pos hm]
    refine sorted_perm_eq (sortI_sorted _) (lt_le (good_sorted hg)) ((sortI_perm _).trans ?_)
    refine (perm_of_nodup_subset hln (fun x hx' => ?_) ?_).symm
    · rw [List.mem_append, mem_dels, repL_mem h]
      by_cases e : x = old
      · right; simp [e]
      · left
        refine ⟨.inl ⟨hx', e⟩, fun e2 => ?_⟩
        subst e2; exact hx hx'
    · have h1 := dels_length_mem hdn hnd
      have h2 := (goodC_len hd).2.2
      have h3 := (goodC_len hg).2.2
      simp only [List.length_append, List.length_singleton]
      omega

/-! ### CrewMade -/
theorem made_law {f : Int} {l : List Int} (hg : goodC f l = true) (n : Nat) : makeF f (l.drop n ++ l.take n) = f ∧ makeL f (l.drop n ++ l.take n) = l ∧ makeE f (l.drop n ++ l.take n) = 0 := by
  have hp : (l.drop n ++ l.take n).Perm l := by
    refine List.perm_append_comm.trans ?_
    rw [List.take_append_drop]
  have e : sortI (l.drop n ++ l.take n) = l := sorted_perm_eq (sortI_sorted _) (lt_le (good_sorted hg)) ((sortI_perm _).trans hp)
  have hg' : goodC f (sortI (l.drop n ++ l.take n)) = true := by rw [e]; exact hg
  exact ⟨by simp [makeF, hg'], by rw [makeL, if_pos hg', e], by simp [makeE, hg']⟩
theorem made_long {f : Int} {l m : List Int} (hg : goodC f l = true) (h : m.length = l.length + 1) : makeE f m = 2 := by
  have hb : goodC f (sortI m) = false := by
    rw [Bool.eq_false_iff]
    intro h'
    have h1 := (goodC_len h').2.2
    have h2 := (goodC_len hg).2.2
    rw [sortI_len] at h1
    omega
  simp [makeE, hb]

/-! ### CrewTurns -/
def seenTo (f : Int) (l : List Int) (v : Int) (k : Nat) : List Int := (List.range k).map fun i : Nat => leadC f l (v + (i : Int))
theorem seenTo_len (f : Int) (l : List Int) (v : Int) (k : Nat) : (seenTo f l v k).length = k := by simp [seenTo]
theorem seenTo_succ (f : Int) (l : List Int) (v : Int) (k : Nat) : seenTo f l v (k + 1) = seenTo f l v k ++ [leadC f l (v + k)] := by simp [seenTo, List.range_succ]
theorem lead_mem {f : Int} {l : List Int} (hg : goodC f l = true) {v : Int} (hv : 0 ≤ v) : ∃ h : (v % l.length).toNat < l.length, leadC f l v = l[(v % l.length).toNat] := by
  have hl := goodC_len hg
  have h0 : 0 ≤ v % (l.length : Int) := Int.emod_nonneg _ (by omega)
  have h1 : v % (l.length : Int) < l.length := Int.emod_lt_of_pos _ (by omega)
  have h2 : (v % l.length).toNat < l.length := by omega
  exact ⟨h2, by simp [leadC, hg, hv, h2]⟩
theorem lead_has {f : Int} {l : List Int} (hg : goodC f l = true) {v : Int} (hv : 0 ≤ v) : hasC f l (leadC f l v) = true := by
  obtain ⟨h, e⟩ := lead_mem hg hv
  simp [hasC, hg, e]
theorem lead_inj {f : Int} {l : List Int} (hg : goodC f l = true) {v : Int} (hv : 0 ≤ v) {i j : Nat} (hi : i < j) (hj : j < l.length) : leadC f l (v + i) ≠ leadC f l (v + j) := by
  obtain ⟨h1, e1⟩ := lead_mem hg (v := v + i) (by omega)
  obtain ⟨h2, e2⟩ := lead_mem hg (v := v + j) (by omega)
  rw [e1, e2]
  have hs := good_sorted hg
  have hne : ((v + i) % l.length).toNat ≠ ((v + j) % l.length).toNat := by
    intro e
    have a1 : 0 ≤ (v + i) % (l.length : Int) := Int.emod_nonneg _ (by omega)
    have a2 : 0 ≤ (v + j) % (l.length : Int) := Int.emod_nonneg _ (by omega)
    have e' : (v + i) % (l.length : Int) = (v + j) % (l.length : Int) := by omega
    have hd : (l.length : Int) ∣ ((v + j) - (v + i)) := Int.dvd_of_emod_eq_zero (Int.emod_eq_emod_iff_emod_sub_eq_zero.1 e'.symm)
    obtain ⟨c, hc⟩ := hd
    have hc' : ((j : Int) - i) = l.length * c := by omega
    have : 0 < c := by
      rcases Int.lt_or_le 0 c with h | h
      · exact h
      · have : (l.length : Int) * c ≤ 0 := Int.mul_nonpos_of_nonneg_of_nonpos (by omega) h
        omega
    have : (l.length : Int) * 1 ≤ l.length * c := Int.mul_le_mul_of_nonneg_left (by omega) (by omega)
    omega
  rcases Nat.lt_or_gt_of_ne hne with h | h
  · have := sorted_get hs h1 h2 h; omega
  · have := sorted_get hs h2 h1 h; omega
theorem seen_nodup {f : Int} {l : List Int} (hg : goodC f l = true) {v : Int} (hv : 0 ≤ v) {k : Nat} (hk : k ≤ l.length) : (seenTo f l v k).Nodup := by
  unfold seenTo
  rw [List.nodup_iff_pairwise_ne, List.pairwise_map]
  rw [List.pairwise_iff_getElem]
  intro i j hi hj hij
  simp only [List.getElem_range, List.length_range] at hi hj ⊢
  exact lead_inj hg hv hij (by omega)
theorem seen_votes {f : Int} {l : List Int} (hg : goodC f l = true) {v : Int} (hv : 0 ≤ v) {k : Nat} (hk : k ≤ l.length) : votesC f l (seenTo f l v k) = k := by
  rw [votes_of_sub hg (seen_nodup hg hv hk), seenTo_len]
  intro x hx
  simp only [seenTo, List.mem_map, List.mem_range] at hx
  obtain ⟨i, _, rfl⟩ := hx
  obtain ⟨h, e⟩ := lead_mem hg (v := v + i) (by omega)
  rw [e]; exact List.getElem_mem _
theorem lead_round {f : Int} {l : List Int} (hg : goodC f l = true) {v : Int} (hv : 0 ≤ v) : leadC f l (v + l.length) = leadC f l v := by
  have e : (v + (l.length : Int)) % l.length = v % l.length := Int.add_emod_right _ _
  simp [leadC, hg, hv, show (0 : Int) ≤ v + l.length by omega, e]

/-! ### CrewRanked, CrewRises -/
def cgt (r : List Int) (x : Int) : Nat := (r.filter fun y => decide (x < y)).length
theorem cgt_cge (r : List Int) (x : Int) : cgt r x = cge r (x + 1) := by
  unfold cgt cge
  congr 1
theorem ranked_law (r : List Int) (many : Nat) (h1 : 1 ≤ many) (h2 : many ≤ r.length) : many ≤ cge r (rankC r many) ∧ cgt r (rankC r many) < many := by
  obtain ⟨_, q2, q3⟩ := rank_best r many h1 h2
  refine ⟨q2, ?_⟩
  rw [cgt_cge]
  rcases Nat.lt_or_ge (cge r (rankC r many + 1)) many with h | h
  · exact h
  · have := q3 _ h; omega
theorem cge_take_succ {r : List Int} {x : Int} {k : Nat} (h : k < r.length) : cge (r.take (k + 1)) x = cge (r.take k) x + (if x ≤ r[k] then 1 else 0) := by
  unfold cge
  rw [List.take_succ_eq_append_getElem h, List.filter_append, List.length_append]
  by_cases hm : x ≤ r[k] <;> simp [hm]
theorem cgt_take_succ {r : List Int} {x : Int} {k : Nat} (h : k < r.length) : cgt (r.take (k + 1)) x = cgt (r.take k) x + (if x < r[k] then 1 else 0) := by
  unfold cgt
  rw [List.take_succ_eq_append_getElem h, List.filter_append, List.length_append]
  by_cases hm : x < r[k] <;> simp [hm]
theorem cge_le (r : List Int) (x : Int) : cge r x ≤ r.length := List.length_filter_le _ _
theorem cgt_le (r : List Int) (x : Int) : cgt r x ≤ r.length := List.length_filter_le _ _
theorem cge_mono_list : ∀ {r s : List Int}, r.length = s.length → (∀ i (h1 : i < r.length) (h2 : i < s.length), r[i] ≤ s[i]) → ∀ x, cge r x ≤ cge s x
  | [], [], _, _, _ => Nat.le_refl _
  | a :: r, b :: s, hl, h, x => by
    have ih := cge_mono_list (r := r) (s := s) (by simpa using hl) (fun i h1 h2 => h (i + 1) (by simpa using h1) (by simpa using h2)) x
    have h0 : a ≤ b := h 0 (by simp) (by simp)
    unfold cge at ih ⊢
    by_cases h1 : x ≤ a
    · have h2 : x ≤ b := by omega
      simp [h1, h2]; exact ih
    · by_cases h2 : x ≤ b
      · simp [h1, h2]; omega
      · simp [h1, h2]; exact ih
theorem rises_law {r s : List Int} (hl : r.length = s.length) (h : ∀ i (h1 : i < r.length) (h2 : i < s.length), r[i] ≤ s[i]) {k : Nat} (h1 : 1 ≤ k) (h2 : k ≤ r.length) : rankC r k ≤ rankC s k := by
  obtain ⟨_, q2, _⟩ := rank_best r k h1 h2
  obtain ⟨_, _, p3⟩ := rank_best s k h1 (by omega)
  exact p3 _ (Nat.le_trans q2 (cge_mono_list hl h _))
theorem falls_law (r : List Int) {k : Nat} (h1 : 1 ≤ k) (h2 : k + 1 ≤ r.length) : rankC r (k + 1) ≤ rankC r k := by
  obtain ⟨_, q2, _⟩ := rank_best r (k + 1) (by omega) h2
  obtain ⟨_, _, p3⟩ := rank_best r k h1 (by omega)
  exact p3 _ (by omega)
end Go.Proofs.Ytldcpnabgpjgiaa.Plain
