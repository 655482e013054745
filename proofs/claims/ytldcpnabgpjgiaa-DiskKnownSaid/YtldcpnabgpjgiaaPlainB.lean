/-
  Plain mathematics of crews, second part: sorting, the crew of some nodes, ranks. No program in sight.
-/
import Derived.Test.YtldcpnabgpjgiaaPlain
namespace Go.Proofs.Ytldcpnabgpjgiaa.Plain

def sortI (l : List Int) : List Int := l.mergeSort fun x y => decide (x ≤ y)
theorem sortI_len (l : List Int) : (sortI l).length = l.length := List.length_mergeSort _
theorem sortI_perm (l : List Int) : (sortI l).Perm l := List.mergeSort_perm _ _
theorem sortI_sorted (l : List Int) : (sortI l).Pairwise (· ≤ ·) := by
  have := List.pairwise_mergeSort (le := fun x y : Int => decide (x ≤ y)) (by intro a b c; simp; omega) (by intro a b; simp; omega) l
  exact this.imp (by intro a b h; simpa using h)

theorem okFrom_iff {last : Int} {l : List Int} : okFrom last l = true ↔ l.Pairwise (· < ·) ∧ ∀ n ∈ l, last < n ∧ 1 ≤ n ∧ n ≤ 28 := by
  constructor
  · exact fun h => ⟨okFrom_sorted h, okFrom_lt h⟩
  · induction l generalizing last with
    | nil => intro _; rfl
    | cons a l ih =>
      rintro ⟨h1, h2⟩
      rw [List.pairwise_cons] at h1
      have ha := h2 a List.mem_cons_self
      simp only [okFrom, Bool.and_eq_true, decide_eq_true_eq]
      exact ⟨⟨ha.1, ha.2.1, ha.2.2⟩, ih ⟨h1.2, fun n hn => ⟨h1.1 n hn, (h2 n (List.mem_cons_of_mem _ hn)).2⟩⟩⟩

theorem goodC_iff {f : Int} {l : List Int} : goodC f l = true ↔ (0 ≤ f ∧ f ≤ 2) ∧ (l.length : Int) = 3 * f + 1 ∧ l.Pairwise (· < ·) ∧ ∀ n ∈ l, 1 ≤ n ∧ n ≤ 28 := by
  simp only [goodC, Bool.and_eq_true, decide_eq_true_eq, okFrom_iff]
  constructor
  · rintro ⟨⟨h1, h2⟩, h3, h4⟩; exact ⟨h1, h2, h3, fun n hn => (h4 n hn).2⟩
  · rintro ⟨h1, h2, h3, h4⟩; exact ⟨⟨h1, h2⟩, h3, fun n hn => ⟨by have := h4 n hn; omega, h4 n hn⟩⟩

/-- Of one to 28 those that are in l. -/
def ofC (l : List Int) : List Int := ((List.range 28).map fun i : Nat => (i : Int) + 1).filter fun n => decide (n ∈ l)
theorem mem_ofC {l : List Int} {n : Int} : n ∈ ofC l ↔ (1 ≤ n ∧ n ≤ 28) ∧ n ∈ l := by
  simp only [ofC, List.mem_filter, List.mem_map, List.mem_range, decide_eq_true_eq]
  constructor
  · rintro ⟨⟨i, hi, rfl⟩, h⟩; exact ⟨by omega, h⟩
  · rintro ⟨⟨h1, h2⟩, h⟩; exact ⟨⟨(n - 1).toNat, by omega, by omega⟩, h⟩
theorem ofC_sorted (l : List Int) : (ofC l).Pairwise (· < ·) := by
  unfold ofC
  apply List.Pairwise.filter
  rw [List.pairwise_map]
  exact List.pairwise_lt_range.imp (by intro a b h; omega)

theorem lt_nodup {l : List Int} (h : l.Pairwise (· < ·)) : l.Nodup := h.imp (by intro a b h; omega)

theorem perm_of_nodup_subset {s l : List Int} (hn : s.Nodup) (hs : ∀ x ∈ s, x ∈ l) (hl : l.length ≤ s.length) : s.Perm l := by
  induction s generalizing l with
  | nil => have : l = [] := List.eq_nil_of_length_eq_zero (by simpa using hl); subst this; exact List.Perm.refl _
  | cons a s ih =>
    have ha : a ∈ l := hs a List.mem_cons_self
    have hp := List.perm_cons_erase ha
    rw [List.nodup_cons] at hn
    have hlen := hp.length_eq
    refine List.Perm.trans (List.Perm.cons a (ih hn.2 (fun x hx => ?_) (by simp at hl hlen; omega))) hp.symm
    have hne : x ≠ a := fun e => hn.1 (e ▸ hx)
    exact (List.mem_erase_of_ne hne).2 (hs x (List.mem_cons_of_mem _ hx))

theorem perm_of_nodup_subset_len {s l : List Int} (hn : s.Nodup) (hs : ∀ x ∈ s, x ∈ l) : s.length ≤ l.length := by
  induction s generalizing l with
  | nil => simp
  | cons a s ih =>
    have ha : a ∈ l := hs a List.mem_cons_self
    have hlen := (List.perm_cons_erase ha).length_eq
    rw [List.nodup_cons] at hn
    have := ih (l := l.erase a) hn.2 (fun x hx => (List.mem_erase_of_ne (fun e => hn.1 (by rw [← e]; exact hx))).2 (hs x (List.mem_cons_of_mem _ hx)))
    simp at hlen ⊢
    omega

theorem sorted_perm_eq {a b : List Int} (ha : a.Pairwise (· ≤ ·)) (hb : b.Pairwise (· ≤ ·)) (h : a.Perm b) : a = b :=
  List.Perm.eq_of_pairwise (le := (· ≤ ·)) (by intro x y _ _ h1 h2; omega) ha hb h
theorem lt_le {l : List Int} (h : l.Pairwise (· < ·)) : l.Pairwise (· ≤ ·) := h.imp (by intro a b h; omega)

/-- Sorted it may be a crew just if the numbers from 1 to 28 in it may, and are as many. -/
theorem make_same (f : Int) (l : List Int) : goodC f (sortI l) = (goodC f (ofC l) && decide ((ofC l).length = l.length)) ∧ (goodC f (sortI l) = true → sortI l = ofC l) := by
  have key : goodC f (sortI l) = true → sortI l = ofC l := by
    intro h
    obtain ⟨_, h2, h3, h4⟩ := goodC_iff.1 h
    refine List.Perm.eq_of_pairwise (le := (· < ·)) (by intro x y _ _ h1 h2; omega) h3 (ofC_sorted l) ?_
    refine perm_of_nodup_subset (lt_nodup h3) (fun x hx => mem_ofC.2 ⟨h4 x hx, (sortI_perm l).mem_iff.1 hx⟩) ?_
    have hp := perm_of_nodup_subset_len (lt_nodup (ofC_sorted l)) (fun x hx => (sortI_perm l).mem_iff.2 (mem_ofC.1 hx).2)
    exact hp
  refine ⟨?_, key⟩
  rw [Bool.eq_iff_iff]
  constructor
  · intro h
    have e := key h
    rw [← e, h, sortI_len]
    simp
  · intro h
    simp only [Bool.and_eq_true, decide_eq_true_eq] at h
    have hp : (ofC l).Perm l := perm_of_nodup_subset (lt_nodup (ofC_sorted l)) (fun x hx => (mem_ofC.1 hx).2) (by omega)
    have e : sortI l = ofC l := sorted_perm_eq (sortI_sorted l) (lt_le (ofC_sorted l)) ((sortI_perm l).trans hp.symm)
    rw [e]; exact h.1

/-- Unlike numbers from 1 to 28, sorted, rise. -/
theorem sorted_of_nodup {l : List Int} (h : l.Nodup) : (sortI l).Pairwise (· < ·) := by
  have hn : (sortI l).Nodup := (sortI_perm l).nodup_iff.2 h
  have hs := sortI_sorted l
  exact (hs.and hn).imp (by rintro a b ⟨h1, h2⟩; omega)

/-- The crew of some nodes; its error. -/
def makeF (f : Int) (l : List Int) : Int := if goodC f (sortI l) then f else 0
def makeL (f : Int) (l : List Int) : List Int := if goodC f (sortI l) then sortI l else []
def makeE (f : Int) (l : List Int) : Int := if goodC f (sortI l) then 0 else 2

/-- A crew with another node. -/
def mayC (f : Int) (l : List Int) (old next : Int) : Bool := goodC f l && (decide (1 ≤ next) && decide (next ≤ 28)) && decide (old ∈ l) && !decide (next ∈ l)
def repE (f : Int) (l : List Int) (old next : Int) : Int :=
  if goodC f l then (if decide (1 ≤ next) && decide (next ≤ 28) then (if decide (old ∈ l) && !decide (next ∈ l) then 0 else 110) else 2) else 110
def repF (f : Int) (l : List Int) (old next : Int) : Int := if mayC f l old next then f else 0
def repL (f : Int) (l : List Int) (old next : Int) : List Int := if mayC f l old next then sortI (dels old l ++ [next]) else []

theorem dels_nodup {x : Int} {l : List Int} (h : l.Nodup) : (dels x l).Nodup := List.Pairwise.filter _ h
theorem mem_dels {x n : Int} {l : List Int} : n ∈ dels x l ↔ n ∈ l ∧ n ≠ x := by simp [dels]
theorem dels_length_mem {x : Int} {l : List Int} (h : l.Nodup) (hx : x ∈ l) : (dels x l).length + 1 = l.length := by
  have hp : (x :: dels x l).Perm l := by
    refine perm_of_nodup_subset (List.nodup_cons.2 ⟨fun h => (mem_dels.1 h).2 rfl, dels_nodup h⟩) (fun y hy => ?_) ?_
    · rcases List.mem_cons.1 hy with rfl | hy
      · exact hx
      · exact (mem_dels.1 hy).1
    · refine perm_of_nodup_subset_len h (fun y hy => ?_)
      by_cases e : y = x
      · subst e; exact List.mem_cons_self
      · exact List.mem_cons_of_mem _ (mem_dels.2 ⟨hy, e⟩)
  have := hp.length_eq
  simpa using this

theorem rep_good {f : Int} {l : List Int} {old next : Int} (h : mayC f l old next = true) : goodC f (sortI (dels old l ++ [next])) = true := by
  simp only [mayC, Bool.and_eq_true, decide_eq_true_eq, Bool.not_eq_true', decide_eq_false_iff_not] at h
  obtain ⟨⟨⟨hg, hn1, hn2⟩, ho⟩, hn⟩ := h
  obtain ⟨h1, h2, h3, h4⟩ := goodC_iff.1 hg
  have hnd : (dels old l ++ [next]).Nodup := by
    rw [List.nodup_append]
    refine ⟨dels_nodup (lt_nodup h3), by simp, ?_⟩
    intro a ha b hb e
    have : b = next := by simpa using hb
    subst this; subst e
    exact hn (mem_dels.1 ha).1
  refine goodC_iff.2 ⟨h1, ?_, sorted_of_nodup hnd, fun n hm => ?_⟩
  · rw [sortI_len, List.length_append]
    have := dels_length_mem (lt_nodup h3) ho
    simp; omega
  · have := (sortI_perm _).mem_iff.1 hm
    rcases List.mem_append.1 this with h | h
    · exact h4 n (mem_dels.1 h).1
    · have : n = next := by simpa using h
      subst this; exact ⟨hn1, hn2⟩

/-! ### Ranks -/
/-- How many reach x. -/
def cge (r : List Int) (x : Int) : Nat := (r.filter fun y => decide (x ≤ y)).length
theorem cge_perm {r s : List Int} (h : r.Perm s) (x : Int) : cge r x = cge s x := (h.filter _).length_eq
def rankC (r : List Int) (many : Nat) : Int := (sortI r).getD (r.length - many) 0

theorem cge_drop {s : List Int} (hs : s.Pairwise (· ≤ ·)) {i : Nat} (hi : i < s.length) : s.length - i ≤ cge s s[i] := by
  unfold cge
  have h1 : ((s.drop i).filter fun y => decide (s[i] ≤ y)).length = s.length - i := by
    rw [List.filter_eq_self.2, List.length_drop]
    intro a ha
    obtain ⟨j, hj, rfl⟩ := List.getElem_of_mem ha
    rw [List.getElem_drop]
    rw [List.length_drop] at hj
    simp only [decide_eq_true_eq]
    rcases Nat.eq_zero_or_pos j with rfl | hj0
    · simp
    · exact List.pairwise_iff_getElem.1 hs i (i + j) hi (by omega) (by omega)
  have h2 := ((List.drop_sublist i s).filter fun y => decide (s[i] ≤ y)).length_le
  omega
theorem cge_above {s : List Int} (hs : s.Pairwise (· ≤ ·)) {i : Nat} (hi : i < s.length) {x : Int} (hx : s[i] < x) : cge s x ≤ s.length - (i + 1) := by
  unfold cge
  have e : s = s.take (i + 1) ++ s.drop (i + 1) := (List.take_append_drop _ _).symm
  have h1 : (s.take (i + 1)).filter (fun y => decide (x ≤ y)) = [] := by
    rw [List.filter_eq_nil_iff]
    intro a ha
    obtain ⟨j, hj, rfl⟩ := List.getElem_of_mem ha
    rw [List.getElem_take]
    rw [List.length_take] at hj
    simp only [decide_eq_true_eq]
    have : s[j] ≤ s[i] := by
      by_cases e : j = i
      · subst e; exact Int.le_refl _
      · exact List.pairwise_iff_getElem.1 hs j i (by omega) hi (by omega)
    omega
  rw [e, List.filter_append, h1, List.nil_append]
  have := List.length_filter_le (fun y => decide (x ≤ y)) (s.drop (i + 1))
  rw [List.length_drop] at this
  rw [← e]
  exact this

/-- What is ranked is the greatest that so many reach. -/
theorem rank_best (r : List Int) (many : Nat) (h1 : 1 ≤ many) (h2 : many ≤ r.length) : rankC r many ∈ r ∧ many ≤ cge r (rankC r many) ∧ ∀ x, many ≤ cge r x → x ≤ rankC r many := by
  have hl := sortI_len r
  have hi : r.length - many < (sortI r).length := by omega
  have e : rankC r many = (sortI r)[r.length - many] := by simp [rankC, hi]
  rw [e]
  refine ⟨(sortI_perm r).mem_iff.1 (List.getElem_mem _), ?_, fun x hx => ?_⟩
  · rw [← cge_perm (sortI_perm r)]
    have := cge_drop (sortI_sorted r) hi
    omega
  · rw [← cge_perm (sortI_perm r)] at hx
    rcases Int.lt_or_le (sortI r)[r.length - many] x with h | h
    · have := cge_above (sortI_sorted r) hi h
      omega
    · exact h

/-- The answer's search: the greatest so far of those that so many reach; is there one? -/
def bestTo (r : List Int) (many : Int) (l : List Int) : Int × Bool := l.foldl (fun s x => if decide (many ≤ (cge r x : Int)) && (!s.2 || decide (s.1 < x)) then (x, true) else s) (0, false)
def BestIs (r : List Int) (many : Int) (l : List Int) (s : Int × Bool) : Prop :=
  (s.2 = false → s.1 = 0 ∧ ∀ x ∈ l, ¬ many ≤ (cge r x : Int)) ∧ (s.2 = true → s.1 ∈ l ∧ many ≤ (cge r s.1 : Int) ∧ ∀ x ∈ l, many ≤ (cge r x : Int) → x ≤ s.1)
theorem BestIs.step {r : List Int} {many : Int} {l' : List Int} {s : Int × Bool} (h : BestIs r many l' s) (x : Int) :
    BestIs r many (l' ++ [x]) (if decide (many ≤ (cge r x : Int)) && (!s.2 || decide (s.1 < x)) then (x, true) else s) := by
  obtain ⟨s1, s2⟩ := s
  unfold BestIs at h ⊢
  simp only [List.mem_append, List.mem_singleton]
  by_cases hx : many ≤ (cge r x : Int)
  · cases s2 with
    | false =>
      simp [hx]
      rintro y (hy | rfl) hq
      · exact absurd hq ((h.1 rfl).2 y hy)
      · exact Int.le_refl _
    | true =>
      have t := h.2 rfl
      by_cases hlt : s1 < x
      · simp [hx, hlt]
        rintro y (hy | rfl) hq
        · have := t.2.2 y hy hq; dsimp only at this; omega
        · exact Int.le_refl _
      · simp [hx, hlt]
        refine ⟨.inl t.1, t.2.1, ?_⟩
        rintro y (hy | rfl) hq
        · exact t.2.2 y hy hq
        · omega
  · have e : (decide (many ≤ (cge r x : Int)) && (!s2 || decide (s1 < x))) = false := by simp [hx]
    simp only [e]
    constructor
    · intro h'
      refine ⟨(h.1 h').1, ?_⟩
      rintro y (hy | rfl)
      · exact (h.1 h').2 y hy
      · exact hx
    · intro h'
      refine ⟨.inl (h.2 h').1, (h.2 h').2.1, ?_⟩
      rintro y (hy | rfl) hq
      · exact (h.2 h').2.2 y hy hq
      · exact absurd hq hx
theorem BestIs.fold {r : List Int} {many : Int} (l : List Int) : ∀ (l' : List Int) (s : Int × Bool), BestIs r many l' s →
    BestIs r many (l' ++ l) (l.foldl (fun s x => if decide (many ≤ (cge r x : Int)) && (!s.2 || decide (s.1 < x)) then (x, true) else s) s) := by
  induction l with
  | nil => intro l' s h; simpa using h
  | cons x l ih =>
    intro l' s h
    have := ih _ _ (h.step x)
    simpa using this
theorem bestTo_inv (r : List Int) (many : Int) (l : List Int) : BestIs r many l (bestTo r many l) := by
  have := BestIs.fold (r := r) (many := many) l [] (0, false) (by simp [BestIs])
  simpa [bestTo] using this
theorem best_rank (r : List Int) (many : Nat) (h1 : 1 ≤ many) (h2 : many ≤ r.length) : (bestTo r many r).1 = rankC r many := by
  obtain ⟨q1, q2, q3⟩ := rank_best r many h1 h2
  have inv := bestTo_inv r many r
  cases hb : (bestTo r many r).2 with
  | false => exact absurd (by omega) ((inv.1 hb).2 _ q1)
  | true =>
    obtain ⟨p1, p2, p3⟩ := inv.2 hb
    have := p3 _ q1 (by omega)
    have := q3 _ (by omega : many ≤ cge r (bestTo r many r).1)
    omega
end Go.Proofs.Ytldcpnabgpjgiaa.Plain
