/-
  Plain mathematics of crews: no program in sight.
-/
namespace Go.Proofs.Ytldcpnabgpjgiaa.Plain

/-- May l go on behind 'last'? -/
def okFrom (last : Int) : List Int → Bool
  | [] => true
  | n :: l => decide (last < n) && (decide (1 ≤ n) && decide (n ≤ 28)) && okFrom n l

/-- May a crew be? -/
def goodC (f : Int) (l : List Int) : Bool := decide (0 ≤ f) && decide (f ≤ 2) && decide ((l.length : Int) = 3 * f + 1) && okFrom 0 l

def errC (f : Int) (l : List Int) : Int := if goodC f l then 0 else 110

theorem errC_good {f : Int} {l : List Int} (h : goodC f l = true) : errC f l = 0 := by simp [errC, h]
theorem errC_bad {f : Int} {l : List Int} (h : goodC f l = false) : errC f l = 110 := by simp [errC, h]
theorem goodC_len {f : Int} {l : List Int} (h : goodC f l = true) : 0 ≤ f ∧ f ≤ 2 ∧ (l.length : Int) = 3 * f + 1 := by
  simp [goodC] at h; omega

def mostC (f : Int) (l : List Int) : Int := if goodC f l then 2 * f + 1 else 0
def someC (f : Int) (l : List Int) : Int := if goodC f l then f + 1 else 0
def leadC (f : Int) (l : List Int) (v : Int) : Int := if goodC f l && decide (0 ≤ v) then l.getD (v % l.length).toNat 0 else 0
def hasC (f : Int) (l : List Int) (n : Int) : Bool := goodC f l && decide (n ∈ l)

/-! ### Rising lists -/
theorem okFrom_lt {last : Int} {l : List Int} (h : okFrom last l = true) : ∀ n ∈ l, last < n ∧ 1 ≤ n ∧ n ≤ 28 := by
  induction l generalizing last with
  | nil => simp
  | cons a l ih =>
    simp [okFrom] at h
    intro n hn
    rcases List.mem_cons.1 hn with rfl | hn
    · exact ⟨h.1.1, h.1.2.1, h.1.2.2⟩
    · have := ih h.2 n hn
      omega
theorem okFrom_sorted {last : Int} {l : List Int} (h : okFrom last l = true) : l.Pairwise (· < ·) := by
  induction l generalizing last with
  | nil => simp
  | cons a l ih =>
    have h' := h
    simp [okFrom] at h
    refine List.pairwise_cons.2 ⟨fun n hn => (okFrom_lt h.2 n hn).1, ih h.2⟩
theorem good_sorted {f : Int} {l : List Int} (h : goodC f l = true) : l.Pairwise (· < ·) := by
  simp only [goodC, Bool.and_eq_true] at h
  exact okFrom_sorted h.2
theorem good_mem {f : Int} {l : List Int} (h : goodC f l = true) : ∀ n ∈ l, 1 ≤ n ∧ n ≤ 28 := by
  simp only [goodC, Bool.and_eq_true] at h
  exact fun n hn => (okFrom_lt h.2 n hn).2
theorem sorted_get {l : List Int} (h : l.Pairwise (· < ·)) {i j : Nat} (hi : i < l.length) (hj : j < l.length) (hij : i < j) : l[i] < l[j] :=
  List.pairwise_iff_getElem.1 h i j hi hj hij

/-- How many of l are in m. -/
def cnt (l m : List Int) : Nat := (l.filter fun n => decide (n ∈ m)).length
theorem cnt_le (l m : List Int) : cnt l m ≤ l.length := List.length_filter_le _ _
theorem cnt_take_succ {l m : List Int} {k : Nat} (h : k < l.length) : cnt (l.take (k + 1)) m = cnt (l.take k) m + (if l[k] ∈ m then 1 else 0) := by
  unfold cnt
  rw [List.take_succ_eq_append_getElem h, List.filter_append, List.length_append]
  by_cases hm : l[k] ∈ m <;> simp [hm]
def votesC (f : Int) (l m : List Int) : Int := if goodC f l then (cnt l m : Int) else 0
/-- All but one. -/
def dels (x : Int) (l : List Int) : List Int := l.filter fun n => !(n == x)
def othersC (f : Int) (l : List Int) (x : Int) : List Int := if goodC f l then dels x l else []
theorem dels_len (x : Int) (l : List Int) : (dels x l).length ≤ l.length := List.length_filter_le _ _
theorem dels_take_succ {x : Int} {l : List Int} {k : Nat} (h : k < l.length) : dels x (l.take (k + 1)) = dels x (l.take k) ++ (if l[k] = x then [] else [l[k]]) := by
  unfold dels
  rw [List.take_succ_eq_append_getElem h, List.filter_append]
  by_cases hm : l[k] = x <;> simp [hm]
theorem dels_of_not_mem {x : Int} {l : List Int} (h : x ∉ l) : dels x l = l := by
  unfold dels
  rw [List.filter_eq_self]
  intro a ha
  have : a ≠ x := fun e => h (e ▸ ha)
  simp [this]
end Go.Proofs.Ytldcpnabgpjgiaa.Plain
