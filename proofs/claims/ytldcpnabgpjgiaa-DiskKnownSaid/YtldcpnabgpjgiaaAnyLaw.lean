/-
  A region that draws its order, one step for each operation (all of them wanted): what each slot holds is known, and how the world may turn; the order does not matter.
-/
import Derived.Orders
import Derived.Laws.World
namespace Go.Proofs.Ytldcpnabgpjgiaa.Walks
set_option linter.unusedVariables false
section
variable {P : Program} {ops : Array Oper} {Q : Exit → Act → World → Prop}

/-- What the slot k holds. -/
abbrev held (a : Act) (k : Nat) : Value := a.tmps[k]?.getD undef
theorem held_same (a : Act) (d : Nat) (v : Value) (h : d < a.tmps.size) : held (a.put (some d) v) d = v := by
  simp [held, Act.put, h]
theorem held_ne (a : Act) (d k : Nat) (v : Value) (h : d ≠ k) : held (a.put (some d) v) k = held a k := by
  simp [held, Act.put, Array.getElem?_setIfInBounds_ne h]
theorem put_size (a : Act) (d : Option Nat) (v : Value) : (a.put d v).tmps.size = a.tmps.size := by
  cases d <;> simp [Act.put]
theorem put_defers (a : Act) (d : Option Nat) (v : Value) : (a.put d v).defers = a.defers := by
  cases d <;> rfl

/-- Each operation of l, the first of them number n, meets S. -/
def EachOp (S : Nat → Oper → Prop) : Nat → List Oper → Prop
  | _, [] => True
  | n, o :: l => S n o ∧ EachOp S (n + 1) l
theorem EachOp.at {S : Nat → Oper → Prop} {l : List Oper} : ∀ {n : Nat}, EachOp S n l → ∀ (i : Nat) (o : Oper), l[i]? = some o → S (n + i) o := by
  induction l with
  | nil => intro n _ i o h; rw [List.getElem?_nil] at h; cases h
  | cons x l ih =>
    intro n h i o ho
    cases i with
    | zero =>
      rw [List.getElem?_cons_zero] at ho
      exact Option.some.inj ho ▸ h.1
    | succ i =>
      rw [List.getElem?_cons_succ] at ho
      have := ih h.2 i o ho
      rwa [Nat.add_assoc, Nat.add_comm 1 i] at this
/-- What the law asks of a region's form: each operation has a slot of its own, and waits for elder ones alone. -/
def plainOps (ops : Array Oper) (n : Nat) : Bool :=
  ops.toList.all (fun o => match o.dst with | some d => decide (d < n) | none => false) &&
  decide (ops.toList.map (·.dst)).Nodup &&
  (List.range ops.size).all (fun i => match ops[i]? with | some o => o.after.all (fun e => decide (e.on < i)) | none => true)
/-- o waits for the operation that yields the slot k. -/
def waitsFor (ops : Array Oper) (o : Oper) (k : Nat) : Bool := o.after.any (fun e => Region.binds .any e && (match ops[e.on]? with | some x => x.dst == some k | none => false))
/-- No operation yields the slot k. -/
def untouched (ops : Array Oper) (k : Nat) : Bool := ops.toList.all (fun o => o.dst != some k)

/-- o's guard lets it run. -/
def Runs (ops : Array Oper) (o : Oper) (a : Act) : Prop := ∀ j b, o.guard = some (j, b) → ∃ x d, ops[j]? = some x ∧ x.dst = some d ∧ held a d = .bool b
theorem Runs.wanted {ops : Array Oper} {o : Oper} {a : Act} (h : Runs ops o a) : Region.wanted o (yielded ops a.tmps) = true := by
  unfold Region.wanted
  split
  · rfl
  · rename_i j b hg
    obtain ⟨x, d, hx, hd, hv⟩ := h j b hg
    have hv' : a.tmps[d]? = some (.bool b) := by
      cases h : a.tmps[d]? with
      | none => simp [held, h, undef] at hv
      | some v => simp [held, h] at hv; rw [hv]
    simp [yielded, hx, hd, hv']
theorem Runs.plain {ops : Array Oper} {o : Oper} {a : Act} (h : o.guard = none) : Runs ops o a := fun j b e => by rw [h] at e; cases e
theorem Runs.by {ops : Array Oper} {o x : Oper} {a : Act} {j d : Nat} {b : Bool} (h : o.guard = some (j, b)) (hx : ops[j]? = some x) (hd : x.dst = some d) (hv : held a d = .bool b) : Runs ops o a :=
  fun j' b' e => by rw [h] at e; cases e; exact ⟨x, d, hx, hd, hv⟩
structure UnderWay (ops : Array Oper) (Φ : Nat → Value → World → Prop) (S : World → Prop) (a0 : Act) (listed : Array Bool) (a : Act) (w : World) : Prop where
  lsz : listed.size = ops.size
  tsz : a.tmps.size = a0.tmps.size
  df : a.defers = a0.defers
  st : S w
  old : ∀ k, untouched ops k = true → held a k = held a0 k
  done : ∀ (i : Nat) (o : Oper) (d : Nat), ops[i]? = some o → listed.getD i false = true → o.dst = some d → Φ d (held a d) w
theorem count_set {l : List Bool} {i : Nat} (h : l[i]? = some false) : (l.set i true).count false + 1 = l.count false := by
  induction l generalizing i with
  | nil => simp at h
  | cons b l ih =>
    cases i with
    | zero => simp at h; subst h; simp
    | succ i =>
      simp only [List.getElem?_cons_succ] at h
      have := ih h
      simp only [List.set_cons_succ, List.count_cons]
      omega

theorem wp_region_known {id : Nat} {a0 : Act} {w0 : World} (hm : P.follows .mixedOrders = true) (Φ : Nat → Value → World → Prop) (R : World → World → Prop) (S : World → Prop)
    (hS : S w0.drew) (hSR : ∀ w w', S w → R w w' → S w') (hΦ : ∀ d v w w', Φ d v w → R w w' → Φ d v w') (hpl : plainOps ops a0.tmps.size = true)
    (hstep : EachOp (fun _ (o : Oper) => ∀ (a : Act) (w : World), S w → (∀ k, untouched ops k = true → held a k = held a0 k) → (∀ k, waitsFor ops o k = true → Φ k (held a k) w) →
      Runs ops o a ∧ o.wp P a w (fun a' w' => ∃ v, a' = a.put o.dst v ∧ R w w' ∧ ∀ d, o.dst = some d → Φ d v w') Q) 0 ops.toList)
    (hend : ∀ a w, a.tmps.size = a0.tmps.size → a.defers = a0.defers → S w → (∀ k, untouched ops k = true → held a k = held a0 k) → (∀ (i : Nat) (o : Oper) (d : Nat), ops[i]? = some o → o.dst = some d → Φ d (held a d) w) → Q .normal a w) :
    (Code.region id ops true).wp P Q a0 w0 := by
  simp only [plainOps, Bool.and_eq_true, List.all_eq_true, decide_eq_true_eq] at hpl
  obtain ⟨⟨hp1, hp2⟩, hp3⟩ := hpl
  have hmem : ∀ {i : Nat} {o : Oper}, ops[i]? = some o → o ∈ ops.toList := fun {i o} h => by
    rw [← Array.getElem?_toList] at h
    exact List.mem_of_getElem? h
  have hdst : ∀ {i : Nat} {o : Oper}, ops[i]? = some o → ∃ d, o.dst = some d ∧ d < a0.tmps.size := fun {i o} h => by
    have h2 := hp1 o (hmem h)
    split at h2
    · rename_i d hd; exact ⟨d, hd, of_decide_eq_true h2⟩
    · cases h2
  have hinj : ∀ {i j : Nat} {oi oj : Oper} {d : Nat}, ops[i]? = some oi → ops[j]? = some oj → oi.dst = some d → oj.dst = some d → i = j := fun {i j oi oj d} hi hj h1 h2 => by
    have e1 : (ops.toList.map (·.dst))[i]? = some (some d) := by rw [List.getElem?_map, Array.getElem?_toList, hi]; simp [h1]
    have e2 : (ops.toList.map (·.dst))[j]? = some (some d) := by rw [List.getElem?_map, Array.getElem?_toList, hj]; simp [h2]
    obtain ⟨l1, g1⟩ := List.getElem?_eq_some_iff.1 e1
    obtain ⟨l2, g2⟩ := List.getElem?_eq_some_iff.1 e2
    rcases Nat.lt_trichotomy i j with h | h | h
    · exact absurd (g1.trans g2.symm) (List.pairwise_iff_getElem.1 hp2 i j l1 l2 h)
    · exact h
    · exact absurd (g2.trans g1.symm) (List.pairwise_iff_getElem.1 hp2 j i l2 l1 h)
  have hfw : ∀ {i : Nat} {o : Oper}, ops[i]? = some o → ∀ e ∈ o.after, e.on < i := fun {i o} h e he => by
    have hlt : i < ops.size := (Array.getElem?_eq_some_iff.1 h).1
    have h1 := hp3 i (List.mem_range.2 hlt)
    rw [h] at h1
    simp only [Array.all_eq_true_iff_forall_mem, decide_eq_true_eq] at h1
    exact h1 e he
  have hw : ∀ {o : Oper} {k : Nat}, waitsFor ops o k = true → ∃ e ∈ o.after, Region.binds .any e = true ∧ ∃ x, ops[e.on]? = some x ∧ x.dst = some k := fun {o k} h => by
    unfold waitsFor at h
    obtain ⟨e, he, h1⟩ := Array.any_eq_true'.1 h
    simp only [Bool.and_eq_true] at h1
    obtain ⟨hb, h2⟩ := h1
    split at h2
    · rename_i x hx; exact ⟨e, he, hb, x, hx, by simpa using h2⟩
    · cases h2
  have hunt : ∀ {k i : Nat} {o : Oper} {d : Nat}, untouched ops k = true → ops[i]? = some o → o.dst = some d → d ≠ k := fun {k i o d} h hi hd e => by
    have := List.all_eq_true.1 h o (hmem hi)
    rw [hd, e] at this
    simp at this
  refine wp_region_any hm ?_
  have key : ∀ (fuel : Nat) (listed : Array Bool) (a : Act) (w : World), listed.toList.count false ≤ fuel → UnderWay ops Φ S a0 listed a w → wpAny P .any ops Q fuel listed a w := by
    intro fuel
    have fin : ∀ (listed : Array Bool) (a : Act) (w : World), UnderWay ops Φ S a0 listed a w → Region.ready .any ops listed = [] → Q .normal a w := by
      intro listed a w h hr
      have hall : ∀ i o, ops[i]? = some o → listed.getD i false = true := by
        intro i
        induction i using Nat.strongRecOn with
        | ind i ih =>
          intro o ho
          have hlt : i < ops.size := (Array.getElem?_eq_some_iff.1 ho).1
          have hll : i < listed.size := by rw [h.lsz]; exact hlt
          cases hb : listed.getD i false
          · exfalso
            have : i ∈ Region.ready .any ops listed := by
              rw [mem_ready]
              refine ⟨by simp [hll] at hb ⊢; exact hb, o, ho, fun e he _ => ?_⟩
              have hlt2 := hfw ho e he
              have hx : e.on < ops.size := by omega
              exact ih e.on hlt2 ops[e.on] (Array.getElem?_eq_getElem hx)
            rw [hr] at this
            cases this
          · rfl
      exact hend a w h.tsz h.df h.st h.old (fun i o d ho hd => h.done i o d ho (hall i o ho) hd)
    have hfl : ∀ {listed : Array Bool} {i : Nat}, listed.getD i true = false → listed.toList[i]? = some false := fun {listed i} h => by
      rcases Nat.lt_or_ge i listed.size with h' | h'
      · simp [h'] at h
        rw [Array.getElem?_toList, Array.getElem?_eq_getElem h', h]
      · simp [Array.getElem?_eq_none h'] at h
    induction fuel with
    | zero =>
      intro listed a w hc h
      have hr : Region.ready .any ops listed = [] := by
        cases hr : Region.ready .any ops listed with
        | nil => rfl
        | cons i rs =>
          have hi : i ∈ Region.ready .any ops listed := by rw [hr]; simp
          have := count_set (hfl (mem_ready.1 hi).1)
          omega
      exact ⟨hr, fin listed a w h hr⟩
    | succ fuel ih =>
      intro listed a w hc h
      refine ⟨fin listed a w h, fun i hi => ?_⟩
      obtain ⟨hl, o, ho, hdep⟩ := mem_ready.1 hi
      obtain ⟨d, hd, hdl⟩ := hdst ho
      have hst := (EachOp.at hstep i o (by rw [Array.getElem?_toList]; exact ho)) a w h.st h.old (fun k hk => by
        obtain ⟨e, he, hb, x, hx, hxk⟩ := hw hk
        exact h.done e.on x k hx (hdep e he hb) hxk)
      unfold wpOp
      simp only [ho, hst.1.wanted, if_true]
      refine .inl (Oper.wp_mono ?_ hst.2)
      rintro a' w' ⟨v, rfl, hR, hv⟩
      rw [hd]
      have hlt : i < listed.size := by
        rcases Nat.lt_or_ge i listed.size with h' | h'
        · exact h'
        · simp [Array.getElem?_eq_none h'] at hl
      refine ih _ _ _ ?_ ⟨by simp [h.lsz], by rw [put_size, h.tsz], by rw [put_defers, h.df], hSR _ _ h.st hR, fun k hk => ?_, fun j x k hx hj hxk => ?_⟩
      · have := count_set (hfl hl)
        simp only [Array.toList_setIfInBounds]
        omega
      · rw [held_ne _ _ _ _ (hunt hk ho hd)]
        exact h.old k hk
      · by_cases e : i = j
        · subst e
          rw [ho] at hx
          cases hx
          rw [hd] at hxk
          cases hxk
          rw [held_same _ _ _ (by rw [h.tsz]; exact hdl)]
          exact hv _ hd
        · have hne : d ≠ k := fun e' => e (hinj ho hx hd (e' ▸ hxk))
          rw [held_ne _ _ _ _ hne]
          exact hΦ _ _ _ _ (h.done j x k hx (by rw [getD_set_ne false e] at hj; exact hj) hxk) hR
  refine key _ _ _ _ ?_ ⟨by simp, rfl, rfl, hS, fun _ _ => rfl, fun i o d ho hl => ?_⟩
  · simp
  · exfalso
    rcases Nat.lt_or_ge i ops.size with h' | h'
    · simp [h'] at hl
    · simp [h'] at hl
/-- A step, said with what follows as a letter. -/
theorem step_of {P : Program} {o : Oper} {d : Nat} {a : Act} {w : World} {Q : Exit → Act → World → Prop} {R : World → World → Prop} {Φ : Nat → Value → World → Prop} (hd : o.dst = some d)
    (h : ∀ K : Act → World → Prop, (∀ v w', R w w' → Φ d v w' → K { tmps := a.tmps.setIfInBounds d v, defers := a.defers } w') → o.wp P a w K Q) :
    o.wp P a w (fun a' w' => ∃ v, a' = a.put o.dst v ∧ R w w' ∧ ∀ d, o.dst = some d → Φ d v w') Q := by
  refine h _ fun v w' h1 h2 => ⟨v, ?_, h1, fun d' hd' => ?_⟩
  · rw [hd]; rfl
  · rw [hd] at hd'; cases hd'; exact h2
theorem list_fn {l : List Value} {n : Nat} (h : l.length = n) : ∃ f : Nat → Value, l = (List.range n).map f := by
  refine ⟨fun k => l.getD k undef, List.ext_getElem? fun i => ?_⟩
  rw [List.getElem?_map]
  rcases Nat.lt_or_ge i n with h' | h'
  · simp [h', List.getElem?_eq_getElem (h ▸ h' : i < l.length)]
  · simp [Nat.not_lt.2 h', List.getElem?_eq_none (h ▸ h' : l.length ≤ i)]
end
end Go.Proofs.Ytldcpnabgpjgiaa.Walks
