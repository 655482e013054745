/-
  Plates that are none.
  Journals that are none, and plates that are none.
  A region that draws its order, one step for each operation: what each slot holds is known, and how the world may turn; the order does not matter.
-/
import Derived.Test.YtdhidcoglioalaaGreatM12
import Derived.Test.YtdhidcoglioalaaGreatM31
import Derived.Orders
import Derived.Laws.World
namespace Go.Proofs.YtdhidcoglioalaaGreat.Walks
open Go.RowKit Plain
set_option linter.unusedVariables false

/-- A plate that was never made: none, or one with no sectors. -/
def NoPl (w : World) (v : Value) : Prop := v = .pointer none ∨ ∃ b, v = .pointer (some ⟨b, 0, none⟩) ∧ w.cell? ⟨b, 0, none⟩ = some (.slice none 0 0)
section
variable {w : World} {v : Value}
theorem x_may (h : NoPl w v) : Calls Tryz.prog 51 #[v] w fun e w' => e = .returned (.int .i64 1) ∧ w = w' := by
  rcases h with rfl | ⟨b, rfl, h⟩
  · go_enter Tryz.func51, Tryz.ntmps51
    go_wp2
    go_ret
    exact ⟨rfl, rfl⟩
  · go_enter Tryz.func51, Tryz.ntmps51
    go_wp2
    go_ret
    exact ⟨rfl, rfl⟩
theorem x_has (h : NoPl w v) (i : Int) : Calls Tryz.prog 45 #[v, .int .i64 i] w fun e w' => e = .returned (.int .i64 1) ∧ w = w' := by
  have H := Lib.hid h
  clear h
  go_enter Tryz.func45, Tryz.ntmps45
  go_wp2_with fail
  refine Calls.mono (x_may H.out) ?_
  rintro e w1 ⟨rfl, rfl⟩
  go_wp2
  go_ret
  exact ⟨rfl, rfl⟩
theorem x_read (h : NoPl w v) (i : Int) : Calls Tryz.prog 15 #[v, .int .i64 i] w fun e w' => e = .returned (.tuple #[.slice none 0 0, .int .i64 1]) ∧ w = w' := by
  have H := Lib.hid h
  clear h
  go_enter Tryz.func15, Tryz.ntmps15
  go_wp2_with fail
  refine Calls.mono (x_has H.out i) ?_
  rintro e w1 ⟨rfl, rfl⟩
  go_wp2
  refine bodyPost_ret (results_tmp2 rfl _ _ _) rfl ?_
  exact ⟨rfl, rfl⟩
theorem x_size (h : NoPl w v) : Calls Tryz.prog 18 #[v] w fun e w' => e = .returned (.int .i64 0) ∧ w = w' := by
  have H := Lib.hid h
  clear h
  go_enter Tryz.func18, Tryz.ntmps18
  go_wp2_with fail
  refine Calls.mono (x_may H.out) ?_
  rintro e w1 ⟨rfl, rfl⟩
  go_wp2
  go_ret
  exact ⟨rfl, rfl⟩
theorem x_write (h : NoPl w v) (i : Int) (a : Option Addr) (n c : Nat) : Calls Tryz.prog 29 #[v, .int .i64 i, .slice a n c] w fun e w' => e = .returned (.int .i64 1) ∧ w = w' := by
  have H := Lib.hid h
  clear h
  go_enter Tryz.func29, Tryz.ntmps29
  go_wp2_with fail
  refine Calls.mono (x_has H.out i) ?_
  rintro e w1 ⟨rfl, rfl⟩
  go_wp2
  go_ret
  exact ⟨rfl, rfl⟩
theorem x_flush (h : NoPl w v) : Calls Tryz.prog 21 #[v] w fun e w' => e = .returned (.int .i64 1) ∧ w = w' := by
  have H := Lib.hid h
  clear h
  go_enter Tryz.func21, Tryz.ntmps21
  go_wp2_with fail
  refine Calls.mono (x_may H.out) ?_
  rintro e w1 ⟨rfl, rfl⟩
  go_wp2
  go_ret
  exact ⟨rfl, rfl⟩
theorem x_waits (h : NoPl w v) : Calls Tryz.prog 90 #[v] w fun e w' => e = .returned (.slice none 0 0) ∧ w = w' := by
  have H := Lib.hid h
  clear h
  go_enter Tryz.func90, Tryz.ntmps90
  go_wp2_with fail
  refine Calls.mono (x_may H.out) ?_
  rintro e w1 ⟨rfl, rfl⟩
  go_wp2
  go_ret
  exact ⟨rfl, rfl⟩
theorem x_fail (h : NoPl w v) (i : Int) (a : Option Addr) (n c : Nat) : Calls Tryz.prog 43 #[v, .int .i64 i, .slice a n c] w fun e w' => e = .returned (.int .i64 1) ∧ w = w' := by
  have H := Lib.hid h
  clear h
  go_enter Tryz.func43, Tryz.ntmps43
  go_wp2_with fail
  refine Calls.mono (x_may H.out) ?_
  rintro e w1 ⟨rfl, rfl⟩
  go_wp2
  go_ret
  exact ⟨rfl, rfl⟩
theorem x_crash (h : NoPl w v) (a : Option Addr) (n c : Nat) : Calls Tryz.prog 73 #[v, .slice a n c] w fun e w' => e = .returned (.int .i64 1) ∧ w = w' := by
  have H := Lib.hid h
  clear h
  go_enter Tryz.func73, Tryz.ntmps73
  go_wp2_with fail
  refine Calls.mono (x_may H.out) ?_
  rintro e w1 ⟨rfl, rfl⟩
  go_wp2
  go_ret
  exact ⟨rfl, rfl⟩
theorem x_boot (h : NoPl w v) : Calls Tryz.prog 44 #[v] w fun e w' => e = .returned (.int .i64 1) ∧ w = w' := by
  have H := Lib.hid h
  clear h
  go_enter Tryz.func44, Tryz.ntmps44
  go_wp2_with fail
  refine Calls.mono (x_may H.out) ?_
  rintro e w1 ⟨rfl, rfl⟩
  go_wp2
  go_ret
  exact ⟨rfl, rfl⟩
theorem x_dead (h : NoPl w v) : Calls Tryz.prog 27 #[v] w fun e w' => e = .returned (.bool false) ∧ w = w' := by
  have H := Lib.hid h
  clear h
  go_enter Tryz.func27, Tryz.ntmps27
  go_wp2_with fail
  refine Calls.mono (x_may H.out) ?_
  rintro e w1 ⟨rfl, rfl⟩
  go_wp2
  go_ret
  exact ⟨rfl, rfl⟩
theorem x_turn (h : NoPl w v) (i b : Int) : Calls Tryz.prog 76 #[v, .int .i64 i, .int .i64 b] w fun e w' => e = .returned (.int .i64 1) ∧ w = w' := by
  have H := Lib.hid h
  clear h
  go_enter Tryz.func76, Tryz.ntmps76
  go_wp2_with fail
  refine Calls.mono (x_has H.out i) ?_
  rintro e w1 ⟨rfl, rfl⟩
  go_wp2
  go_ret
  exact ⟨rfl, rfl⟩
end
end Go.Proofs.YtdhidcoglioalaaGreat.Walks
namespace Go.Proofs.YtdhidcoglioalaaGreat.Walks
open Go.RowKit Plain Jn
set_option linter.unusedVariables false
/-- A journal that was never made: none, or one with no plate. -/
def NoJn (w : World) (v : Value) : Prop := v = .pointer none ∨ ∃ b, v = .pointer (some ⟨b, 0, none⟩) ∧ w.cell? ⟨b, 0, none⟩ = some (.pointer none)
section
variable {w : World} {v : Value}
theorem y_may (h : NoJn w v) : Calls Tryz.prog 14 #[v] w fun e w' => e = .returned (.int .i64 1) ∧ w = w' := by
  rcases h with rfl | ⟨b, rfl, h⟩
  · go_enter Tryz.func14, Tryz.ntmps14
    go_wp2
    go_ret
    exact ⟨rfl, rfl⟩
  · go_enter Tryz.func14, Tryz.ntmps14
    go_wp2
    go_ret
    exact ⟨rfl, rfl⟩
theorem y_read (h : NoJn w v) (i : Int) : Calls Tryz.prog 4 #[v, .int .i64 i] w fun e w' => e = .returned (.tuple #[.slice none 0 0, .int .i64 1]) ∧ w = w' := by
  have H := Lib.hid h
  clear h
  go_enter Tryz.func4, Tryz.ntmps4
  go_wp2_with fail
  refine Calls.mono (y_may H.out) ?_
  rintro e w1 ⟨rfl, rfl⟩
  go_wp2
  go_ret2
  exact ⟨rfl, rfl⟩
theorem y_blocks (h : NoJn w v) : Calls Tryz.prog 5 #[v] w fun e w' => e = .returned (.int .i64 0) ∧ w = w' := by
  have H := Lib.hid h
  clear h
  go_enter Tryz.func5, Tryz.ntmps5
  go_wp2_with fail
  refine Calls.mono (y_may H.out) ?_
  rintro e w1 ⟨rfl, rfl⟩
  go_wp2
  go_ret
  exact ⟨rfl, rfl⟩
theorem y_free (h : NoJn w v) : Calls Tryz.prog 6 #[v] w fun e w' => e = .returned (.int .i64 0) ∧ w = w' := by
  have H := Lib.hid h
  clear h
  go_enter Tryz.func6, Tryz.ntmps6
  go_wp2_with fail
  refine Calls.mono (y_may H.out) ?_
  rintro e w1 ⟨rfl, rfl⟩
  go_wp2
  go_ret
  exact ⟨rfl, rfl⟩
theorem y_commit (h : NoJn w v) (a : Option Addr) (n c : Nat) : Calls Tryz.prog 7 #[v, .slice a n c] w fun e w' => e = .returned (.int .i64 1) ∧ w = w' := by
  have H := Lib.hid h
  clear h
  go_enter Tryz.func7, Tryz.ntmps7
  go_wp2_with fail
  refine Calls.mono (y_may H.out) ?_
  rintro e w1 ⟨rfl, rfl⟩
  go_wp2
  go_ret
  exact ⟨rfl, rfl⟩
theorem y_clear (h : NoJn w v) : Calls Tryz.prog 8 #[v] w fun e w' => e = .returned (.int .i64 1) ∧ w = w' := by
  have H := Lib.hid h
  clear h
  go_enter Tryz.func8, Tryz.ntmps8
  go_wp2_with fail
  refine Calls.mono (y_may H.out) ?_
  rintro e w1 ⟨rfl, rfl⟩
  go_wp2
  go_ret
  exact ⟨rfl, rfl⟩
theorem y_format (w : World) (i : Int) : Calls Tryz.prog 9 #[.pointer none, .int .i64 i] w fun e w' => e = .returned (.tuple #[.pointer none, .int .i64 1]) ∧ Below w.heap.size w w' := by
  have HD : Hid (∀ w', Calls Tryz.prog 27 #[.pointer none] w' fun e w'' => e = .returned (.bool false) ∧ w' = w'') := Lib.hid fun w' => x_dead (.inl rfl)
  have HS : Hid (∀ w', Calls Tryz.prog 18 #[.pointer none] w' fun e w'' => e = .returned (.int .i64 0) ∧ w' = w'') := Lib.hid fun w' => x_size (.inl rfl)
  go_enter Tryz.func9, Tryz.ntmps9
  go_wp2_with fail
  refine Calls.mono (HD.out _) ?_
  rintro e w1 ⟨rfl, rfl⟩
  go_wp2_with fail
  refine Calls.mono (HS.out _) ?_
  rintro e w1 ⟨rfl, rfl⟩
  go_wp2
  go_ret2
  refine ⟨rfl, ?_⟩
  first | exact Below.refl _ _ | exact Below.new _ _ | exact Below.step (Below.new _ _) (Below.new _ _)
theorem y_open (w : World) : Calls Tryz.prog 10 #[.pointer none] w fun e w' => e = .returned (.tuple #[.pointer none, .int .i64 1]) ∧ w = w' := by
  have HF : Hid (∀ w', Calls Tryz.prog 21 #[.pointer none] w' fun e w'' => e = .returned (.int .i64 1) ∧ w' = w'') := Lib.hid fun w' => x_flush (.inl rfl)
  go_enter Tryz.func10, Tryz.ntmps10
  go_wp2_with fail
  refine Calls.mono (HF.out _) ?_
  rintro e w1 ⟨rfl, rfl⟩
  go_wp2
  go_ret2
  exact ⟨rfl, rfl⟩
end
end Go.Proofs.YtdhidcoglioalaaGreat.Walks
namespace Go.Proofs.YtdhidcoglioalaaGreat.Walks
set_option linter.unusedVariables false
section
variable {P : Program} {ops : Array Oper} {Q : Exit → Act → World → Prop}

/-- What the slot k holds. -/
abbrev held (a : Act) (k : Nat) : Value := a.tmps[k]?.getD undef
theorem held_same (a : Act) (d : Nat) (v : Value) (h : d < a.tmps.size) : held (a.put (some d) v) d = v := by
  simp [held, Act.put, h]
theorem held_ne (a : Act) (d k : Nat) (v : Value) (h : d ≠ k) : held (a.put (some d) v) k = held a k := by
  simp [held, Act.put, Array.getElem?_setIfInBounds_ne h]
theorem put_size (a : Act) (d : Option Nat) (v : Value) : (a.put d v).tmps.size = a.tmps.size := by
  cases d <;> simp [Act.put]
theorem put_defers (a : Act) (d : Option Nat) (v : Value) : (a.put d v).defers = a.defers := by
  cases d <;> rfl

/-- Each operation of l, the first of them number n, meets S. -/
def EachOp (S : Nat → Oper → Prop) : Nat → List Oper → Prop
  | _, [] => True
  | n, o :: l => S n o ∧ EachOp S (n + 1) l
theorem EachOp.at {S : Nat → Oper → Prop} {l : List Oper} : ∀ {n : Nat}, EachOp S n l → ∀ (i : Nat) (o : Oper), l[i]? = some o → S (n + i) o := by
  induction l with
  | nil => intro n _ i o h; rw [List.getElem?_nil] at h; cases h
  | cons x l ih =>
    intro n h i o ho
    cases i with
    | zero =>
      rw [List.getElem?_cons_zero] at ho
      exact Option.some.inj ho ▸ h.1
    | succ i =>
      rw [List.getElem?_cons_succ] at ho
      have := ih h.2 i o ho
      rwa [Nat.add_assoc, Nat.add_comm 1 i] at this
/-- What the law asks of a region's form: no guards, each operation has a slot of its own, and waits for elder ones alone. -/
def plainOps (ops : Array Oper) (n : Nat) : Bool :=
  ops.toList.all (fun o => o.guard.isNone && (match o.dst with | some d => decide (d < n) | none => false)) &&
  decide (ops.toList.map (·.dst)).Nodup &&
  (List.range ops.size).all (fun i => match ops[i]? with | some o => o.after.all (fun e => decide (e.on < i)) | none => true)
/-- o waits for the operation that yields the slot k. -/
def waitsFor (ops : Array Oper) (o : Oper) (k : Nat) : Bool := o.after.any (fun e => Region.binds .any e && (match ops[e.on]? with | some x => x.dst == some k | none => false))
/-- No operation yields the slot k. -/
def untouched (ops : Array Oper) (k : Nat) : Bool := ops.toList.all (fun o => o.dst != some k)

structure UnderWay (ops : Array Oper) (Φ : Nat → Value → World → Prop) (S : World → Prop) (a0 : Act) (listed : Array Bool) (a : Act) (w : World) : Prop where
  lsz : listed.size = ops.size
  tsz : a.tmps.size = a0.tmps.size
  df : a.defers = a0.defers
  st : S w
  old : ∀ k, untouched ops k = true → held a k = held a0 k
  done : ∀ (i : Nat) (o : Oper) (d : Nat), ops[i]? = some o → listed.getD i false = true → o.dst = some d → Φ d (held a d) w
theorem count_set {l : List Bool} {i : Nat} (h : l[i]? = some false) : (l.set i true).count false + 1 = l.count false := by
  induction l generalizing i with
  | nil => simp at h
  | cons b l ih =>
    cases i with
    | zero => simp at h; subst h; simp
    | succ i =>
      simp only [List.getElem?_cons_succ] at h
      have := ih h
      simp only [List.set_cons_succ, List.count_cons]
      omega

theorem wp_region_known {id : Nat} {a0 : Act} {w0 : World} (hm : P.follows .mixedOrders = true) (Φ : Nat → Value → World → Prop) (R : World → World → Prop) (S : World → Prop)
    (hS : S w0.drew) (hSR : ∀ w w', S w → R w w' → S w') (hΦ : ∀ d v w w', Φ d v w → R w w' → Φ d v w') (hpl : plainOps ops a0.tmps.size = true)
    (hstep : EachOp (fun _ (o : Oper) => ∀ (a : Act) (w : World), S w → (∀ k, untouched ops k = true → held a k = held a0 k) → (∀ k, waitsFor ops o k = true → Φ k (held a k) w) →
      o.wp P a w (fun a' w' => ∃ v, a' = a.put o.dst v ∧ R w w' ∧ ∀ d, o.dst = some d → Φ d v w') Q) 0 ops.toList)
    (hend : ∀ a w, a.tmps.size = a0.tmps.size → a.defers = a0.defers → S w → (∀ k, untouched ops k = true → held a k = held a0 k) → (∀ (i : Nat) (o : Oper) (d : Nat), ops[i]? = some o → o.dst = some d → Φ d (held a d) w) → Q .normal a w) :
    (Code.region id ops true).wp P Q a0 w0 := by
  simp only [plainOps, Bool.and_eq_true, List.all_eq_true, decide_eq_true_eq] at hpl
  obtain ⟨⟨hp1, hp2⟩, hp3⟩ := hpl
  have hmem : ∀ {i : Nat} {o : Oper}, ops[i]? = some o → o ∈ ops.toList := fun {i o} h => by
    rw [← Array.getElem?_toList] at h
    exact List.mem_of_getElem? h
  have hdst : ∀ {i : Nat} {o : Oper}, ops[i]? = some o → o.guard = none ∧ ∃ d, o.dst = some d ∧ d < a0.tmps.size := fun {i o} h => by
    have h1 := hp1 o (hmem h)
    simp only [Option.isNone_iff_eq_none] at h1
    refine ⟨h1.1, ?_⟩
    have h2 := h1.2
    split at h2
    · rename_i d hd; exact ⟨d, hd, of_decide_eq_true h2⟩
    · cases h2
  have hinj : ∀ {i j : Nat} {oi oj : Oper} {d : Nat}, ops[i]? = some oi → ops[j]? = some oj → oi.dst = some d → oj.dst = some d → i = j := fun {i j oi oj d} hi hj h1 h2 => by
    have e1 : (ops.toList.map (·.dst))[i]? = some (some d) := by rw [List.getElem?_map, Array.getElem?_toList, hi]; simp [h1]
    have e2 : (ops.toList.map (·.dst))[j]? = some (some d) := by rw [List.getElem?_map, Array.getElem?_toList, hj]; simp [h2]
    obtain ⟨l1, g1⟩ := List.getElem?_eq_some_iff.1 e1
    obtain ⟨l2, g2⟩ := List.getElem?_eq_some_iff.1 e2
    rcases Nat.lt_trichotomy i j with h | h | h
    · exact absurd (g1.trans g2.symm) (List.pairwise_iff_getElem.1 hp2 i j l1 l2 h)
    · exact h
    · exact absurd (g2.trans g1.symm) (List.pairwise_iff_getElem.1 hp2 j i l2 l1 h)
  have hfw : ∀ {i : Nat} {o : Oper}, ops[i]? = some o → ∀ e ∈ o.after, e.on < i := fun {i o} h e he => by
    have hlt : i < ops.size := (Array.getElem?_eq_some_iff.1 h).1
    have h1 := hp3 i (List.mem_range.2 hlt)
    rw [h] at h1
    simp only [Array.all_eq_true_iff_forall_mem, decide_eq_true_eq] at h1
    exact h1 e he
  have hw : ∀ {o : Oper} {k : Nat}, waitsFor ops o k = true → ∃ e ∈ o.after, Region.binds .any e = true ∧ ∃ x, ops[e.on]? = some x ∧ x.dst = some k := fun {o k} h => by
    unfold waitsFor at h
    obtain ⟨e, he, h1⟩ := Array.any_eq_true'.1 h
    simp only [Bool.and_eq_true] at h1
    obtain ⟨hb, h2⟩ := h1
    split at h2
    · rename_i x hx; exact ⟨e, he, hb, x, hx, by simpa using h2⟩
    · cases h2
  have hunt : ∀ {k i : Nat} {o : Oper} {d : Nat}, untouched ops k = true → ops[i]? = some o → o.dst = some d → d ≠ k := fun {k i o d} h hi hd e => by
    have := List.all_eq_true.1 h o (hmem hi)
    rw [hd, e] at this
    simp at this
  refine wp_region_any hm ?_
  have key : ∀ (fuel : Nat) (listed : Array Bool) (a : Act) (w : World), listed.toList.count false ≤ fuel → UnderWay ops Φ S a0 listed a w → wpAny P .any ops Q fuel listed a w := by
    intro fuel
    have fin : ∀ (listed : Array Bool) (a : Act) (w : World), UnderWay ops Φ S a0 listed a w → Region.ready .any ops listed = [] → Q .normal a w := by
      intro listed a w h hr
      have hall : ∀ i o, ops[i]? = some o → listed.getD i false = true := by
        intro i
        induction i using Nat.strongRecOn with
        | ind i ih =>
          intro o ho
          have hlt : i < ops.size := (Array.getElem?_eq_some_iff.1 ho).1
          have hll : i < listed.size := by rw [h.lsz]; exact hlt
          cases hb : listed.getD i false
          · exfalso
            have : i ∈ Region.ready .any ops listed := by
              rw [mem_ready]
              refine ⟨by simp [hll] at hb ⊢; exact hb, o, ho, fun e he _ => ?_⟩
              have hlt2 := hfw ho e he
              have hx : e.on < ops.size := by omega
              exact ih e.on hlt2 ops[e.on] (Array.getElem?_eq_getElem hx)
            rw [hr] at this
            cases this
          · rfl
      exact hend a w h.tsz h.df h.st h.old (fun i o d ho hd => h.done i o d ho (hall i o ho) hd)
    have hfl : ∀ {listed : Array Bool} {i : Nat}, listed.getD i true = false → listed.toList[i]? = some false := fun {listed i} h => by
      rcases Nat.lt_or_ge i listed.size with h' | h'
      · simp [h'] at h
        rw [Array.getElem?_toList, Array.getElem?_eq_getElem h', h]
      · simp [Array.getElem?_eq_none h'] at h
    induction fuel with
    | zero =>
      intro listed a w hc h
      have hr : Region.ready .any ops listed = [] := by
        cases hr : Region.ready .any ops listed with
        | nil => rfl
        | cons i rs =>
          have hi : i ∈ Region.ready .any ops listed := by rw [hr]; simp
          have := count_set (hfl (mem_ready.1 hi).1)
          omega
      exact ⟨hr, fin listed a w h hr⟩
    | succ fuel ih =>
      intro listed a w hc h
      refine ⟨fin listed a w h, fun i hi => ?_⟩
      obtain ⟨hl, o, ho, hdep⟩ := mem_ready.1 hi
      obtain ⟨hg, d, hd, hdl⟩ := hdst ho
      have hst := (EachOp.at hstep i o (by rw [Array.getElem?_toList]; exact ho)) a w h.st h.old (fun k hk => by
        obtain ⟨e, he, hb, x, hx, hxk⟩ := hw hk
        exact h.done e.on x k hx (hdep e he hb) hxk)
      unfold wpOp
      simp only [ho, Region.wanted, hg, if_true]
      refine .inl (Oper.wp_mono ?_ hst)
      rintro a' w' ⟨v, rfl, hR, hv⟩
      rw [hd]
      have hlt : i < listed.size := by
        rcases Nat.lt_or_ge i listed.size with h' | h'
        · exact h'
        · simp [Array.getElem?_eq_none h'] at hl
      refine ih _ _ _ ?_ ⟨by simp [h.lsz], by rw [put_size, h.tsz], by rw [put_defers, h.df], hSR _ _ h.st hR, fun k hk => ?_, fun j x k hx hj hxk => ?_⟩
      · have := count_set (hfl hl)
        simp only [Array.toList_setIfInBounds]
        omega
      · rw [held_ne _ _ _ _ (hunt hk ho hd)]
        exact h.old k hk
      · by_cases e : i = j
        · subst e
          rw [ho] at hx
          cases hx
          rw [hd] at hxk
          cases hxk
          rw [held_same _ _ _ (by rw [h.tsz]; exact hdl)]
          exact hv _ hd
        · have hne : d ≠ k := fun e' => e (hinj ho hx hd (e' ▸ hxk))
          rw [held_ne _ _ _ _ hne]
          exact hΦ _ _ _ _ (h.done j x k hx (by rw [getD_set_ne false e] at hj; exact hj) hxk) hR
  refine key _ _ _ _ ?_ ⟨by simp, rfl, rfl, hS, fun _ _ => rfl, fun i o d ho hl => ?_⟩
  · simp
  · exfalso
    rcases Nat.lt_or_ge i ops.size with h' | h'
    · simp [h'] at hl
    · simp [h'] at hl
end
end Go.Proofs.YtdhidcoglioalaaGreat.Walks
