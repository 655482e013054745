/-
  Plain mathematics of a disk's clients: what each call does to one, and what comes of it; no program in sight.
  Bytes in memory: slices.Clone, bytes.Equal, EqBytes of them; tagged lists.
-/
import Derived.Test.YtldcpnabgpjgiaaPlainC
import Derived.Test.YtldcpnabgpjgiaaCrewE
import Derived.Laws.BytesArg
import Derived.Lib.SliceRun
namespace Go.Proofs.Ytldcpnabgpjgiaa.Plain
set_option linter.unusedVariables false

/-- A wish; an answer. -/
structure Wi where
  client : Int
  stamp : Int
  group : Int
  epoch : Int
  kind : Int
  block : Int
  data : List Int
  old : Int
  new : Int
structure An where
  err : Int
  data : List Int
  ep : Int
  nodes : List Int
theorem An.ext' {a b : An} (h1 : a.err = b.err) (h2 : a.data = b.data) (h3 : a.ep = b.ep) (h4 : a.nodes = b.nodes) : a = b := by
  cases a; cases b; simp_all
instance : DecidableEq An := fun a b =>
  if h : a.err = b.err ∧ a.data = b.data ∧ a.ep = b.ep ∧ a.nodes = b.nodes then isTrue (An.ext' h.1 h.2.1 h.2.2.1 h.2.2.2)
  else isFalse (fun e => h (by subst e; exact ⟨rfl, rfl, rfl, rfl⟩))
def Wi.zero : Wi := ⟨0, 0, 0, 0, 0, 0, [], 0, 0⟩
def An.zero : An := ⟨0, [], 0, []⟩

/-- A client: its map of chunks, its call, to whom what is said, the answers that count. Its directory is always the four nodes 1 to 4. -/
structure Cl where
  name : Int
  chunks : Int
  maps : Int → Option (List Int × Int)
  stamp : Int
  calls : Int
  way : Int
  call : Wi
  own : Int
  crew : List Int
  kind : Int
  wish : Wi
  ans : Int → Option An
/-- What comes of something. -/
structure Ou where
  to : List Int
  note : Option (Int × Int × Wi)
  began : Bool
  done : Bool
  call : Wi
  ans : An
def Ou.zero : Ou := ⟨[], none, false, false, .zero, .zero⟩
def dirL : List Int := [1, 2, 3, 4]

/-- A note that is taken: the fields that are looked at. -/
structure No where
  kind : Int
  fr : Int
  group : Int
  epoch : Int
  ans : An
  stamp : Int
  node : Int

def upF {α : Type} (f : Int → Option α) (k : Int) (v : Option α) : Int → Option α := fun x => if x = k then v else f x
def chunkC (c : Cl) : Int := if c.call.kind = 4 then c.call.block else c.call.group
def nextC (c : Cl) : Cl := { c with stamp := c.stamp + 1 }
def ownC (c : Cl) : Cl := if c.own = 0 then { c with stamp := c.stamp + 1, own := c.stamp + 1 } else c
def wishC (c : Cl) (epoch : Int) : Wi := { c.call with stamp := c.own, epoch := epoch }
def sayC (c : Cl) (how kind : Int) (to : List Int) (w : Wi) : Cl := { c with way := how, crew := to, kind := kind, wish := w, ans := fun _ => none }
def againO (c : Cl) (o : Ou) : Ou := { o with to := c.crew, note := some (c.kind, c.name, c.wish) }
def askC (c : Cl) : Cl := sayC (nextC c) 1 1 dirL ⟨c.name, c.stamp + 1, 0, 0, 3, chunkC c, [], 0, 0⟩
def lookC (c : Cl) (m : List Int × Int) : Cl := sayC (ownC c) 2 14 m.1 (wishC (ownC c) m.2)
def orderC (c : Cl) (m : List Int × Int) : Cl := sayC (ownC c) 3 1 m.1 (wishC (ownC c) m.2)
/-- To whom an order goes. -/
def placeC (c : Cl) : List Int × Int := if c.call.kind = 4 then (dirL, 0) else (c.maps (chunkC c)).getD ([], 0)
def onC (c : Cl) : Cl :=
  if c.call.kind = 4 then orderC c (placeC c)
  else if (c.maps (chunkC c)).isSome then (if c.call.kind = 1 then lookC c (placeC c) else orderC c (placeC c))
  else askC c
def beginC (c : Cl) (w : Wi) : Cl := onC { c with calls := c.calls + 1, call := { w with client := c.name, stamp := c.calls + 1 }, own := 0 }
def beginO (c : Cl) (w : Wi) : Ou := againO (beginC c w) { Ou.zero with began := true, call := { w with client := c.name, stamp := c.calls + 1 } }
def doneC (c : Cl) : Cl := { c with maps := if c.call.kind = 4 then upF c.maps c.call.block none else c.maps, way := 0 }
def doneO (c : Cl) (o : Ou) (a : An) : Ou := { o with done := true, call := c.call, ans := a }
def toldB (a : An) : Bool := decide (a.err = 0) && goodC 1 a.nodes
def knowC (c : Cl) (a : An) : Cl := { c with maps := upF c.maps (chunkC c) (some (a.nodes, a.ep)) }
def forgetC (c : Cl) : Cl := { c with maps := upF c.maps (chunkC c) none }
def toldC (c : Cl) (a : An) : Cl := if toldB a then onC (knowC c a) else doneC c
def toldO (c : Cl) (o : Ou) (a : An) : Ou := if toldB a then againO (onC (knowC c a)) o else doneO c o a
/-- How many gave an answer; how many gave any; how many the one that most gave. -/
def cntA (l : List Int) (f : Int → Option An) (a : An) : Nat := (l.filter fun k => decide (f k = some a)).length
def lenA (l : List Int) (f : Int → Option An) : Nat := (l.filter fun k => (f k).isSome).length
def oneA (l : List Int) (f : Int → Option An) (k : Int) : Nat := match f k with
  | some x => cntA l f x
  | none => 0
def bestA (l : List Int) (f : Int → Option An) : Nat := l.foldr (fun k r => max (oneA l f k) r) 0
/-- What counting comes to: 0 nothing, 1 the directory has told, 2 another epoch is told, 3 done, 4 it is wished in order. -/
def countB (c : Cl) (a : An) : Int :=
  if c.way = 1 then (if 2 ≤ cntA c.crew c.ans a then 1 else 0)
  else if 2 ≤ cntA c.crew c.ans a ∧ c.call.kind ≠ 4 ∧ a.err = 171 then 2
  else if 3 ≤ cntA c.crew c.ans a ∨ 2 ≤ cntA c.crew c.ans a ∧ c.call.kind = 4 then 3
  else if c.way = 2 ∧ bestA c.crew c.ans + c.crew.length < 3 + lenA c.crew c.ans then 4
  else 0
def countC (c : Cl) (a : An) : Cl :=
  if countB c a = 1 then toldC c a else if countB c a = 2 then onC (forgetC c) else if countB c a = 3 then doneC c else if countB c a = 4 then orderC c (placeC c) else c
def countO (c : Cl) (o : Ou) (a : An) : Ou :=
  if countB c a = 1 then toldO c o a else if countB c a = 2 then againO (onC (forgetC c)) o else if countB c a = 3 then doneO c o a else if countB c a = 4 then againO (orderC c (placeC c)) o else o
def heardB (c : Cl) (n : No) : Bool := (!decide (c.way = 0) && decide (n.kind = 2) && decide (n.node = c.name) && hasC 1 c.crew n.fr) && (decide (n.stamp = c.wish.stamp) && decide (n.group = c.wish.group) && decide (n.epoch = c.wish.epoch))
def hearC (c : Cl) (n : No) : Cl := { c with ans := upF c.ans n.fr (some n.ans) }
def takeC (c : Cl) (n : No) : Cl := if heardB c n then countC (hearC c n) n.ans else c
def takeO (c : Cl) (n : No) : Ou := if heardB c n then countO (hearC c n) Ou.zero n.ans else Ou.zero
def fireC (c : Cl) : Cl := if c.way = 2 then orderC c (placeC c) else c
def fireO (c : Cl) : Ou := if c.way = 0 then Ou.zero else againO (fireC c) Ou.zero

/-- What holds of a client at all times. -/
structure Fit (c : Cl) : Prop where
  name : 31 ≤ c.name ∧ c.name ≤ 34
  stamp : 0 ≤ c.stamp ∧ c.stamp ≤ 1000000
  calls : 0 ≤ c.calls ∧ c.calls ≤ 1000000
  own : 0 ≤ c.own ∧ c.own ≤ 1000000
  maps : ∀ k m, c.maps k = some m → goodC 1 m.1 = true
  crew : c.way ≠ 0 → goodC 1 c.crew = true
  keys : ∀ k a, c.ans k = some a → k ∈ c.crew
  way : c.way = 2 → c.call.kind = 4 ∨ (c.maps (chunkC c)).isSome = true
  data : c.call.data.length ≤ 1000000 ∧ c.wish.data.length ≤ 1000000
  kind : 0 ≤ c.call.kind ∧ c.call.kind ≤ 9
  chunk : -9223372036854775808 ≤ chunkC c ∧ chunkC c ≤ 9223372036854775807
end Go.Proofs.Ytldcpnabgpjgiaa.Plain
namespace Go.Proofs.Ytldcpnabgpjgiaa.Walks
open Go.RowKit Plain
set_option linter.unusedVariables false

/-- A list of numbers of a kind lies in a block of its own type. -/
def TL (t : TypeId) (k : IntKind) (w : World) (a : Option Addr) (l : List Int) : Prop :=
  l.length ≤ 1000000 ∧ (l = [] ∨ ∃ b off cur fz, a = some ⟨b, off, none⟩ ∧ w.heap[b]? = some (.cells cur t fz) ∧ ∀ i (h : i < l.length), cur[off + i]? = some (.int k l[i]))
abbrev IL := TL 3 .i64
/-- Bytes. -/
def BL (w : World) (a : Option Addr) (l : List Int) : Prop := TL 5 .u8 w a l ∧ ∀ x ∈ l, 0 ≤ x ∧ x ≤ 255
theorem TL.nil {t : TypeId} {k : IntKind} (w : World) (a : Option Addr) : TL t k w a [] := ⟨by simp, .inl rfl⟩
theorem TL.same {t : TypeId} {k : IntKind} {w w' : World} {a : Option Addr} {l : List Int} (h : TL t k w a l) (hb : ∀ (b : Nat) (cur : Array Value) (fz : Nat × Nat), w.heap[b]? = some (Obj.cells cur t fz) → w'.heap[b]? = some (Obj.cells cur t fz)) : TL t k w' a l := by
  refine ⟨h.1, h.2.imp id ?_⟩
  rintro ⟨b, off, cur, fz, e, h1, h2⟩
  exact ⟨b, off, cur, fz, e, hb _ _ _ h1, h2⟩
theorem TL.below {t : TypeId} {k : IntKind} {w w' : World} {a : Option Addr} {l : List Int} (h : TL t k w a l) (hb : Below w.heap.size w w') : TL t k w' a l :=
  h.same fun b cur fz hc => (hb.block b (lt_of_heap hc)).trans hc
theorem TL.at_lt {t : TypeId} {k : IntKind} {w : World} {a : Option Addr} {l : List Int} (h : TL t k w a l) {i : Nat} (hi : i < l.length) :
    ∃ b off, a = some ⟨b, off, none⟩ ∧ b < w.heap.size ∧ ∀ i (h : i < l.length), w.cell? ⟨b, off + i, none⟩ = some (.int k l[i]) := by
  rcases h.2 with rfl | ⟨b, off, cur, fz, e, h1, h2⟩
  · simp at hi
  · exact ⟨b, off, e, lt_of_heap h1, fun i hi => by rw [cell_of_row _ _ _ _ _ _ h1]; exact h2 i hi⟩
theorem TL.ints {w : World} {a : Option Addr} {l : List Int} (h : IL w a l) : Ints w a l := by
  refine ⟨by have := h.1; omega, ?_⟩
  by_cases h0 : l = []
  · exact .inl h0
  · obtain ⟨b, off, e, _, hc⟩ := h.at_lt (i := 0) (List.length_pos_iff.2 h0)
    exact .inr ⟨b, off, e, hc⟩
theorem BL.below {w w' : World} {a : Option Addr} {l : List Int} (h : BL w a l) (hb : Below w.heap.size w w') : BL w' a l := ⟨h.1.below hb, h.2⟩
theorem BL.nil (w : World) (a : Option Addr) : BL w a [] := ⟨TL.nil _ _, by simp⟩
theorem Own.il {w : World} {base : Nat} {a : Option Addr} {l : List Int} {cap : Nat} (h : Own w base a l cap) (hm : l.length ≤ 1000000) : IL w a l := by
  refine ⟨hm, ?_⟩
  by_cases h0 : l = []
  · exact .inl h0
  · obtain ⟨g, cur, e, _, hg, _, _, _, ht⟩ := h.len_pos_some (List.length_pos_iff.2 h0)
    refine .inr ⟨g, 0, cur, _, e, hg, fun i hi => ?_⟩
    have := congrArg (fun z => z[i]?) ht
    simp only [List.getElem?_take, hi, if_true, List.getElem?_map, List.getElem?_eq_getElem hi, Option.map_some] at this
    rw [Nat.zero_add, ← Array.getElem?_toList]
    exact this
/-- A slice of bytes in memory of the call's own. -/
abbrev OwnB (w : World) (base : Nat) (a : Option Addr) (l : List Int) (cap : Nat) : Prop := w.ownsRow base 5 1 (.slice a l.length cap) l.length (l.map (Value.int .u8))
theorem OwnB.bl {w : World} {base : Nat} {a : Option Addr} {l : List Int} {cap : Nat} (h : OwnB w base a l cap) (hm : l.length ≤ 1000000) (hr : ∀ x ∈ l, 0 ≤ x ∧ x ≤ 255) : BL w a l := by
  refine ⟨⟨hm, ?_⟩, hr⟩
  by_cases h0 : l = []
  · exact .inl h0
  · obtain ⟨_, ⟨h1, h2⟩ | ⟨g, cap', cur, h1, hb, hg, hc, hmx, hs, ht⟩⟩ := h
    · exact absurd (List.eq_nil_of_length_eq_zero h2) h0
    · simp only [Value.slice.injEq] at h1
      obtain ⟨rfl, _, rfl⟩ := h1
      refine .inr ⟨g, 0, cur, _, rfl, hg, fun i hi => ?_⟩
      have ht' : cur.toList.take l.length = l.map (Value.int .u8) := by simpa using ht
      have := congrArg (fun z => z[i]?) ht'
      simp only [List.getElem?_take, hi, if_true, List.getElem?_map, List.getElem?_eq_getElem hi, Option.map_some] at this
      rw [Nat.zero_add, ← Array.getElem?_toList]
      exact this
theorem OwnB.nocap {w : World} {base : Nat} {a : Option Addr} {l : List Int} {cap : Nat} (h : OwnB w base a l cap) : a = none → cap = 0 := by
  obtain ⟨_, ⟨h1, h0⟩ | ⟨g, cap', cur, h1, hb, _, hc, _⟩⟩ := h
  · simp only [Value.slice.injEq] at h1; exact fun _ => h1.2.2
  · simp only [Value.slice.injEq] at h1; rw [h1.1]; intro h; cases h

theorem info5 : (Try.prog.info? 5).map (fun i => (i.zero, i.size, i.bytes)) = some (some (.int .u8 0), 1, 1) := by kernel_rfl
theorem news_bytes {w : World} {ad : Addr} {l : List Int} (h : TL 5 .u8 w (some ad) l) : ∀ j u, (l.map (Value.int .u8))[j]? = some u → w.cell? (ad.add j) = some u := by
  intro j u hj
  have hj' : j < l.length := by
    have := (List.getElem?_eq_some_iff.1 hj).1
    simpa using this
  obtain ⟨b, off, hh, _, hc⟩ := h.at_lt hj'
  cases hh
  rw [List.getElem?_map, List.getElem?_eq_getElem hj'] at hj
  simp at hj
  subst hj
  rw [Addr.add_mid]
  exact hc j hj'
theorem bytes_one (l : List Int) : ∀ u ∈ l.map (Value.int .u8), u.oneCell' = true := by
  intro u hu; simp at hu; obtain ⟨c, _, rfl⟩ := hu; rfl
/-- append(v, l...), v the call's own and empty. -/
theorem wp_append_bytes {w : World} {ops : Array Oper} {rest : List Oper} {o : Oper} {a : Act} {Q : Exit → Act → World → Prop} (hgd : o.guard = none) (s x : Operand)
    (ho : o.op = .call { callee := .builtin .append, args := #[s, x], argTypes := #[70, 70] }) (base : Nat) (v : Value) (hs : a.eval s = v) (hown : w.ownsRow base 5 1 v 0 [])
    (ad : Addr) (c : Nat) (l : List Int) (n : Nat) (hln : l.length = n) (hx : a.eval x = .slice (some ad) n c) (hB : TL 5 .u8 w (some ad) l) (hbase : base ≤ w.heap.size)
    (h : ∀ a' cap' w', OwnB w' base a' l cap' → w.grownBy w' v.ownBlock → wpList Try.prog ops Q rest (a.put o.dst (.slice a' n cap')) w') : wpList Try.prog ops Q (o :: rest) a w := by
  obtain ⟨i0, hi, hz0, hz1, hz2⟩ := info_parts info5
  subst hln
  have hm := hB.1
  refine wpList_append_own w hgd s x 70 ho base 5 i0 (.int .u8 0) 1 1 Try.underlying70 hi hz0 hz1 hz2 rfl (by decide) v 0 [] hs hown ad l.length c (l.map (Value.int .u8)) hx (by simp) (news_bytes hB) (bytes_one _)
      (by unfold maxLen; omega) (by omega) hbase ?_
  intro v' w' h1 h2 h3
  rw [List.nil_append, Nat.zero_add] at h1
  have h1' := h1
  obtain ⟨_, ⟨e, h0⟩ | ⟨g, cap', cur, e, _⟩⟩ := h1'
  · subst e
    have := h none 0 w' (by rw [OwnB, h0]; rw [h0] at h1; exact h1) h2
    rw [h0] at this
    exact this
  · subst e
    exact h _ _ w' h1 h2
theorem nil70 : ∀ (w : World) (a : Option Addr) (l c : Nat), (binOp .eql 70 (.slice a l c) (.slice none 0 0)).run Try.prog w = .ok (.bool a.isNone) w := fun w a l c => Lib.run_eql_slice_nil w 70 5 a l c 0 0 Try.underlying70
theorem ownsRowB_empty (w : World) : (w.alloc (.cells #[] 5)).ownsRow w.heap.size 5 1 (.slice (some ⟨w.heap.size, 0, none⟩) 0 0) 0 [] :=
  ⟨by simp, .inr ⟨w.heap.size, 0, #[], rfl, Nat.le_refl _, heap_alloc_new _ _, Nat.le_refl _, by unfold maxLen; omega, rfl, rfl⟩⟩
def CloneB (l : List Int) (w : World) (e : Ending) (w' : World) : Prop := ∃ a' cap', e = .returned (.slice a' l.length cap') ∧ BL w' a' l ∧ (a' = none → cap' = 0) ∧ Below w.heap.size w w'
theorem cloneB_any (a : Option Addr) (cap : Nat) (l : List Int) (w : World) (hI : BL w a l) (hn : a = none → cap = 0) :
    Calls Try.prog 103 #[.slice a l.length cap] w (CloneB l w) := by
  have hm := hI.1.1
  have hr := hI.2
  rcases Option.eq_none_or_eq_some a with rfl | ⟨ad, rfl⟩
  · have hc := hn rfl
    subst hc
    have hl : l = [] := by
      rcases hI.1.2 with h | ⟨b, off, _, _, h, _⟩
      · exact h
      · cases h
    subst hl
    clear hI hn hr
    have hnil := nil70
    go_enter Try.func103, Try.ntmps103
    go_wp2
    go_ret
    exact ⟨none, 0, rfl, BL.nil _ _, fun _ => rfl, Below.refl _ _⟩
  · have HI := Lib.hid hI
    have HR := Lib.hid hr
    clear hI hn hr
    have hnil := nil70
    go_enter Try.func103, Try.ntmps103
    go_wp2_with (first | (at_builtin; go_loud (refine wp_append_bytes rfl (.tmp 5) (.tmp 6) rfl w.heap.size _ rfl (ownsRowB_empty w) ad cap l l.length rfl rfl (HI.out.1.below (Below.new _ _)) (by simp) ?_)))
    intro a' cap' w' hown hg
    have HO := Lib.hid hown
    have HG := Lib.hid hg
    clear hown hg
    go_wp2
    go_ret
    exact ⟨a', cap', rfl, HO.out.bl hm HR.out, HO.out.nocap, ((Below.new w _).grown HG.out (by simp) (by intro k hk; cases hk; exact Nat.le_refl _))⟩
theorem conv_bytes {w : World} {a : Option Addr} {l : List Int} (cap : Nat) (h : TL 5 .u8 w a l) : (convert 70 9 (.slice a l.length cap)).run Try.prog w = .ok (.string (strOfNums l)) w := by
  by_cases h0 : l = []
  · subst h0
    cases a with
    | none => exact run_convert_bytes_nil w 70 5 Try.underlying70 Try.underlying5 0 cap 9 Try.underlying9
    | some ad =>
      have hl : (loadCells ad 0).run Try.prog w = .ok (([] : List Int).map (Value.int .u8)).toArray w := by
        have := run_loadCells_list (P := Try.prog) w ad (([] : List Int).map (Value.int .u8)) (fun j v hj => by simp at hj)
        simpa using this
      show (convert 70 9 (.slice (some ad) 0 cap)).run Try.prog w = _
      rw [run_convert_bytes_string w 70 9 5 _ _ cap Try.underlying70 Try.underlying5 Try.underlying9, run_bytesToString w _ _ cap [] hl]
      rfl
  · obtain ⟨b, off, rfl, _, hc⟩ := h.at_lt (i := 0) (List.length_pos_iff.2 h0)
    exact run_convert_bytes_arg w 70 5 Try.underlying70 Try.underlying5 b off l.length cap l rfl (fun i hi => by rw [hc i hi]; simp [List.getD, List.getElem?_eq_getElem hi]) 9 Try.underlying9
theorem str_inj : ∀ {l l' : List Int}, (∀ x ∈ l, 0 ≤ x ∧ x ≤ 255) → (∀ x ∈ l', 0 ≤ x ∧ x ≤ 255) → (l.map fun n => UInt8.ofNat n.toNat) = (l'.map fun n => UInt8.ofNat n.toNat) → l = l'
  | [], [], _, _, _ => rfl
  | [], _ :: _, _, _, h => by simp at h
  | _ :: _, [], _, _, h => by simp at h
  | x :: l, y :: l', h1, h2, h => by
    simp only [List.map_cons, List.cons.injEq] at h
    have hx := h1 x (by simp)
    have hy := h2 y (by simp)
    have e : x = y := by
      have := congrArg UInt8.toNat h.1
      simp only [UInt8.toNat_ofNat'] at this
      omega
    rw [e, str_inj (fun z hz => h1 z (by simp [hz])) (fun z hz => h2 z (by simp [hz])) h.2]
theorem strs_eq {l l' : List Int} (h1 : ∀ x ∈ l, 0 ≤ x ∧ x ≤ 255) (h2 : ∀ x ∈ l', 0 ≤ x ∧ x ≤ 255) : (l.map fun n => UInt8.ofNat n.toNat) = (l'.map fun n => UInt8.ofNat n.toNat) ↔ l = l' :=
  ⟨str_inj h1 h2, fun h => by rw [h]⟩
theorem equalB_any (a a' : Option Addr) (cap cap' : Nat) (l l' : List Int) (w : World) (hB : BL w a l) (hB' : BL w a' l') :
    Calls Try.prog 128 #[.slice a l.length cap, .slice a' l'.length cap'] w fun e w' => e = .returned (.bool (decide (l = l'))) ∧ w = w' := by
  have c1 := conv_bytes cap hB.1
  have c2 := conv_bytes cap' hB'.1
  have HS := Lib.hid (strs_eq hB.2 hB'.2)
  clear hB hB'
  go_enter Try.func128, Try.ntmps128
  go_wp2
  go_ret
  refine ⟨ret_bool ?_, rfl⟩
  rw [ByteArray.toList_eq, ByteArray.toList_eq, strOfNums_data, strOfNums_data, Bool.eq_iff_iff, beq_iff_eq, decide_eq_true_eq]
  exact HS.out

set_option maxHeartbeats 1000000 in
theorem eqBytes_any (a a' : Option Addr) (cap cap' : Nat) (l l' : List Int) (w : World) (hB : TL 5 .u8 w a l) (hB' : TL 5 .u8 w a' l') :
    Calls Try.prog 98 #[.slice a l.length cap, .slice a' l'.length cap'] w fun e w' => e = .returned (.bool (decide (l = l'))) ∧ Below w.heap.size w w' := by
  by_cases hlen : l.length = l'.length
  · have hm := hB.1
    have H := Lib.hid hB
    have H' := Lib.hid hB'
    obtain ⟨n, hn⟩ : ∃ n, n = l.length := ⟨_, rfl⟩
    have hn' : n = l'.length := by omega
    rw [← hn, ← hn']
    have e1 : l.length = n := by omega
    have e2 : l'.length = n := by omega
    have E1 := Lib.hid e1
    have E2 := Lib.hid e2
    have hm' : n ≤ 9223372036854775807 := by omega
    clear hB hB' hlen hn hn' e1 e2 hm
    go_enter Try.func98, Try.ntmps98
    go_wp2_with fail
    go_loopw [5] (fun i wr => ∃ k : Nat, k ≤ n ∧ i = .int .i64 k ∧ Hid (l.take k = l'.take k) ∧ Below w.heap.size w wr) (fun i _ => n - (intOf i).toNat)
    case atStart => exact ⟨0, by omega, rfl, Lib.hid (by simp), Below.refl _ _⟩
    case round =>
      obtain ⟨k, hk, rfl, HK, hb⟩ := hrel
      by_cases hlt : k < n
      · have hk1 : k < l.length := by rw [E1.out]; exact hlt
        have hk2 : k < l'.length := by rw [E2.out]; exact hlt
        obtain ⟨b, off, rfl, hb0, hc⟩ := H.out.at_lt hk1
        obtain ⟨b', off', rfl, hb0', hc'⟩ := H'.out.at_lt hk2
        obtain ⟨x, hx⟩ : ∃ x, x = l[k] := ⟨_, rfl⟩
        obtain ⟨y, hy⟩ : ∃ y, y = l'[k] := ⟨_, rfl⟩
        have hcell : wr.cell? ⟨b, off + k, none⟩ = some (.int .u8 x) := by rw [hx]; exact (hb.cell (by exact hb0)).trans (hc k hk1)
        have hcell' : wr.cell? ⟨b', off' + k, none⟩ = some (.int .u8 y) := by rw [hy]; exact (hb.cell (by exact hb0')).trans (hc' k hk2)
        have HX := Lib.hid hx
        have HY := Lib.hid hy
        have HK1 := Lib.hid hk1
        have HK2 := Lib.hid hk2
        clear hc hc' hx hy
        by_cases hxy : x = y
        · have hq : (x != y) = false := by simp [hxy]
          have HXY := Lib.hid hxy
          clear hxy
          go_wp2_with fail
          go_quiet (fail)
          go_wp2
          go_roundw
          case rel => exact ⟨k + 1, by omega, by go_num, Lib.hid (by rw [List.take_succ_eq_append_getElem HK1.out, List.take_succ_eq_append_getElem HK2.out, HK.out, ← HX.out, ← HY.out, HXY.out]), below_drewN hb _⟩
          case measure => simp [intOf]; omega
        · have hq : (x != y) = true := by simp [hxy]
          have HXY := Lib.hid hxy
          clear hxy
          go_wp2_with fail
          go_quiet (fail)
          go_wp2
          go_ret
          refine ⟨ret_bool ?_, below_drewN hb _⟩
          rw [eq_comm, decide_eq_false_iff_not]
          rintro rfl
          exact HXY.out (HX.out.trans HY.out.symm)
      · go_wp2
        go_ret
        refine ⟨ret_bool ?_, hb⟩
        have := HK.out
        rw [List.take_of_length_le (by rw [E1.out]; omega), List.take_of_length_le (by rw [E2.out]; omega)] at this
        rw [eq_comm, decide_eq_true_eq]; exact this
  · have hq : ((l.length : Int) != (l'.length : Int)) = true := by simp; omega
    have HL := Lib.hid hlen
    clear hlen hB hB'
    go_enter Try.func98, Try.ntmps98
    go_wp2
    go_ret
    refine ⟨ret_bool ?_, Below.refl _ _⟩
    rw [eq_comm, decide_eq_false_iff_not]
    rintro rfl
    exact HL.out rfl
end Go.Proofs.Ytldcpnabgpjgiaa.Walks
