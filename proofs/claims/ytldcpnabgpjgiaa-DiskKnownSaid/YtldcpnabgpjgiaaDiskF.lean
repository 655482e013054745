/-
  A client in memory; the walks of none, chunk, next, wish, Busy.
-/
import Derived.Test.YtldcpnabgpjgiaaDiskE
import Derived.Test.YtldcpnabgpjgiaaHandB
namespace Go.Proofs.Ytldcpnabgpjgiaa.Walks
open Go.RowKit Plain
set_option linter.unusedVariables false
attribute [local go_sem] isPV_mk adV_mk cells_agg cells_agg' held_drew room_drew cellsAt_drew isA4_mk isSl_mk isI_mk intOf_mk
attribute [local go_sem ↓] exec_load88 exec_store88 exec_load81 exec_store81 exec_load90 exec_store90 Go.wp_at_zero Go.wp_at_succ exec_alloc81 exec_build81r exec_build81s exec_bs69

/-- What a map of places holds; one of answers. -/
def PlaceV (w : World) (v : Option Value) : Option (List Int × Int) → Prop
  | none => v = none
  | some (l, e) => ∃ a c, v = some (.agg #[.int .i64 1, .slice a l.length c, .int .i64 e]) ∧ IL w a l ∧ (a = none → c = 0)
def AnsV (w : World) (v : Option Value) : Option An → Prop
  | none => v = none
  | some A => ∃ x, v = some x ∧ AnIn w x A
def MapM (w : World) (r N : Nat) (m : Int → Option (List Int × Int)) : Prop := ∃ F, VM w 3 r N F ∧ ∀ k, Wf k → PlaceV w (F (.int .i64 k)) (m k)
def MapA (w : World) (r N : Nat) (m : Int → Option An) : Prop := ∃ F, VM w 3 r N F ∧ ∀ k, Wf k → AnsV w (F (.int .i64 k)) (m k)
theorem PlaceV.keeps {w w' : World} (h : Keeps w w') {v : Option Value} : ∀ {m : Option (List Int × Int)}, PlaceV w v m → PlaceV w' v m
  | none, hn => hn
  | some (l, e), hn => by obtain ⟨a, c, e1, h1, h2⟩ := hn; exact ⟨a, c, e1, h.il h1, h2⟩
theorem AnIn.keeps {w w' : World} (hk : Keeps w w') {v : Value} {A : An} (h : AnIn w v A) : AnIn w' v A := by
  obtain ⟨da, dc, na, nc, e, ⟨h1, h2⟩, h3, h4⟩ := h
  exact ⟨da, dc, na, nc, e, ⟨hk.bl h1, h2⟩, hk.il h3, h4⟩
theorem AnsV.keeps {w w' : World} (h : Keeps w w') {v : Option Value} : ∀ {m : Option An}, AnsV w v m → AnsV w' v m
  | none, hn => hn
  | some A, hn => by obtain ⟨x, e, h1⟩ := hn; exact ⟨x, e, h1.keeps h⟩
theorem MapM.same {w w' : World} {r N : Nat} {m : Int → Option (List Int × Int)} (h : MapM w r N m) (hr : w'.heap[r]? = w.heap[r]?) (hk : Keeps w w') : MapM w' r N m := by
  obtain ⟨F, h1, h2⟩ := h; exact ⟨F, h1.block hr, fun k hw => (h2 k hw).keeps hk⟩
theorem MapA.same {w w' : World} {r N : Nat} {m : Int → Option An} (h : MapA w r N m) (hr : w'.heap[r]? = w.heap[r]?) (hk : Keeps w w') : MapA w' r N m := by
  obtain ⟨F, h1, h2⟩ := h; exact ⟨F, h1.block hr, fun k hw => (h2 k hw).keeps hk⟩
theorem MapM.lt {w : World} {r N : Nat} {m : Int → Option (List Int × Int)} (h : MapM w r N m) : r < w.heap.size := by obtain ⟨F, h1, _⟩ := h; exact h1.lt
theorem MapA.lt {w : World} {r N : Nat} {m : Int → Option An} (h : MapA w r N m) : r < w.heap.size := by obtain ⟨F, h1, _⟩ := h; exact h1.lt
theorem MapM.mono {w : World} {r N N' : Nat} {m : Int → Option (List Int × Int)} (h : MapM w r N m) (hn : N ≤ N') : MapM w r N' m := by obtain ⟨F, h1, h2⟩ := h; exact ⟨F, h1.mono hn, h2⟩
theorem MapA.mono {w : World} {r N N' : Nat} {m : Int → Option An} (h : MapA w r N m) (hn : N ≤ N') : MapA w r N' m := by obtain ⟨F, h1, h2⟩ := h; exact ⟨F, h1.mono hn, h2⟩
theorem VM.ne_blk {w : World} {k : TypeId} {r N : Nat} {F : Value → Option Value} (h : VM w k r N F) {g : Nat} {l : List Value} {t : TypeId} (hb : Blk w g l t) : r ≠ g := by
  rintro rfl
  obtain ⟨D, ⟨es, clock, h1, _⟩, _⟩ := h
  have hb' : w.heap[r]? = some (.cells l.toArray t (0, 0)) := hb
  rw [h1] at hb'
  cases hb'
theorem MapM.ne {w : World} {r N : Nat} {m : Int → Option (List Int × Int)} (h : MapM w r N m) {g : Nat} {l : List Value} {t : TypeId} (hb : Blk w g l t) : r ≠ g := by obtain ⟨F, h1, _⟩ := h; exact h1.ne_blk hb
theorem MapA.ne {w : World} {r N : Nat} {m : Int → Option An} (h : MapA w r N m) {g : Nat} {l : List Value} {t : TypeId} (hb : Blk w g l t) : r ≠ g := by obtain ⟨F, h1, _⟩ := h; exact h1.ne_blk hb
theorem Blk.ne {w : World} {g g' : Nat} {l l' : List Value} {t t' : TypeId} (h : Blk w g l t) (h' : Blk w g' l' t') (ht : t ≠ t') : g ≠ g' := by
  rintro rfl
  have h1 : w.heap[g]? = some (.cells l.toArray t (0, 0)) := h
  have h2 : w.heap[g]? = some (.cells l'.toArray t' (0, 0)) := h'
  rw [h1] at h2
  cases h2
  exact ht rfl

/-- A client's cells, up to what is said. -/
def cliP (c : Cl) (da : Option Addr) (dc r1 : Nat) (la : Option Addr) (lc : Nat) (cf cs : Value) : List Value :=
  [.int .i64 c.name, .int .i64 1, .slice da 4 dc, .int .i64 c.chunks, .map (some r1), .int .i64 c.stamp, .int .i64 c.calls, .int .i64 c.way,
   .int .i64 c.call.client, .int .i64 c.call.stamp, .int .i64 c.call.group, .int .i64 c.call.epoch, .int .i64 c.call.kind, .int .i64 c.call.block, .slice la c.call.data.length lc, .int .i64 c.call.old, .int .i64 c.call.new, .slice none 0 0,
   .int .i64 c.own, cf, cs]
def cliL (c : Cl) (da : Option Addr) (dc r1 : Nat) (la : Option Addr) (lc : Nat) (cf cs : Value) (said : List Value) (am : Value) : List Value := cliP c da dc r1 la lc cf cs ++ (said ++ [am])
/-- What holds while something is said. -/
def SaidM (w : World) (r1 r2 N : Nat) (c : Cl) (cf cs : Value) (said : List Value) (am : Value) : Prop :=
  (∃ ca cc, cf = .int .i64 1 ∧ cs = .slice ca c.crew.length cc ∧ IL w ca c.crew ∧ (ca = none → cc = 0)) ∧ NoteV w said (some (c.kind, c.name, c.wish)) ∧ am = .map (some r2) ∧ MapA w r2 N c.ans ∧ r1 ≠ r2
/-- All that a client's cells point to. -/
def CliM (w : World) (r1 r2 N : Nat) (c : Cl) (da : Option Addr) (dc : Nat) (la : Option Addr) (lc : Nat) (cf cs : Value) (said : List Value) (am : Value) : Prop :=
  said.length = 58 ∧ (IL w da dirL ∧ (da = none → dc = 0)) ∧ (BL w la c.call.data ∧ (la = none → lc = 0)) ∧ MapM w r1 N c.maps ∧ (c.way ≠ 0 → SaidM w r1 r2 N c cf cs said am)
def CliAt (w : World) (p r1 r2 N : Nat) (c : Cl) : Prop :=
  ∃ da dc la lc cf cs said am, Blk w p (cliL c da dc r1 la lc cf cs said am) 113 ∧ CliM w r1 r2 N c da dc la lc cf cs said am
theorem SaidM.same {w w' : World} {r1 r2 N : Nat} {c : Cl} {cf cs : Value} {said : List Value} {am : Value} (h : SaidM w r1 r2 N c cf cs said am) (hr : w'.heap[r2]? = w.heap[r2]?) (hk : Keeps w w') : SaidM w' r1 r2 N c cf cs said am := by
  obtain ⟨⟨ca, cc, e1, e2, h1, h2⟩, h3, h4, h5, h6⟩ := h
  exact ⟨⟨ca, cc, e1, e2, hk.il h1, h2⟩, h3.keeps hk, h4, h5.same hr hk, h6⟩
theorem CliM.same {w w' : World} {r1 r2 N : Nat} {c : Cl} {da : Option Addr} {dc : Nat} {la : Option Addr} {lc : Nat} {cf cs : Value} {said : List Value} {am : Value} (h : CliM w r1 r2 N c da dc la lc cf cs said am)
    (h1 : w'.heap[r1]? = w.heap[r1]?) (h2 : c.way ≠ 0 → w'.heap[r2]? = w.heap[r2]?) (hk : Keeps w w') : CliM w' r1 r2 N c da dc la lc cf cs said am := by
  obtain ⟨hl, ⟨i1, i2⟩, ⟨i3, i4⟩, hm, hs⟩ := h
  exact ⟨hl, ⟨hk.il i1, i2⟩, ⟨hk.bl i3, i4⟩, hm.same h1 hk, fun hw => (hs hw).same (h2 hw) hk⟩
theorem CliM.ne {w : World} {r1 r2 N : Nat} {c : Cl} {da : Option Addr} {dc : Nat} {la : Option Addr} {lc : Nat} {cf cs : Value} {said : List Value} {am : Value} (h : CliM w r1 r2 N c da dc la lc cf cs said am) {g : Nat} {l : List Value} {t : TypeId} (hb : Blk w g l t) :
    r1 ≠ g ∧ (c.way ≠ 0 → r2 ≠ g) := ⟨h.2.2.2.1.ne hb, fun hw => (h.2.2.2.2 hw).2.2.2.1.ne hb⟩
theorem CliM.lt {w : World} {r1 r2 N : Nat} {c : Cl} {da : Option Addr} {dc : Nat} {la : Option Addr} {lc : Nat} {cf cs : Value} {said : List Value} {am : Value} (h : CliM w r1 r2 N c da dc la lc cf cs said am) : r1 < w.heap.size ∧ (c.way ≠ 0 → r2 < w.heap.size) :=
  ⟨h.2.2.2.1.lt, fun hw => (h.2.2.2.2 hw).2.2.2.1.lt⟩
theorem CliM.mono {w : World} {r1 r2 N N' : Nat} {c : Cl} {da : Option Addr} {dc : Nat} {la : Option Addr} {lc : Nat} {cf cs : Value} {said : List Value} {am : Value} (h : CliM w r1 r2 N c da dc la lc cf cs said am) (hn : N ≤ N') : CliM w r1 r2 N' c da dc la lc cf cs said am := by
  obtain ⟨hl, i1, i3, hm, hs⟩ := h
  exact ⟨hl, i1, i3, hm.mono hn, fun hw => by obtain ⟨a, b, d, e, f⟩ := hs hw; exact ⟨a, b, d, e.mono hn, f⟩⟩
theorem CliAt.same {w w' : World} {p r1 r2 N : Nat} {c : Cl} (h : CliAt w p r1 r2 N c) (hp : w'.heap[p]? = w.heap[p]?) (h1 : w'.heap[r1]? = w.heap[r1]?) (h2 : c.way ≠ 0 → w'.heap[r2]? = w.heap[r2]?) (hk : Keeps w w') : CliAt w' p r1 r2 N c := by
  obtain ⟨da, dc, la, lc, cf, cs, said, am, hb, hm⟩ := h
  exact ⟨da, dc, la, lc, cf, cs, said, am, hp.trans hb, hm.same h1 h2 hk⟩
theorem CliAt.lt {w : World} {p r1 r2 N : Nat} {c : Cl} (h : CliAt w p r1 r2 N c) : p < w.heap.size ∧ r1 < w.heap.size ∧ (c.way ≠ 0 → r2 < w.heap.size) := by
  obtain ⟨da, dc, la, lc, cf, cs, said, am, hb, hm⟩ := h
  exact ⟨hb.lt, hm.lt⟩
theorem CliAt.below {w w' : World} {p r1 r2 N : Nat} {c : Cl} (h : CliAt w p r1 r2 N c) (hb : Below w.heap.size w w') : CliAt w' p r1 r2 N c :=
  h.same (hb.block _ h.lt.1) (hb.block _ h.lt.2.1) (fun hw => hb.block _ (h.lt.2.2 hw)) (Keeps.of_below hb)
theorem CliAt.mono {w : World} {p r1 r2 N N' : Nat} {c : Cl} (h : CliAt w p r1 r2 N c) (hn : N ≤ N') : CliAt w p r1 r2 N' c := by
  obtain ⟨da, dc, la, lc, cf, cs, said, am, hb, hm⟩ := h
  exact ⟨da, dc, la, lc, cf, cs, said, am, hb, hm.mono hn⟩
/-- Only p, its two maps and the blocks of G have turned. -/
theorem Only.trans' {R R' : List Nat} {a b c : World} (h : Only R a b) (k : Only R' b c) (hr : ∀ x ∈ R', x ∈ R ∨ a.heap.size ≤ x) : Only R a c :=
  ⟨k.os.trans h.os, k.tape.trans h.tape, k.output.trans h.output, Nat.le_trans h.size k.size, fun i hi hn => (k.block i (Nat.lt_of_lt_of_le hi h.size) (fun hx => by
    rcases hr i hx with hx | hx
    · exact hn hx
    · omega)).trans (h.block i hi hn)⟩
theorem Only.setCell {R : List Nat} {a b : World} (h : Only R a b) {g : Nat} (hg : g ∈ R ∨ a.heap.size ≤ g) (i : Nat) (v : Value) : Only R a (b.setCell ⟨g, i, none⟩ v) :=
  ⟨h.os, h.tape, h.output, by simpa using h.size, fun k hk hn => (heap_setCell_ne (by
    rintro rfl
    rcases hg with hg | hg
    · exact hn hg
    · omega)).trans (h.block k hk hn)⟩
theorem Only.setCells {R : List Nat} {a : World} {g : Nat} (hg : g ∈ R ∨ a.heap.size ≤ g) : ∀ (vs : List Value) (o : Nat) {b : World}, Only R a b → Only R a (b.setCells g o vs)
  | [], _, _, h => h
  | v :: vs, o, _, h => Only.setCells hg vs (o + 1) (h.setCell hg o v)
theorem Only.alloc {R : List Nat} {a b : World} (h : Only R a b) (o : Obj) : Only R a (b.alloc o) := h.trans (Only.of_below (Below.new _ _))
theorem Keeps.set {w : World} {g : Nat} {cs : List Value} {t' : TypeId} (hg : Blk w g cs t') (ht : t' ≠ 3 ∧ t' ≠ 5 ∧ t' ≠ 88) (i : Nat) (v : Value) : Keeps w (w.setCell ⟨g, i, none⟩ v) := fun b cur t fz hc hh => by
  rw [heap_setCell_ne (by
    rintro rfl
    have hg' : w.heap[b]? = some (.cells cs.toArray t' (0, 0)) := hg
    rw [hg'] at hc
    cases hc
    rcases hh with h | h | h
    · exact ht.1 h
    · exact ht.2.1 h
    · exact ht.2.2 h)]
  exact hc
theorem Keeps.sets {w : World} {g : Nat} {cs : List Value} {t' : TypeId} (hg : Blk w g cs t') (ht : t' ≠ 3 ∧ t' ≠ 5 ∧ t' ≠ 88) (o : Nat) (vs : List Value) : Keeps w (w.setCells g o vs) := fun b cur t fz hc hh => by
  rw [sets_other _ _ (by
    rintro rfl
    have hg' : w.heap[b]? = some (.cells cs.toArray t' (0, 0)) := hg
    rw [hg'] at hc
    cases hc
    rcases hh with h | h | h
    · exact ht.1 h
    · exact ht.2.1 h
    · exact ht.2.2 h)]
  exact hc
theorem Keeps.grown {w w' : World} {r : Nat} (h : w.grownBy w' (some r)) (hr : ∀ cs t fz, w.heap[r]? ≠ some (Obj.cells cs t fz)) : Keeps w w' := fun b cur t fz hc _ =>
  (h.block b (lt_of_heap hc) (by rintro ⟨rfl⟩; exact hr _ _ _ hc)).trans hc

/-- Where p alone has turned, of the old blocks, all that p's cells point to is as it was. -/
theorem Only.tl {p : Nat} {w w' : World} (ho : Only [p] w w') {l : List Value} {t0 : TypeId} (hp : Blk w p l t0) (b : Nat) (cs : Array Value) (t : TypeId) (fz : Nat × Nat) (hc : w.heap[b]? = some (.cells cs t fz)) (ht : t0 ≠ t) : w'.heap[b]? = some (.cells cs t fz) :=
  (ho.block b (lt_of_heap hc) (by
    simp only [List.mem_singleton]
    rintro rfl
    have hp' : w.heap[b]? = some (.cells l.toArray t0 (0, 0)) := hp
    rw [hp'] at hc
    cases hc
    exact ht rfl)).trans hc
theorem Only.keeps {p : Nat} {w w' : World} (ho : Only [p] w w') {l : List Value} {t0 : TypeId} (hp : Blk w p l t0) (ht : t0 ≠ 3 ∧ t0 ≠ 5 ∧ t0 ≠ 88) : Keeps w w' := fun b cs t fz hc hh => ho.tl hp b cs t fz hc (by
  rcases hh with rfl | rfl | rfl
  · exact ht.1
  · exact ht.2.1
  · exact ht.2.2)
theorem CliM.only {w w' : World} {p r1 r2 N : Nat} {c : Cl} {da : Option Addr} {dc : Nat} {la : Option Addr} {lc : Nat} {cf cs : Value} {said : List Value} {am : Value} (h : CliM w r1 r2 N c da dc la lc cf cs said am) {l : List Value} (hp : Blk w p l 113) (ho : Only [p] w w') : CliM w' r1 r2 N c da dc la lc cf cs said am :=
  h.same (ho.block _ h.lt.1 (by simpa using (h.ne hp).1)) (fun hw => ho.block _ (h.lt.2 hw) (by simpa using (h.ne hp).2 hw)) (ho.keeps hp (by decide))
theorem eq68 (w : World) (a : Addr) : (binOp .eql 109 (.map none) (.map none)).run Try.prog w = .ok (.bool true) w := run_eql_map_nil w _ _ _ none Try.underlying109
theorem cnone_is (p : Nat) (r : Nat) (w : World) (h : w.cell? ⟨p, 4, none⟩ = some (.map (some r))) :
    Calls Try.prog 95 #[.pointer (some ⟨p, 0, none⟩)] w fun e w' => e = .returned (.bool false) ∧ w = w' := by
  have qT : ∀ (w : World) (r : Option Nat), (binOp .eql 109 (.map r) (.map none)).run Try.prog w = .ok (.bool r.isNone) w := fun w r => run_eql_map_nil w _ _ _ r Try.underlying109
  go_enter Try.func95, Try.ntmps95
  go_wp2
  go_ret
  exact ⟨rfl, rfl⟩
theorem CliAt.c4 {w : World} {p r1 r2 N : Nat} {c : Cl} (h : CliAt w p r1 r2 N c) : w.cell? ⟨p, 4, none⟩ = some (.map (some r1)) := by
  obtain ⟨da, dc, la, lc, cf, cs, said, am, hb, _⟩ := h; exact hb.cell (i := 4) rfl
theorem CliAt.c7 {w : World} {p r1 r2 N : Nat} {c : Cl} (h : CliAt w p r1 r2 N c) : w.cell? ⟨p, 7, none⟩ = some (.int .i64 c.way) := by
  obtain ⟨da, dc, la, lc, cf, cs, said, am, hb, _⟩ := h; exact hb.cell (i := 7) rfl
theorem CliAt.c0 {w : World} {p r1 r2 N : Nat} {c : Cl} (h : CliAt w p r1 r2 N c) : w.cell? ⟨p, 0, none⟩ = some (.int .i64 c.name) := by
  obtain ⟨da, dc, la, lc, cf, cs, said, am, hb, _⟩ := h; exact hb.cell (i := 0) rfl
theorem CliAt.c3 {w : World} {p r1 r2 N : Nat} {c : Cl} (h : CliAt w p r1 r2 N c) : w.cell? ⟨p, 3, none⟩ = some (.int .i64 c.chunks) := by
  obtain ⟨da, dc, la, lc, cf, cs, said, am, hb, _⟩ := h; exact hb.cell (i := 3) rfl
theorem CliAt.c5 {w : World} {p r1 r2 N : Nat} {c : Cl} (h : CliAt w p r1 r2 N c) : w.cell? ⟨p, 5, none⟩ = some (.int .i64 c.stamp) ∧ w.frozen? ⟨p, 5, none⟩ = false := by
  obtain ⟨da, dc, la, lc, cf, cs, said, am, hb, _⟩ := h; exact ⟨hb.cell (i := 5) rfl, hb.free 5⟩
theorem CliAt.c6 {w : World} {p r1 r2 N : Nat} {c : Cl} (h : CliAt w p r1 r2 N c) : w.cell? ⟨p, 6, none⟩ = some (.int .i64 c.calls) ∧ w.frozen? ⟨p, 6, none⟩ = false := by
  obtain ⟨da, dc, la, lc, cf, cs, said, am, hb, _⟩ := h; exact ⟨hb.cell (i := 6) rfl, hb.free 6⟩
theorem CliAt.c18 {w : World} {p r1 r2 N : Nat} {c : Cl} (h : CliAt w p r1 r2 N c) : w.cell? ⟨p, 18, none⟩ = some (.int .i64 c.own) ∧ w.frozen? ⟨p, 18, none⟩ = false := by
  obtain ⟨da, dc, la, lc, cf, cs, said, am, hb, _⟩ := h; exact ⟨hb.cell (i := 18) rfl, hb.free 18⟩
theorem CliAt.c12 {w : World} {p r1 r2 N : Nat} {c : Cl} (h : CliAt w p r1 r2 N c) : w.cell? ⟨p, 12, none⟩ = some (.int .i64 c.call.kind) := by
  obtain ⟨da, dc, la, lc, cf, cs, said, am, hb, _⟩ := h; exact hb.cell (i := 12) rfl
theorem CliAt.c13 {w : World} {p r1 r2 N : Nat} {c : Cl} (h : CliAt w p r1 r2 N c) : w.cell? ⟨p, 13, none⟩ = some (.int .i64 c.call.block) := by
  obtain ⟨da, dc, la, lc, cf, cs, said, am, hb, _⟩ := h; exact hb.cell (i := 13) rfl
theorem CliAt.c10 {w : World} {p r1 r2 N : Nat} {c : Cl} (h : CliAt w p r1 r2 N c) : w.cell? ⟨p, 10, none⟩ = some (.int .i64 c.call.group) := by
  obtain ⟨da, dc, la, lc, cf, cs, said, am, hb, _⟩ := h; exact hb.cell (i := 10) rfl
theorem chunk_is (p r1 r2 N : Nat) (c : Cl) (w : World) (h : CliAt w p r1 r2 N c) : Calls Try.prog 116 #[.pointer (some ⟨p, 0, none⟩)] w fun e w' => e = .returned (.int .i64 (chunkC c)) ∧ w = w' := by
  have c12 := h.c12
  have c13 := h.c13
  have c10 := h.c10
  clear h
  by_cases hk : c.call.kind = 4
  · have hq : (c.call.kind == 4) = true := by simpa using hk
    have HK := Lib.hid hk
    clear hk
    go_enter Try.func116, Try.ntmps116
    go_wp2
    go_ret
    exact ⟨ret_int (by simp [chunkC, HK.out]), rfl⟩
  · have hq : (c.call.kind == 4) = false := by simpa using hk
    have HK := Lib.hid hk
    clear hk
    go_enter Try.func116, Try.ntmps116
    go_wp2
    go_ret
    exact ⟨ret_int (by simp [chunkC, HK.out]), rfl⟩
/-- Fields of the first cells may be set. -/
theorem CliAt.setStamp {w : World} {p r1 r2 N : Nat} {c : Cl} (h : CliAt w p r1 r2 N c) (n : Int) : CliAt (w.setCell ⟨p, 5, none⟩ (.int .i64 n)) p r1 r2 N { c with stamp := n } := by
  obtain ⟨da, dc, la, lc, cf, cs, said, am, hb, hm⟩ := h
  have hk := Keeps.set hb (by decide) 5 (.int .i64 n)
  exact ⟨da, dc, la, lc, cf, cs, said, am, hb.set 5 _, hm.same (heap_setCell_ne (hm.ne hb).1) (fun hw => heap_setCell_ne ((hm.ne hb).2 hw)) hk⟩
theorem CliAt.setCalls {w : World} {p r1 r2 N : Nat} {c : Cl} (h : CliAt w p r1 r2 N c) (n : Int) : CliAt (w.setCell ⟨p, 6, none⟩ (.int .i64 n)) p r1 r2 N { c with calls := n } := by
  obtain ⟨da, dc, la, lc, cf, cs, said, am, hb, hm⟩ := h
  have hk := Keeps.set hb (by decide) 6 (.int .i64 n)
  exact ⟨da, dc, la, lc, cf, cs, said, am, hb.set 6 _, hm.same (heap_setCell_ne (hm.ne hb).1) (fun hw => heap_setCell_ne ((hm.ne hb).2 hw)) hk⟩
theorem CliAt.setOwn {w : World} {p r1 r2 N : Nat} {c : Cl} (h : CliAt w p r1 r2 N c) (n : Int) : CliAt (w.setCell ⟨p, 18, none⟩ (.int .i64 n)) p r1 r2 N { c with own := n } := by
  obtain ⟨da, dc, la, lc, cf, cs, said, am, hb, hm⟩ := h
  have hk := Keeps.set hb (by decide) 18 (.int .i64 n)
  exact ⟨da, dc, la, lc, cf, cs, said, am, hb.set 18 _, hm.same (heap_setCell_ne (hm.ne hb).1) (fun hw => heap_setCell_ne ((hm.ne hb).2 hw)) hk⟩
/-- The way is nought. -/
theorem CliAt.setIdle {w : World} {p r1 r2 N : Nat} {c : Cl} (h : CliAt w p r1 r2 N c) : CliAt (w.setCell ⟨p, 7, none⟩ (.int .i64 0)) p r1 r2 N { c with way := 0 } := by
  obtain ⟨da, dc, la, lc, cf, cs, said, am, hb, hm⟩ := h
  have hk := Keeps.set hb (by decide) 7 (.int .i64 0)
  obtain ⟨hl, ⟨i1, i2⟩, ⟨i3, i4⟩, hmm, hs⟩ := hm
  exact ⟨da, dc, la, lc, cf, cs, said, am, hb.set 7 _, hl, ⟨hk.il i1, i2⟩, ⟨hk.bl i3, i4⟩, hmm.same (heap_setCell_ne (hmm.ne hb)) hk, fun hw => absurd rfl hw⟩
theorem next_is (p : Nat) (s : Int) (w : World) (c5 : w.cell? ⟨p, 5, none⟩ = some (.int .i64 s)) (f5 : w.frozen? ⟨p, 5, none⟩ = false) (hs : 0 ≤ s ∧ s ≤ 1000000) :
    Calls Try.prog 131 #[.pointer (some ⟨p, 0, none⟩)] w fun e w' => e = .returned (.int .i64 (s + 1)) ∧ w.setCell ⟨p, 5, none⟩ (.int .i64 (s + 1)) = w' := by
  obtain ⟨h0, h1⟩ := hs
  go_enter Try.func131, Try.ntmps131
  go_wp2
  have d5 : (w.setCell ⟨p, 5, none⟩ (.int .i64 (s + 1))).cell? ⟨p, 5, none⟩ = some (.int .i64 (s + 1)) := World.cell?_setCell_same _ _ _ c5
  go_ret
  exact ⟨rfl, rfl⟩
theorem busy_is (p r1 r2 N : Nat) (c : Cl) (w : World) (h : CliAt w p r1 r2 N c) : Calls Try.prog 60 #[.pointer (some ⟨p, 0, none⟩)] w fun e w' => e = .returned (.bool (!decide (c.way = 0))) ∧ w = w' := by
  have c4 := h.c4
  have c7 := h.c7
  clear h
  go_enter Try.func60, Try.ntmps60
  go_wp2_with fail
  refine Calls.mono (cnone_is p r1 _ c4) ?_
  rintro e w' ⟨rfl, rfl⟩
  go_wp2
  go_ret
  exact ⟨ret_bool (by by_cases hw : c.way = 0 <;> simp [hw]), rfl⟩

end Go.Proofs.Ytldcpnabgpjgiaa.Walks
