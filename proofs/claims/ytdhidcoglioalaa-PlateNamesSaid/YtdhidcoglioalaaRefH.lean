/-
  The document's New.
-/
import Derived.Test.YtdhidcoglioalaaRefG
namespace Go.Proofs.Ytdhidcoglioalaa.Walks
open Go.RowKit Plain
set_option linter.unusedVariables false

theorem info4s : (Try.prog.info? 4).map (fun i => (i.size, i.bytes)) = some (1, 1) := by kernel_rfl
theorem info4z : (Try.prog.info? 4).map (·.zero) = some (some (.bool false)) := by kernel_rfl
def falseC (n : Nat) : Array Value := madeCells #[.bool false] n
theorem falseC_get (n : Nat) {i : Nat} (hi : i < n) : (falseC n)[i]? = some (.bool false) := by
  unfold falseC
  rw [← Array.getElem?_toList, toList_madeCells_one]
  simp [hi]
theorem makeB (w : World) (n : Nat) (hn : n ≤ 4096) : (Instr.makeSlice 23 (.int .i64 n) (.int .i64 n)).run Try.prog w = .ok (.slice (some ⟨w.heap.size, 0, none⟩) n n) (w.alloc (.cells (falseC n) 4)) := by
  cases hi : Try.prog.info? 4 with
  | none => have := info4s; rw [hi] at this; cases this
  | some i =>
    have := info4s
    rw [hi] at this
    simp only [Option.map_some, Option.some.injEq, Prod.mk.injEq] at this
    obtain ⟨e1, e2⟩ := this
    have hz : i.zero = some (.bool false) := by
      have hz := info4z
      rw [hi] at hz
      exact Option.some.inj hz
    have := run_makeSlice w 23 4 i (.bool false) Try.underlying23 hi hz .i64 .i64 n n (by omega) (by omega) (by rw [e1]; simp; omega) (by rw [e2]; omega) (by omega)
    rw [e1] at this
    simpa [falseC, Value.cells] using this
/-- append on rows, as one word. -/
def App (x y : Value) : Sem Next := do return .value (← Builtin.append_ #[94, 94] 94 #[x, y])
theorem exec_app {ρ : Operand → Value} {d : Option Tmp} {x y : Operand} {p : String} {af : Array Edge} {gd : Option (Nat × Bool)} {w : World} :
    (execOp ρ ⟨d, .call { callee := .builtin .append, args := #[x, y], argTypes := #[94, 94] }, 94, p, af, gd⟩).run Try.prog w = (App (ρ x) (ρ y)).run Try.prog w := by
  unfold App
  simp [execOp, resolve, invoke, builtin]
theorem app_run {x y v : Value} {w w' : World} (h : (Builtin.append_ #[94, 94] 94 #[x, y]).run Try.prog w = .ok v w') : (App x y).run Try.prog w = .ok (.value v) w' := by
  unfold App
  rw [Sem.run_bind, h, Result.andThen_ok]
  rfl
structure NewR (w wr : World) (n p wb j : Nat) : Prop where
  ex : ∃ aS cS aN cN lS lN, Rows2 w wr n p wb j j aS cS aN cN lS lN
theorem rows_of {w : World} {base n : Nat} {a : Option Addr} {c : Nat} {l : List Value} (h : w.ownsRow base 42 1 (.slice a n c) n l) (hn : 1 ≤ n) : ∃ b, a = some ⟨b, 0, none⟩ ∧ base ≤ b ∧ (∃ cs, w.heap[b]? = some (.cells cs 42 (0, 0))) ∧ ∀ i (hi : i < n), w.frozen? ⟨b, i, none⟩ = false ∧ ∃ v ∈ l, w.cell? ⟨b, i, none⟩ = some v := by
  obtain ⟨hl, ⟨e, h0⟩ | ⟨g, cap', cur, e, hbg, hg, hnc, hcm, hcs, ht⟩⟩ := h
  · omega
  · simp only [Value.slice.injEq] at e
    obtain ⟨rfl, _, rfl⟩ := e
    refine ⟨g, rfl, hbg, ⟨cur, hg⟩, fun i hi => ⟨by unfold World.frozen?; simp only [hg]; simp, ?_⟩⟩
    rw [cell_of_row _ _ _ _ _ _ hg]
    have h1 := congrArg (fun z => z[i]?) ht
    simp only [Nat.mul_one, List.getElem?_take, hi, if_true] at h1
    have hil : i < l.length := by omega
    rw [List.getElem?_eq_getElem hil] at h1
    exact ⟨l[i], List.getElem_mem _, by rw [← Array.getElem?_toList, h1]⟩
theorem new_made {w wr : World} {n p wb : Nat} {aS : Option Addr} {cS : Nat} {aN : Option Addr} {cN : Nat} {lS lN : List Value} (h : Rows2 w wr n p wb n n aS cS aN cN lS lN) (h1 : 1 ≤ n) (h2 : n ≤ 4096) (ban : List Nat) (hban : ∀ b ∈ ban, b < w.heap.size) :
    ∃ r : RLoc, rv r = .pointer (some ⟨p, 0, none⟩) ∧ RefAt wr r (Pl.made n) ∧ (∀ b ∈ r.R, w.heap.size ≤ b) ∧ r.ban = ban := by
  obtain ⟨bS, rfl, hbS, ⟨cs1, hS⟩, fS⟩ := rows_of h.S h1
  obtain ⟨bN, rfl, hbN, ⟨cs2, hN⟩, fN⟩ := rows_of h.N h1
  obtain ⟨pc, hp⟩ := h.hp
  obtain ⟨wc, hw⟩ := h.hw
  have n1 : p ≠ bS := fun e => by rw [e, hS] at hp; simp at hp
  have n2 : p ≠ bN := fun e => by rw [e, hN] at hp; simp at hp
  have n3 : p ≠ wb := fun e => by rw [e, hw] at hp; simp at hp
  have n4 : bS ≠ bN := fun e => h.ne bS rfl (by rw [e]; rfl)
  have n5 : bS ≠ wb := fun e => by rw [e, hw] at hS; simp at hS
  have n6 : bN ≠ wb := fun e => by rw [e, hw] at hN; simp at hN
  have hrow : ∀ v, (∃ g, v = Value.slice (some ⟨g, 0, none⟩) 64 64 ∧ w.heap.size ≤ g ∧ wr.heap[g]? = some (.cells (secC zeroS) 5 (0, 0))) → RowV wr (RLoc.N ⟨p, bS, bN, wb, ban⟩) v zeroS := by
    rintro v ⟨g, rfl, hgb, hg⟩
    refine ⟨g, 0, 64, rfl, fun j u hu => ?_, fun hm => ?_⟩
    · rw [Nat.zero_add, cell_of_row _ _ _ _ _ _ hg]
      simpa [secC] using hu
    · rcases List.mem_append.1 hm with hm | hm
      case inr =>
        have h1 : g < w.heap.size := hban g hm
        omega
      simp only [RLoc.R, List.mem_cons, List.not_mem_nil, or_false] at hm
      rcases hm with e | e | e | e
      · rw [e, hp] at hg; simp at hg
      · rw [e, hS] at hg; simp at hg
      · rw [e, hN] at hg; simp at hg
      · rw [e, hw] at hg; simp at hg
  refine ⟨⟨p, bS, bN, wb, ban⟩, rfl, ⟨⟨⟨cS, h.c0⟩, ⟨cN, h.c1⟩, ⟨n, h.c2⟩, h.c3, h.c4, h.c5, ⟨none, 0, h.c6, Bools.nil _ _, (fun h0 => absurd rfl h0)⟩, fun i => by unfold World.frozen?; simp only [hp]; simp, ?_, ?_, ?_, ⟨n1, n2, n3, n4, n5, n6⟩, h1, h2, fun b hb => Nat.lt_of_lt_of_le (hban b hb) h.be.size⟩, Pl.ok_made h1 h2⟩, ?_, rfl⟩
  · intro i hi
    obtain ⟨f1, v, hv, hc⟩ := fS i hi
    exact ⟨f1, v, hc, hrow v (h.zS v hv)⟩
  · intro i hi
    obtain ⟨f1, v, hv, hc⟩ := fN i hi
    exact ⟨f1, v, hc, hrow v (h.zN v hv)⟩
  · exact h.fl
  · intro b hb
    simp only [RLoc.R, List.mem_cons, List.not_mem_nil, or_false] at hb
    rcases hb with rfl | rfl | rfl | rfl
    · exact h.pw.1
    · exact hbS
    · exact hbN
    · exact h.pw.2
section
attribute [local go_sem ↓] exec_app
set_option maxRecDepth 20000 in
set_option maxHeartbeats 4000000 in
theorem rf_new (w : World) (n : Nat) (h1 : 1 ≤ n) (h2 : n ≤ 4096) (ban : List Nat) (hban : ∀ b ∈ ban, b < w.heap.size) : Calls Try.prog 30 #[.int .i64 n] w fun e w' => ∃ r : RLoc, e = .returned (.tuple #[rv r, .int .i64 0]) ∧ RefAt w' r (Pl.made n) ∧ Below w.heap.size w w' ∧ (∀ b ∈ r.R, w.heap.size ≤ b) ∧ r.ban = ban := by
  have HBan := Lib.hid hban
  clear hban
  have hmk := makeB w n h2
  have hl1 : ¬ ((n : Int) < 1) := by omega
  have hl2 : ¬ (4096 < (n : Int)) := by omega
  go_enter Try.func30, Try.ntmps30
  go_wp2_with fail
  obtain ⟨w1, hw1⟩ : ∃ x, x = (w.alloc (.cells (falseC n) 4)).alloc (.cells #[.slice none 0 0, .slice none 0 0, .slice (some ⟨w.heap.size, 0, none⟩) n n, .bool false, .bool false, .int .i64 0, .slice none 0 0] 96) := ⟨_, rfl⟩
  have H1 : Hid (NewR w w1 n (w.heap.size + 1) w.heap.size 0) := Lib.hid ⟨none, 0, none, 0, [], [], by
    have hp : ∀ j, w1.cell? ⟨w.heap.size + 1, j, none⟩ = (#[Value.slice none 0 0, .slice none 0 0, .slice (some ⟨w.heap.size, 0, none⟩) n n, .bool false, .bool false, .int .i64 0, .slice none 0 0] : Array Value)[j]? := fun j => by
      have h := cell_new (w.alloc (.cells (falseC n) 4)) #[.slice none 0 0, .slice none 0 0, .slice (some ⟨w.heap.size, 0, none⟩) n n, .bool false, .bool false, .int .i64 0, .slice none 0 0] 96 j
      rw [World.size_alloc] at h
      rw [hw1]
      exact h
    have hpb : w1.heap[w.heap.size + 1]? = some (.cells #[.slice none 0 0, .slice none 0 0, .slice (some ⟨w.heap.size, 0, none⟩) n n, .bool false, .bool false, .int .i64 0, .slice none 0 0] 96 (0, 0)) := by
      have h := heap_alloc_new (w.alloc (.cells (falseC n) 4)) (.cells #[.slice none 0 0, .slice none 0 0, .slice (some ⟨w.heap.size, 0, none⟩) n n, .bool false, .bool false, .int .i64 0, .slice none 0 0] 96 (0, 0))
      rw [World.size_alloc] at h
      rw [hw1]
      exact h
    have hwb : w1.heap[w.heap.size]? = some (.cells (falseC n) 4 (0, 0)) := by
      rw [hw1, heap_alloc_lt (by simp)]
      exact heap_alloc_new _ _
    exact ⟨by rw [hw1]; exact Below.step (Below.new _ _) (Below.new _ _), by rw [hp]; rfl, by rw [hp]; rfl, by rw [hp]; rfl, by rw [hp]; rfl, by rw [hp]; rfl, by rw [hp]; rfl, by rw [hp]; rfl, ⟨_, hpb⟩, ⟨_, hwb⟩,
      fun i hi => ⟨by unfold World.frozen?; simp only [hwb]; simp, by rw [cell_of_row _ _ _ _ _ _ hwb]; exact falseC_get n hi⟩, World.ownsRow_nil _ _ _ _, World.ownsRow_nil _ _ _ _, (fun v hv => by simp at hv), (fun v hv => by simp at hv), (fun k hk => by cases hk), by omega, Nat.le_refl _⟩⟩
  rw [← hw1]
  clear hw1 hmk
  go_loopw [5] (fun i wr => ∃ j : Nat, j ≤ n ∧ i = .int .i64 j ∧ Hid (NewR w wr n (w.heap.size + 1) w.heap.size j)) (fun i _ => n - (RowKit.intOf i).toNat)
  case atStart => exact ⟨0, by omega, rfl, H1⟩
  case round =>
    obtain ⟨j, hj, rfl, HR⟩ := hrel
    by_cases hlt : j < n
    · obtain ⟨aS, cS, aN, cN, lS, lN, hR⟩ := HR.out.ex
      have c0 := hR.c0
      have c1 := hR.c1
      have hmk := make64 wr.drew
      have hmk' := make64 wr
      obtain ⟨b', c', w2, happ, hc, hf, hR2⟩ := hR.stepS (by omega) 94
      have hpl : w.heap.size + 1 < wr.heap.size := block_lt_of_cell c0
      have hpl1 : w.heap.size + 1 < wr.heap.size + 1 := by omega
      have happ := app_run happ
      unfold addW at happ
      have HR2 := Lib.hid hR2
      clear hR hR2
      go_wp2_with fail
      go_region
      obtain ⟨w3, hw3⟩ : ∃ x, x = w2.setCell ⟨w.heap.size + 1, 0, none⟩ (.slice (some ⟨b', 0, none⟩) (j + 1) c') := ⟨_, rfl⟩
      rw [← hw3] at HR2 ⊢
      have d0 := HR2.out.c0
      have d1 := HR2.out.c1
      have hmj := make64 w3
      have hmj' := make64 w3.drew
      obtain ⟨b2, c2, w4, happ2, hc2, hf2, hR3⟩ := HR2.out.stepN (by omega) 94
      have hql : w.heap.size + 1 < w3.heap.size := block_lt_of_cell d0
      have hql1 : w.heap.size + 1 < w3.heap.size + 1 := by omega
      have happ2 := app_run happ2
      unfold addW at happ2
      have HR3 := Lib.hid hR3
      clear hR3 hw3 happ hmk hmk' hc hf c0 c1 hpl hpl1
      go_wp2_with fail
      go_region
      go_wp2
      go_roundw
      case rel => exact ⟨j + 1, by omega, by go_num, Lib.hid ⟨_, _, _, _, _, _, HR3.out⟩⟩
      case measure => simp [RowKit.intOf]; omega
    · obtain rfl : j = n := by omega
      go_wp2
      refine bodyPost_ret (results_tmp2 rfl _ _ _) rfl ?_
      obtain ⟨aS, cS, aN, cN, lS, lN, hR⟩ := HR.out.ex
      obtain ⟨r, hr1, hr2, hr3, hr4⟩ := new_made hR h1 h2 ban HBan.out
      exact ⟨r, by rw [← hr1]; rfl, hr2, hR.be, hr3, hr4⟩
end
end Go.Proofs.Ytdhidcoglioalaa.Walks
