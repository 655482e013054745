/-
  The sectors that wait; the chapter's examples.
-/
import Derived.Test.YtdhidcoglioalaaPlateH
namespace Go.Proofs.Ytdhidcoglioalaa.Walks
open Go.RowKit Plain
set_option linter.unusedVariables false

def wsD (P : Pl) : List Nat := if P.dead then [] else P.ws
def IntsN (w : World) (a : Option Addr) (l : List Nat) : Prop := Ints w a (l.map fun (i : Nat) => (i : Int))
set_option maxRecDepth 10000 in
theorem waits_any (w : World) (q : PLoc) (P : Pl) (h : PlateAt w q P) : Calls Try.prog 16 #[pv q] w fun e w' => ∃ a cap, e = .returned (.slice a (wsD P).length cap) ∧ IntsN w' a (wsD P) ∧ (∀ ad, a = some ad → w.heap.size ≤ ad.block) ∧ Below w.heap.size w w' := by
  have hH := may_any w q P h
  have c1 := h.c1
  cases hd : P.dead
  · rw [may_live hd] at hH
    have HC := Lib.hid hH
    have e1 : wsD P = P.ws := by simp [wsD, hd]
    rw [e1]
    have hk := sorted44 w q P h
    obtain ⟨n, hn⟩ : ∃ n, n = P.ws.length := ⟨_, rfl⟩
    rw [← hn] at hk ⊢
    have HN := Lib.hid hn
    have HK := Lib.hid hk
    clear hH hd e1 hk hn h
    go_enter Try.func16, Try.ntmps16
    go_wp2_with fail
    refine Calls.mono HC.out ?_
    rintro e w' ⟨rfl, rfl⟩
    go_wp2_with fail
    refine Calls.mono (keys45 _ _) ?_
    rintro e w1 ⟨rfl, rfl⟩
    go_wp2_with fail
    refine Calls.mono HK.out ?_
    rintro e w2 ⟨a2, cap2, rfl, hI, hfr, hb⟩
    have HI := Lib.hid hI
    have HF := Lib.hid hfr
    have HBe := Lib.hid hb
    clear hI hfr hb
    go_wp2
    go_ret
    exact ⟨a2, cap2, rfl, HI.out, HF.out, HBe.out⟩
  · rw [may_dead hd] at hH
    have HC := Lib.hid hH
    have e1 : wsD P = [] := by simp [wsD, hd]
    rw [e1]
    clear hH hd e1 h
    go_enter Try.func16, Try.ntmps16
    go_wp2_with fail
    refine Calls.mono HC.out ?_
    rintro e w' ⟨rfl, rfl⟩
    go_wp2
    go_ret
    exact ⟨none, 0, rfl, Ints.nil _ _, (fun _ e => by cases e), Below.refl _ _⟩

/-- A plate of the call's own, w being the world at its start. -/
structure St (w w' : World) (q : PLoc) (P : Pl) : Prop where
  pl : PlateAt w' q P
  be : Below w.heap.size w w'
  ge : ∀ b ∈ q.R, w.heap.size ≤ b
section
variable {w w1 w2 : World} {q : PLoc} {P P' : Pl}
theorem St.only (h : St w w1 q P) (hp : PlateAt w2 q P') (ho : Only q.R w1 w2) : St w w2 q P' := ⟨hp, Only.below h.be ho h.ge (Nat.le_refl _), h.ge⟩
theorem St.below (h : St w w1 q P) (hb : Below w1.heap.size w1 w2) : St w w2 q P := ⟨h.pl.below hb, Below.step h.be hb, h.ge⟩
theorem s_new (n : Nat) (h1 : 1 ≤ n) (h2 : n ≤ 4096) (w w1 : World) (hb : Below w.heap.size w w1) : Calls Try.prog 14 #[.int .i64 n] w1 fun e w2 => ∃ q, e = .returned (.tuple #[pv q, .int .i64 0]) ∧ St w w2 q (Pl.made n) ∧ Below w1.heap.size w1 w2 ∧ ∀ b ∈ q.R, w1.heap.size ≤ b := by
  refine Calls.mono (new_ok w1 n h1 h2) ?_
  rintro e w2 ⟨q, rfl, hp, hb2, hR, _⟩
  exact ⟨q, rfl, ⟨hp, Below.step hb hb2, fun b hm => Nat.le_trans hb.size (hR b hm)⟩, hb2, hR⟩
theorem s_put {i : Int} {b : Byte} {z : Int} (h : St w w1 q P) (hz : P.writeE i (bytesOf (oneS b)) = z) (hP : P.write i (bytesOf (oneS b)) = P') :
    Calls Try.prog 23 #[pv q, .int .i64 i, .slice (some ⟨w1.heap.size, 0, none⟩) 64 64] (w1.alloc (.cells (secC (oneS b)) 5)) fun e w2 => e = .returned (.int .i64 z) ∧ St w w2 q P' ∧ Only q.R w1 w2 := by
  have h1 := h.below (Below.new w1 (.cells (secC (oneS b)) 5))
  have := write_any _ q P h1.pl i (some ⟨w1.heap.size, 0, none⟩) (bytesOf (oneS b)) 64 (bys_sec (heap_alloc_new _ _)) (fun _ ad e hm => by cases e; exact Nat.lt_irrefl _ (h.pl.lt _ hm))
  rw [bytesOf_length, hz, hP] at this
  refine Calls.mono this ?_
  rintro e w2 ⟨rfl, hp, ho⟩
  exact ⟨rfl, h1.only hp ho, (Only.of_below (Below.new _ _)).trans ho⟩
theorem s_flush {z : Int} (h : St w w1 q P) (hz : P.flushE = z) (hP : P.flush = P') : Calls Try.prog 26 #[pv q] w1 fun e w2 => e = .returned (.int .i64 z) ∧ St w w2 q P' ∧ Only q.R w1 w2 := by
  rw [← hz, ← hP]
  refine Calls.mono (flush_any w1 q P h.pl) ?_
  rintro e w2 ⟨rfl, hp, ho⟩
  exact ⟨rfl, h.only hp ho, ho⟩
theorem s_crash {z : Int} {a : Option Addr} {l : List Bool} {cap n : Nat} (hn : l.length = n) (h : St w w1 q P) (hB : Bools w1 a l) (hdis : l ≠ [] → ∀ ad, a = some ad → ad.block ∉ q.R) (hz : P.may = z) (hP : P.crash l = P') :
    Calls Try.prog 17 #[pv q, .slice a n cap] w1 fun e w2 => e = .returned (.int .i64 z) ∧ St w w2 q P' ∧ Only q.R w1 w2 := by
  rw [← hz, ← hP, ← hn]
  refine Calls.mono (crash_any w1 q P h.pl a l cap hB hdis) ?_
  rintro e w2 ⟨rfl, hp, ho⟩
  exact ⟨rfl, h.only hp ho, ho⟩
theorem s_boot (h : St w w1 q P) (hP : P.boot = P') : Calls Try.prog 18 #[pv q] w1 fun e w2 => e = .returned (.int .i64 0) ∧ St w w2 q P' ∧ Only q.R w1 w2 := by
  rw [← hP]
  refine Calls.mono (boot_any w1 q P h.pl) ?_
  rintro e w2 ⟨rfl, hp, ho⟩
  exact ⟨rfl, h.only hp ho, ho⟩
theorem s_fail {z n : Int} {a : Option Addr} {l : List Bool} {cap m : Nat} (hm : l.length = m) (hn : -9223372036854775808 ≤ n ∧ n ≤ 9223372036854775807) (h : St w w1 q P) (hB : Bools w1 a l) (hcap : a = none → cap = 0) (hz : P.may = z) (hP : P.fail n l = P') :
    Calls Try.prog 22 #[pv q, .int .i64 n, .slice a m cap] w1 fun e w2 => e = .returned (.int .i64 z) ∧ St w w2 q P' ∧ Only q.R w1 w2 := by
  rw [← hz, ← hP, ← hm]
  refine Calls.mono (fail_any w1 q P h.pl n hn a l cap hB hcap) ?_
  rintro e w2 ⟨rfl, hp, ho⟩
  exact ⟨rfl, h.only hp ho, ho⟩
theorem s_dead {d : Bool} (h : St w w1 q P) (hd : P.dead = d) : Calls Try.prog 25 #[pv q] w1 fun e w2 => e = .returned (.bool d) ∧ w1 = w2 := by
  rw [← hd]
  exact dead_any w1 q P h.pl
theorem s_has {i : Int} {b : Byte} {n : Int} {r : Bool} (hb : (b.toNat : Int) = n) (h : St w w1 q P) (hr : hasB P i b = r) : Calls Try.prog 19 #[pv q, .int .i64 i, .int .u8 n] w1 fun e w2 => e = .returned (.bool r) ∧ St w w2 q P ∧ Below w1.heap.size w1 w2 := by
  rw [← hb, ← hr]
  refine Calls.mono (hasB_any w1 q P h.pl i b) ?_
  rintro e w2 ⟨rfl, hb⟩
  exact ⟨rfl, h.below hb, hb⟩
theorem s_full {b : Byte} {n : Int} (hb : (b.toNat : Int) = n) (w : World) : Calls Try.prog 24 #[.int .u8 n] w fun e w' => e = .returned (.slice (some ⟨w.heap.size, 0, none⟩) 64 64) ∧ w' = w.alloc (.cells (secC (oneS b)) 5) := by
  rw [← hb]
  exact full_any b w
theorem s_waits {l : List Nat} {n : Nat} (h : St w w1 q P) (hl : wsD P = l) (hn : l.length = n) : Calls Try.prog 16 #[pv q] w1 fun e w2 => ∃ a cap, e = .returned (.slice a n cap) ∧ IntsN w2 a l ∧ St w w2 q P ∧ Below w1.heap.size w1 w2 := by
  rw [← hn, ← hl]
  refine Calls.mono (waits_any w1 q P h.pl) ?_
  rintro e w2 ⟨a, cap, rfl, hI, _, hb⟩
  exact ⟨a, cap, rfl, hI, h.below hb, hb⟩
end
theorem eqI_is {l l' : List Int} {n n' : Nat} {r : Bool} {a a' : Option Addr} {cap cap' : Nat} {w : World} (hn : l.length = n) (hn' : l'.length = n') (hr : decide (l = l') = r) (hB : Ints w a l) (hB' : Ints w a' l') :
    Calls Try.prog 47 #[.slice a n cap, .slice a' n' cap'] w fun e w' => e = .returned (.bool r) ∧ Below w.heap.size w w' := by
  rw [← hn, ← hn', ← hr]
  exact eqInts_any a a' cap cap' l l' w hB hB'
theorem bools_new (w : World) (l : List Bool) (h : l.length ≤ 140737488355328) (t : TypeId) : Bools (w.alloc (.cells (l.map Value.bool).toArray t)) (some ⟨w.heap.size, 0, none⟩) l :=
  ⟨h, .inr ⟨w.heap.size, 0, rfl, fun i hi => by rw [cell_new]; simp [List.getElem?_eq_getElem hi]⟩⟩
theorem ints_new (w : World) (l : List Int) (h : l.length ≤ 9223372036854775807) (t : TypeId) : Ints (w.alloc (.cells (l.map (Value.int .i64)).toArray t)) (some ⟨w.heap.size, 0, none⟩) l :=
  ⟨h, .inr ⟨w.heap.size, 0, rfl, fun i hi => by rw [cell_new]; simp [List.getElem?_eq_getElem hi]⟩⟩
end Go.Proofs.Ytdhidcoglioalaa.Walks
