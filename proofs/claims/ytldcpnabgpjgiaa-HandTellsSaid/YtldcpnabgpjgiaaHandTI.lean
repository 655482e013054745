/-
  The document's New.
-/
import Derived.Test.YtldcpnabgpjgiaaHandTG
namespace Go.Proofs.Ytldcpnabgpjgiaa.WalksT
open Go.Proofs.Ytldcpnabgpjgiaa.Walks
open Go.RowKit Plain
set_option linter.unusedVariables false

def RefPost (B : Nat → Prop) (f : Int) (l : List Int) (w : World) (e : Ending) (w' : World) : Prop :=
  ∃ p, e = .returned (.tuple #[.pointer (some ⟨p, 0, none⟩), .int .i64 0]) ∧ RefX w' p w.heap.size B f l [] [] ∧ Below w.heap.size w w'
theorem ref_at {w : World} {base : Nat} {f : Int} {l : List Int} {a : Option Addr} {cap : Nat} {B : Nat → Prop} (hI : Ints w a l) (hf : Far B a l) (hc : a = none → cap = 0) (hb : base ≤ w.heap.size) (hB : ¬ B w.heap.size)
    {wf : World} (hwf : wf = w.alloc (.cells #[.int .i64 f, .slice a l.length cap, .slice none 0 0, .slice none 0 0] 142)) : RefX wf w.heap.size base B f l [] [] := by
  have hh : wf.heap[w.heap.size]? = some (.cells #[.int .i64 f, .slice a l.length cap, .slice none 0 0, .slice none 0 0] 142 (0, 0)) := by rw [hwf]; exact heap_alloc_new _ _
  have hI' : Ints wf a l := by rw [hwf]; exact hI.alloc _
  have hno : ∀ b, ¬ tabOf wf w.heap.size b := by
    rintro b ⟨j, n, cap, rfl | rfl, hc⟩
    · rw [cell_of_row _ _ _ _ _ _ hh] at hc; simp at hc
    · rw [cell_of_row _ _ _ _ _ _ hh] at hc; simp at hc
  refine ⟨⟨_, hh⟩, ?_, ⟨a, cap, ?_, hI', hf.imp (fun b hb => hb.elim id fun hr => absurd hr (hno b)), hc⟩, ⟨.slice none 0 0, [], ?_, ⟨rfl, .inl ⟨rfl, rfl⟩⟩, fun g hg => by simp [Value.ownBlock] at hg, fun i hi => by simp at hi⟩,
    ⟨.slice none 0 0, [], ?_, ⟨rfl, .inl ⟨rfl, rfl⟩⟩, fun g hg => by simp [Value.ownBlock] at hg, fun i hi => by simp at hi⟩, frozen_of_row _ _ 2 _ _ hh, frozen_of_row _ _ 3 _ _ hh, hB, hb⟩
  · rw [cell_of_row _ _ _ _ _ _ hh]; rfl
  · rw [cell_of_row _ _ _ _ _ _ hh]; rfl
  · rw [cell_of_row _ _ _ _ _ _ hh]; rfl
  · rw [cell_of_row _ _ _ _ _ _ hh]; rfl
set_option maxRecDepth 100000 in
set_option maxHeartbeats 4000000 in
theorem refNew_good (f : Int) (a : Option Addr) (cap : Nat) (l : List Int) (c : Int) (w : World) (hI : Ints w a l) (hc : a = none → cap = 0) (hg : goodC f l = true) (h1 : 1 ≤ c) (h2 : c ≤ 2) (B : Nat → Prop) (hB : ∀ b, w.heap.size ≤ b → ¬ B b) :
    Calls Try.prog 30 #[.agg #[.int .i64 f, .slice a l.length cap], .int .i64 c] w (RefPost B f l w) := by
  have HBB := Lib.hid hB
  have hl7 := good_short hg
  have he := errC_good hg
  have HI := Lib.hid hI
  have HC := Lib.hid hc
  clear hI hc hg hB
  go_enter Try.func30, Try.ntmps30
  go_wp2_with fail
  refine Calls.mono (refCheck_any f a cap l _ (HI.out.alloc _)) ?_
  rintro e w1 ⟨rfl, hb⟩
  obtain ⟨c0, c1, hb1⟩ := boxed_crew hb
  have HI1 := Lib.hid (HI.out.below hb1)
  rw [he]
  clear he hb
  go_wp2_with fail
  refine Calls.mono (copy_any f a cap l _ HI1.out HC.out (by omega)) ?_
  rintro e w2 ⟨a', cap', rfl, hO, hb2⟩
  have HB2 := Lib.hid (Below.step hb1 hb2)
  have hz : w.heap.size ≤ w2.heap.size := HB2.out.size
  have HX := Lib.hid (ref_at (w := w2) (base := w.heap.size) (f := f) (B := B) (Own.ints hO (by omega)) (.inr fun x hx => HBB.out _ (by have := hO.base_le hx; have := hb1.size; omega)) (Own.nocap hO) hz (HBB.out _ hz) rfl)
  clear c0 c1 hO hb1 hb2
  go_wp2
  go_ret2
  exact ⟨_, rfl, HX.out, Below.step HB2.out (Below.new _ _)⟩
def RefBad (E : Int) (w : World) (e : Ending) (w' : World) : Prop := e = .returned (.tuple #[.pointer none, .int .i64 E]) ∧ Below w.heap.size w w'
set_option maxRecDepth 100000 in
set_option maxHeartbeats 4000000 in
theorem refNew_crew (f : Int) (a : Option Addr) (cap : Nat) (l : List Int) (c : Int) (w : World) (hI : Ints w a l) (hg : goodC f l = false) :
    Calls Try.prog 30 #[.agg #[.int .i64 f, .slice a l.length cap], .int .i64 c] w (RefBad 110 w) := by
  have he := errC_bad hg
  have HI := Lib.hid hI
  clear hI hg
  go_enter Try.func30, Try.ntmps30
  go_wp2_with fail
  refine Calls.mono (refCheck_any f a cap l _ (HI.out.alloc _)) ?_
  rintro e w1 ⟨rfl, hb⟩
  obtain ⟨c0, c1, hb1⟩ := boxed_crew hb
  rw [he]
  clear he hb
  go_wp2
  go_ret2
  exact ⟨rfl, hb1⟩
set_option maxRecDepth 100000 in
set_option maxHeartbeats 4000000 in
theorem refNew_arg (f : Int) (a : Option Addr) (cap : Nat) (l : List Int) (c : Int) (w : World) (hI : Ints w a l) (hg : goodC f l = true) (hc : c < 1 ∨ 2 < c) :
    Calls Try.prog 30 #[.agg #[.int .i64 f, .slice a l.length cap], .int .i64 c] w (RefBad 2 w) := by
  have he := errC_good hg
  have HI := Lib.hid hI
  clear hI hg
  rcases hc with hc | hc
  · go_enter Try.func30, Try.ntmps30
    go_wp2_with fail
    refine Calls.mono (refCheck_any f a cap l _ (HI.out.alloc _)) ?_
    rintro e w1 ⟨rfl, hb⟩
    obtain ⟨c0, c1, hb1⟩ := boxed_crew hb
    rw [he]
    clear he hb
    go_wp2
    go_ret2
    exact ⟨rfl, hb1⟩
  · have hc' : ¬ c < 1 := by omega
    go_enter Try.func30, Try.ntmps30
    go_wp2_with fail
    refine Calls.mono (refCheck_any f a cap l _ (HI.out.alloc _)) ?_
    rintro e w1 ⟨rfl, hb⟩
    obtain ⟨c0, c1, hb1⟩ := boxed_crew hb
    rw [he]
    clear he hb
    go_wp2
    go_ret2
    exact ⟨rfl, hb1⟩
end Go.Proofs.Ytldcpnabgpjgiaa.WalksT
