/-
  Facts of the whole program that every row of this seat asks: what the dump's head says.
-/
import Derived.Test.YtdhidcoglioalaaGreatRows
import Derived.ProofKit
namespace Go.Proofs.YtdhidcoglioalaaGreat.Head
theorem initIs : Tryz.checked.prog.initOrder = "harness 48ebef4b84eb5b69936f85d4733005ad0713f38fd1e0fc8dce2078460a748964 cut at bastide/bastidelaw07.JournalNames" := by kernel_rfl
set_option maxRecDepth 100000 in
theorem letters : ("harness 48ebef4b84eb5b69936f85d4733005ad0713f38fd1e0fc8dce2078460a748964 cut at bastide/bastidelaw07.JournalNames" : String).toList = [Char.ofNat 104, Char.ofNat 97, Char.ofNat 114, Char.ofNat 110, Char.ofNat 101, Char.ofNat 115, Char.ofNat 115, Char.ofNat 32, Char.ofNat 52, Char.ofNat 56, Char.ofNat 101, Char.ofNat 98, Char.ofNat 101, Char.ofNat 102, Char.ofNat 52, Char.ofNat 98, Char.ofNat 56, Char.ofNat 52, Char.ofNat 101, Char.ofNat 98, Char.ofNat 53, Char.ofNat 98, Char.ofNat 54, Char.ofNat 57, Char.ofNat 57, Char.ofNat 51, Char.ofNat 54, Char.ofNat 102, Char.ofNat 56, Char.ofNat 53, Char.ofNat 100, Char.ofNat 52, Char.ofNat 55, Char.ofNat 51, Char.ofNat 51, Char.ofNat 48, Char.ofNat 48, Char.ofNat 53, Char.ofNat 97, Char.ofNat 100, Char.ofNat 48, Char.ofNat 55, Char.ofNat 49, Char.ofNat 51, Char.ofNat 102, Char.ofNat 51, Char.ofNat 56, Char.ofNat 102, Char.ofNat 100, Char.ofNat 49, Char.ofNat 101, Char.ofNat 48, Char.ofNat 102, Char.ofNat 99, Char.ofNat 56, Char.ofNat 100, Char.ofNat 99, Char.ofNat 101, Char.ofNat 50, Char.ofNat 48, Char.ofNat 55, Char.ofNat 56, Char.ofNat 52, Char.ofNat 54, Char.ofNat 48, Char.ofNat 97, Char.ofNat 55, Char.ofNat 52, Char.ofNat 56, Char.ofNat 57, Char.ofNat 54, Char.ofNat 52, Char.ofNat 32, Char.ofNat 99, Char.ofNat 117, Char.ofNat 116, Char.ofNat 32, Char.ofNat 97, Char.ofNat 116, Char.ofNat 32, Char.ofNat 98, Char.ofNat 97, Char.ofNat 115, Char.ofNat 116, Char.ofNat 105, Char.ofNat 100, Char.ofNat 101, Char.ofNat 47, Char.ofNat 98, Char.ofNat 97, Char.ofNat 115, Char.ofNat 116, Char.ofNat 105, Char.ofNat 100, Char.ofNat 101, Char.ofNat 108, Char.ofNat 97, Char.ofNat 119, Char.ofNat 48, Char.ofNat 55, Char.ofNat 46, Char.ofNat 74, Char.ofNat 111, Char.ofNat 117, Char.ofNat 114, Char.ofNat 110, Char.ofNat 97, Char.ofNat 108, Char.ofNat 78, Char.ofNat 97, Char.ofNat 109, Char.ofNat 101, Char.ofNat 115] := String.toList_ofList
set_option maxRecDepth 100000 in
theorem initWords : behindMainWord (wordsSigns [Char.ofNat 104, Char.ofNat 97, Char.ofNat 114, Char.ofNat 110, Char.ofNat 101, Char.ofNat 115, Char.ofNat 115, Char.ofNat 32, Char.ofNat 52, Char.ofNat 56, Char.ofNat 101, Char.ofNat 98, Char.ofNat 101, Char.ofNat 102, Char.ofNat 52, Char.ofNat 98, Char.ofNat 56, Char.ofNat 52, Char.ofNat 101, Char.ofNat 98, Char.ofNat 53, Char.ofNat 98, Char.ofNat 54, Char.ofNat 57, Char.ofNat 57, Char.ofNat 51, Char.ofNat 54, Char.ofNat 102, Char.ofNat 56, Char.ofNat 53, Char.ofNat 100, Char.ofNat 52, Char.ofNat 55, Char.ofNat 51, Char.ofNat 51, Char.ofNat 48, Char.ofNat 48, Char.ofNat 53, Char.ofNat 97, Char.ofNat 100, Char.ofNat 48, Char.ofNat 55, Char.ofNat 49, Char.ofNat 51, Char.ofNat 102, Char.ofNat 51, Char.ofNat 56, Char.ofNat 102, Char.ofNat 100, Char.ofNat 49, Char.ofNat 101, Char.ofNat 48, Char.ofNat 102, Char.ofNat 99, Char.ofNat 56, Char.ofNat 100, Char.ofNat 99, Char.ofNat 101, Char.ofNat 50, Char.ofNat 48, Char.ofNat 55, Char.ofNat 56, Char.ofNat 52, Char.ofNat 54, Char.ofNat 48, Char.ofNat 97, Char.ofNat 55, Char.ofNat 52, Char.ofNat 56, Char.ofNat 57, Char.ofNat 54, Char.ofNat 52, Char.ofNat 32, Char.ofNat 99, Char.ofNat 117, Char.ofNat 116, Char.ofNat 32, Char.ofNat 97, Char.ofNat 116, Char.ofNat 32, Char.ofNat 98, Char.ofNat 97, Char.ofNat 115, Char.ofNat 116, Char.ofNat 105, Char.ofNat 100, Char.ofNat 101, Char.ofNat 47, Char.ofNat 98, Char.ofNat 97, Char.ofNat 115, Char.ofNat 116, Char.ofNat 105, Char.ofNat 100, Char.ofNat 101, Char.ofNat 108, Char.ofNat 97, Char.ofNat 119, Char.ofNat 48, Char.ofNat 55, Char.ofNat 46, Char.ofNat 74, Char.ofNat 111, Char.ofNat 117, Char.ofNat 114, Char.ofNat 110, Char.ofNat 97, Char.ofNat 108, Char.ofNat 78, Char.ofNat 97, Char.ofNat 109, Char.ofNat 101, Char.ofNat 115]) = [[Char.ofNat 99, Char.ofNat 117, Char.ofNat 116], [Char.ofNat 97, Char.ofNat 116], [Char.ofNat 98, Char.ofNat 97, Char.ofNat 115, Char.ofNat 116, Char.ofNat 105, Char.ofNat 100, Char.ofNat 101, Char.ofNat 47, Char.ofNat 98, Char.ofNat 97, Char.ofNat 115, Char.ofNat 116, Char.ofNat 105, Char.ofNat 100, Char.ofNat 101, Char.ofNat 108, Char.ofNat 97, Char.ofNat 119, Char.ofNat 48, Char.ofNat 55, Char.ofNat 46, Char.ofNat 74, Char.ofNat 111, Char.ofNat 117, Char.ofNat 114, Char.ofNat 110, Char.ofNat 97, Char.ofNat 108, Char.ofNat 78, Char.ofNat 97, Char.ofNat 109, Char.ofNat 101, Char.ofNat 115]] := by kernel_rfl
set_option maxRecDepth 100000 in
theorem words : behindMainWord (wordsSigns Tryz.checked.prog.initOrder.toList) = [[Char.ofNat 99, Char.ofNat 117, Char.ofNat 116], [Char.ofNat 97, Char.ofNat 116], [Char.ofNat 98, Char.ofNat 97, Char.ofNat 115, Char.ofNat 116, Char.ofNat 105, Char.ofNat 100, Char.ofNat 101, Char.ofNat 47, Char.ofNat 98, Char.ofNat 97, Char.ofNat 115, Char.ofNat 116, Char.ofNat 105, Char.ofNat 100, Char.ofNat 101, Char.ofNat 108, Char.ofNat 97, Char.ofNat 119, Char.ofNat 48, Char.ofNat 55, Char.ofNat 46, Char.ofNat 74, Char.ofNat 111, Char.ofNat 117, Char.ofNat 114, Char.ofNat 110, Char.ofNat 97, Char.ofNat 108, Char.ofNat 78, Char.ofNat 97, Char.ofNat 109, Char.ofNat 101, Char.ofNat 115]] := by rw [initIs, letters]; exact initWords
set_option maxRecDepth 100000 in
theorem strip : stripLifts liftWords [[Char.ofNat 99, Char.ofNat 117, Char.ofNat 116], [Char.ofNat 97, Char.ofNat 116], [Char.ofNat 98, Char.ofNat 97, Char.ofNat 115, Char.ofNat 116, Char.ofNat 105, Char.ofNat 100, Char.ofNat 101, Char.ofNat 47, Char.ofNat 98, Char.ofNat 97, Char.ofNat 115, Char.ofNat 116, Char.ofNat 105, Char.ofNat 100, Char.ofNat 101, Char.ofNat 108, Char.ofNat 97, Char.ofNat 119, Char.ofNat 48, Char.ofNat 55, Char.ofNat 46, Char.ofNat 74, Char.ofNat 111, Char.ofNat 117, Char.ofNat 114, Char.ofNat 110, Char.ofNat 97, Char.ofNat 108, Char.ofNat 78, Char.ofNat 97, Char.ofNat 109, Char.ofNat 101, Char.ofNat 115]] = ([], [[Char.ofNat 99, Char.ofNat 117, Char.ofNat 116], [Char.ofNat 97, Char.ofNat 116], [Char.ofNat 98, Char.ofNat 97, Char.ofNat 115, Char.ofNat 116, Char.ofNat 105, Char.ofNat 100, Char.ofNat 101, Char.ofNat 47, Char.ofNat 98, Char.ofNat 97, Char.ofNat 115, Char.ofNat 116, Char.ofNat 105, Char.ofNat 100, Char.ofNat 101, Char.ofNat 108, Char.ofNat 97, Char.ofNat 119, Char.ofNat 48, Char.ofNat 55, Char.ofNat 46, Char.ofNat 74, Char.ofNat 111, Char.ofNat 117, Char.ofNat 114, Char.ofNat 110, Char.ofNat 97, Char.ofNat 108, Char.ofNat 78, Char.ofNat 97, Char.ofNat 109, Char.ofNat 101, Char.ofNat 115]]) := by kernel_rfl
theorem lays : Tryz.checked.prog.laysLater = false := by kernel_rfl
theorem reflects : Tryz.checked.prog.bearsReflect = false := by kernel_rfl
theorem doors : Tryz.checked.prog.doorFits [] = true := by kernel_rfl
theorem cutWord : ([Char.ofNat 99, Char.ofNat 117, Char.ofNat 116] == "gc".toList) = false ∧ ([Char.ofNat 99, Char.ofNat 117, Char.ofNat 116] == "spec".toList) = false ∧ ([Char.ofNat 99, Char.ofNat 117, Char.ofNat 116] == "carried".toList) = false ∧ ([Char.ofNat 99, Char.ofNat 117, Char.ofNat 116] == "cut".toList) = true ∧ (some [Char.ofNat 99, Char.ofNat 117, Char.ofNat 116] == some "cut".toList) = true ∧ (some [Char.ofNat 99, Char.ofNat 117, Char.ofNat 116] == some "carried".toList) = false := ⟨by kernel_rfl, by kernel_rfl, by kernel_rfl, by kernel_rfl, by kernel_rfl, by kernel_rfl⟩

theorem enters_of {P : Program} {c : List Char} {rest : List (List Char)} (h : behindMainWord (wordsSigns P.initOrder.toList) = c :: rest) (hs : stripLifts liftWords (c :: rest) = ([], c :: rest)) (hc : (some c == some "cut".toList) = true)
    (hl : P.laysLater = false) (hr : P.bearsReflect = false) (hd : P.doorFits [] = true) : P.mayEnter = true := by
  unfold Program.mayEnter
  rw [h]
  simp only [hs, List.head?_cons, hc, hl, hr, hd]
  simp
theorem makes_of {P : Program} {c : List Char} {rest : List (List Char)} (h : behindMainWord (wordsSigns P.initOrder.toList) = c :: rest) (h1 : (c == "gc".toList) = false) (h2 : (c == "spec".toList) = false) (h3 : (c == "cut".toList) = true) : P.make = some .cut := by
  unfold Program.make
  rw [h]
  simp only [h1, h2, h3]
  simp
theorem lifts_of {P : Program} {c : List Char} {rest : List (List Char)} (h : behindMainWord (wordsSigns P.initOrder.toList) = c :: rest) (hs : stripLifts liftWords (c :: rest) = ([], c :: rest)) (hc : (some c == some "cut".toList) = true) (hn : (some c == some "carried".toList) = false) : P.liftsFinal = false := by
  unfold Program.liftsFinal Program.headLifts
  rw [h]
  simp only [hs, List.head?_cons, hc, hn]
  simp
set_option maxRecDepth 100000 in
theorem enters : Tryz.checked.prog.mayEnter = true := enters_of words strip cutWord.2.2.2.2.1 lays reflects doors
set_option maxRecDepth 100000 in
theorem makes : Tryz.checked.prog.make = some .cut := makes_of words cutWord.1 cutWord.2.1 cutWord.2.2.2.1
set_option maxRecDepth 100000 in
theorem lifts : Tryz.checked.prog.liftsFinal = false := lifts_of words strip cutWord.2.2.2.2.1 cutWord.2.2.2.2.2
theorem liftsAs {b : Bool} (h : b = false) : (b == Tryz.checked.prog.liftsFinal) = true := by rw [lifts, h]; rfl
theorem makesAs {m : Make} (h : m = .cut) : (Tryz.checked.prog.make == some m) = true := by rw [makes, h]; rfl
theorem laid : laidOutB Tryz.checked.prog = true := by kernel_rfl
theorem rowed : mapsRowed Tryz.checked.prog = true := by kernel_rfl
theorem heard : Tryz.checked.prog.stopsHeard = true := by kernel_rfl
theorem and_mk {a b : Bool} (ha : a = true) (hb : b = true) : (a && b) = true := by rw [ha, hb]; rfl
theorem own : ownKnob Tryz.prog.godebug = none := by kernel_rfl
end Go.Proofs.YtdhidcoglioalaaGreat.Head
