/-
  No cell of these rows narrows 'for every input' (looked for: loops, veiled, ifaces, maps, wideKeys, modest, calm, conditions, laid).
  DERIVED. THE GIVEN ROWS OF THIS SEAT. 11 by the template 'for every input the law returns true; each argument reads behind the call as it read before'; 0 by the template 'total and deterministic' (their statements: YtdhidcoglioalaaTotals.lean).
  GIVEN WITH THE SEED: the statements are not yours to turn. If you find one false, say at which input.
  Laid BY PROGRAM, IN A SANDBOX (cutbox-rows.mjs): the forced cells as the released guide's own fill.sh prints them over the translation 7a2732f74522b01d… (all of the seat's roots in one cut). By AI agents, Wed Nov 11 2026. No macro, syntax, notation, axiom, sorry.
-/
import Derived.Test.YtdhidcoglioalaaChecked
import GoSem.Claim
import GoSem.ClaimJoined
import GoSem.ClaimMapViews
import Derived.JoinedTies
import Derived.KernelRfl
namespace Go.Proofs.Ytdhidcoglioalaa
/- THE CELL 'sum', in the pinned program and in every row, IS THE sha256 OF THE DUMP (.gsa) THAT YtdhidcoglioalaaProg.lean LOADS. Nothing in Lean hashes anything: it is a label: what it is worth is what the hold of that sum in a sandbox is worth. -/
noncomputable def Try.pinned : Pinned := { name := "ytdhidcoglioalaa", sum := "7a2732f74522b01d785c6e1406af7573b12397b0b3784bae997ede29067fa86c", checked := Try.checked }
namespace Rows
def none {H : Type} : Left H := { results := [], args := [] }

/-- 'bastidelaw05.PlateStays': WHATEVER THE INPUT: true; the input reads as it did. -/
def plateStaysSpec : ChangeSpec := { name := "plateStays", fn := fun _ => fun
  | [d1, d2] => { results := [.lit (.bool true)], args := [d1, d2] }
  | _ => none }
def plateStaysRow : OpenClaim := { program := "ytdhidcoglioalaa", sum := "7a2732f74522b01d785c6e1406af7573b12397b0b3784bae997ede29067fa86c", func := "bastide/bastidelaw05.PlateStays", spec := "plateStays", unfollowed := true, recurses := true, apart := false }
def PlateStaysSaid : Prop := plateStaysRow.holds Try.pinned (OpenSpec.ofChange plateStaysSpec)

/-- ITS FALSE NEIGHBOUR: 'it returns false'. Refute it at one input. -/
def plateStaysWrong : ChangeSpec := { name := "plateStays", fn := fun _ => fun
  | [d1, d2] => { results := [.lit (.bool false)], args := [d1, d2] }
  | _ => none }
def PlateStaysWrongFalsely : Prop := plateStaysRow.holds Try.pinned (OpenSpec.ofChange plateStaysWrong)

/-- 'bastidelaw05.PlateAll': WHATEVER THE INPUT: true; the input reads as it did. -/
def plateAllSpec : ChangeSpec := { name := "plateAll", fn := fun _ => fun
  | [d] => { results := [.lit (.bool true)], args := [d] }
  | _ => none }
def plateAllRow : OpenClaim := { program := "ytdhidcoglioalaa", sum := "7a2732f74522b01d785c6e1406af7573b12397b0b3784bae997ede29067fa86c", func := "bastide/bastidelaw05.PlateAll", spec := "plateAll", unfollowed := true, recurses := true, apart := false }
def PlateAllSaid : Prop := plateAllRow.holds Try.pinned (OpenSpec.ofChange plateAllSpec)

/-- ITS FALSE NEIGHBOUR: 'it returns false'. Refute it at one input. -/
def plateAllWrong : ChangeSpec := { name := "plateAll", fn := fun _ => fun
  | [d] => { results := [.lit (.bool false)], args := [d] }
  | _ => none }
def PlateAllWrongFalsely : Prop := plateAllRow.holds Try.pinned (OpenSpec.ofChange plateAllWrong)

/-- 'bastidelaw05.PlateFails': WHATEVER THE INPUT: true; the input reads as it did. -/
def plateFailsSpec : ChangeSpec := { name := "plateFails", fn := fun _ => fun
  | [d] => { results := [.lit (.bool true)], args := [d] }
  | _ => none }
def plateFailsRow : OpenClaim := { program := "ytdhidcoglioalaa", sum := "7a2732f74522b01d785c6e1406af7573b12397b0b3784bae997ede29067fa86c", func := "bastide/bastidelaw05.PlateFails", spec := "plateFails", unfollowed := true, recurses := true, apart := false }
def PlateFailsSaid : Prop := plateFailsRow.holds Try.pinned (OpenSpec.ofChange plateFailsSpec)

/-- ITS FALSE NEIGHBOUR: 'it returns false'. Refute it at one input. -/
def plateFailsWrong : ChangeSpec := { name := "plateFails", fn := fun _ => fun
  | [d] => { results := [.lit (.bool false)], args := [d] }
  | _ => none }
def PlateFailsWrongFalsely : Prop := plateFailsRow.holds Try.pinned (OpenSpec.ofChange plateFailsWrong)

/-- 'bastidelaw05.PlateTurned': WHATEVER THE INPUT: true; the input reads as it did. -/
def plateTurnedSpec : ChangeSpec := { name := "plateTurned", fn := fun _ => fun
  | [d1, d2] => { results := [.lit (.bool true)], args := [d1, d2] }
  | _ => none }
def plateTurnedRow : OpenClaim := { program := "ytdhidcoglioalaa", sum := "7a2732f74522b01d785c6e1406af7573b12397b0b3784bae997ede29067fa86c", func := "bastide/bastidelaw05.PlateTurned", spec := "plateTurned", unfollowed := true, recurses := true, apart := false }
def PlateTurnedSaid : Prop := plateTurnedRow.holds Try.pinned (OpenSpec.ofChange plateTurnedSpec)

/-- ITS FALSE NEIGHBOUR: 'it returns false'. Refute it at one input. -/
def plateTurnedWrong : ChangeSpec := { name := "plateTurned", fn := fun _ => fun
  | [d1, d2] => { results := [.lit (.bool false)], args := [d1, d2] }
  | _ => none }
def PlateTurnedWrongFalsely : Prop := plateTurnedRow.holds Try.pinned (OpenSpec.ofChange plateTurnedWrong)

/-- 'bastidelaw05.PlatePlays': WHATEVER THE INPUT: true; the input reads as it did. -/
def platePlaysSpec : ChangeSpec := { name := "platePlays", fn := fun _ => fun
  | [d1, d2] => { results := [.lit (.bool true)], args := [d1, d2] }
  | _ => none }
def platePlaysRow : OpenClaim := { program := "ytdhidcoglioalaa", sum := "7a2732f74522b01d785c6e1406af7573b12397b0b3784bae997ede29067fa86c", func := "bastide/bastidelaw05.PlatePlays", spec := "platePlays", unfollowed := true, recurses := true, apart := false }
def PlatePlaysSaid : Prop := platePlaysRow.holds Try.pinned (OpenSpec.ofChange platePlaysSpec)

/-- ITS FALSE NEIGHBOUR: 'it returns false'. Refute it at one input. -/
def platePlaysWrong : ChangeSpec := { name := "platePlays", fn := fun _ => fun
  | [d1, d2] => { results := [.lit (.bool false)], args := [d1, d2] }
  | _ => none }
def PlatePlaysWrongFalsely : Prop := platePlaysRow.holds Try.pinned (OpenSpec.ofChange platePlaysWrong)

/-- 'bastidelaw05.PlateNames': WHATEVER THE INPUT: true; the input reads as it did. -/
def plateNamesSpec : ChangeSpec := { name := "plateNames", fn := fun _ => fun
  | [] => { results := [.lit (.bool true)], args := [] }
  | _ => none }
def plateNamesRow : OpenClaim := { program := "ytdhidcoglioalaa", sum := "7a2732f74522b01d785c6e1406af7573b12397b0b3784bae997ede29067fa86c", func := "bastide/bastidelaw05.PlateNames", spec := "plateNames", unfollowed := true, recurses := true, apart := false }
def PlateNamesSaid : Prop := plateNamesRow.holds Try.pinned (OpenSpec.ofChange plateNamesSpec)

/-- ITS FALSE NEIGHBOUR: 'it returns false'. Refute it at one input. -/
def plateNamesWrong : ChangeSpec := { name := "plateNames", fn := fun _ => fun
  | [] => { results := [.lit (.bool false)], args := [] }
  | _ => none }
def PlateNamesWrongFalsely : Prop := plateNamesRow.holds Try.pinned (OpenSpec.ofChange plateNamesWrong)

/-- 'bastidelaw07.JournalKeeps': WHATEVER THE INPUT: true; the input reads as it did. -/
def journalKeepsSpec : ChangeSpec := { name := "journalKeeps", fn := fun _ => fun
  | [d1, d2] => { results := [.lit (.bool true)], args := [d1, d2] }
  | _ => none }
def journalKeepsRow : OpenClaim := { program := "ytdhidcoglioalaa", sum := "7a2732f74522b01d785c6e1406af7573b12397b0b3784bae997ede29067fa86c", func := "bastide/bastidelaw07.JournalKeeps", spec := "journalKeeps", unfollowed := true, recurses := true, apart := false }
def JournalKeepsSaid : Prop := journalKeepsRow.holds Try.pinned (OpenSpec.ofChange journalKeepsSpec)

/-- ITS FALSE NEIGHBOUR: 'it returns false'. Refute it at one input. -/
def journalKeepsWrong : ChangeSpec := { name := "journalKeeps", fn := fun _ => fun
  | [d1, d2] => { results := [.lit (.bool false)], args := [d1, d2] }
  | _ => none }
def JournalKeepsWrongFalsely : Prop := journalKeepsRow.holds Try.pinned (OpenSpec.ofChange journalKeepsWrong)

/-- 'bastidelaw07.JournalApart': WHATEVER THE INPUT: true; the input reads as it did. -/
def journalApartSpec : ChangeSpec := { name := "journalApart", fn := fun _ => fun
  | [d] => { results := [.lit (.bool true)], args := [d] }
  | _ => none }
def journalApartRow : OpenClaim := { program := "ytdhidcoglioalaa", sum := "7a2732f74522b01d785c6e1406af7573b12397b0b3784bae997ede29067fa86c", func := "bastide/bastidelaw07.JournalApart", spec := "journalApart", unfollowed := true, recurses := true, apart := false }
def JournalApartSaid : Prop := journalApartRow.holds Try.pinned (OpenSpec.ofChange journalApartSpec)

/-- ITS FALSE NEIGHBOUR: 'it returns false'. Refute it at one input. -/
def journalApartWrong : ChangeSpec := { name := "journalApart", fn := fun _ => fun
  | [d] => { results := [.lit (.bool false)], args := [d] }
  | _ => none }
def JournalApartWrongFalsely : Prop := journalApartRow.holds Try.pinned (OpenSpec.ofChange journalApartWrong)

/-- 'bastidelaw07.JournalBack': WHATEVER THE INPUT: true; the input reads as it did. -/
def journalBackSpec : ChangeSpec := { name := "journalBack", fn := fun _ => fun
  | [d] => { results := [.lit (.bool true)], args := [d] }
  | _ => none }
def journalBackRow : OpenClaim := { program := "ytdhidcoglioalaa", sum := "7a2732f74522b01d785c6e1406af7573b12397b0b3784bae997ede29067fa86c", func := "bastide/bastidelaw07.JournalBack", spec := "journalBack", unfollowed := true, recurses := true, apart := false }
def JournalBackSaid : Prop := journalBackRow.holds Try.pinned (OpenSpec.ofChange journalBackSpec)

/-- ITS FALSE NEIGHBOUR: 'it returns false'. Refute it at one input. -/
def journalBackWrong : ChangeSpec := { name := "journalBack", fn := fun _ => fun
  | [d] => { results := [.lit (.bool false)], args := [d] }
  | _ => none }
def JournalBackWrongFalsely : Prop := journalBackRow.holds Try.pinned (OpenSpec.ofChange journalBackWrong)

/-- 'bastidelaw07.JournalTurned': WHATEVER THE INPUT: true; the input reads as it did. -/
def journalTurnedSpec : ChangeSpec := { name := "journalTurned", fn := fun _ => fun
  | [d1, d2, d3] => { results := [.lit (.bool true)], args := [d1, d2, d3] }
  | _ => none }
def journalTurnedRow : OpenClaim := { program := "ytdhidcoglioalaa", sum := "7a2732f74522b01d785c6e1406af7573b12397b0b3784bae997ede29067fa86c", func := "bastide/bastidelaw07.JournalTurned", spec := "journalTurned", unfollowed := true, recurses := true, apart := false }
def JournalTurnedSaid : Prop := journalTurnedRow.holds Try.pinned (OpenSpec.ofChange journalTurnedSpec)

/-- ITS FALSE NEIGHBOUR: 'it returns false'. Refute it at one input. -/
def journalTurnedWrong : ChangeSpec := { name := "journalTurned", fn := fun _ => fun
  | [d1, d2, d3] => { results := [.lit (.bool false)], args := [d1, d2, d3] }
  | _ => none }
def JournalTurnedWrongFalsely : Prop := journalTurnedRow.holds Try.pinned (OpenSpec.ofChange journalTurnedWrong)

/-- 'bastidelaw07.JournalLogged': WHATEVER THE INPUT: true; the input reads as it did. -/
def journalLoggedSpec : ChangeSpec := { name := "journalLogged", fn := fun _ => fun
  | [d1, d2] => { results := [.lit (.bool true)], args := [d1, d2] }
  | _ => none }
def journalLoggedRow : OpenClaim := { program := "ytdhidcoglioalaa", sum := "7a2732f74522b01d785c6e1406af7573b12397b0b3784bae997ede29067fa86c", func := "bastide/bastidelaw07.JournalLogged", spec := "journalLogged", unfollowed := true, recurses := true, apart := false }
def JournalLoggedSaid : Prop := journalLoggedRow.holds Try.pinned (OpenSpec.ofChange journalLoggedSpec)

/-- ITS FALSE NEIGHBOUR: 'it returns false'. Refute it at one input. -/
def journalLoggedWrong : ChangeSpec := { name := "journalLogged", fn := fun _ => fun
  | [d1, d2] => { results := [.lit (.bool false)], args := [d1, d2] }
  | _ => none }
def JournalLoggedWrongFalsely : Prop := journalLoggedRow.holds Try.pinned (OpenSpec.ofChange journalLoggedWrong)

/- THE SECOND FORM. 'bulk': how many values and letters a reading holds, each counted each time it is reached (what is shared counts as often as it is met; a slice's spare places count too). A statement '..UptoSaid' is the law's where the arguments, and the package variables that the reading takes, are together of bulk at most 1048576: NARROWER than '..Said'. Prove '..Said' where nothing that the law and all that it calls make is longer than what came in: it says more and counts as full. Else prove '..UptoSaid'. A law counts once. -/
mutual
def uptoBulk {H : Type} : DataW H → Nat
  | .lit (.string bytes) => bytes.length + 1
  | .lit _ => 1
  | .nil => 1
  | .ptr d => uptoBulk d + 1
  | .slice elems spare => uptoBulkAll elems + uptoBulkAll spare + 1
  | .agg parts => uptoBulkAll parts + 1
  | .iface _ d => uptoBulk d + 1
  | .map entries => uptoBulkEntries entries + 1
  | .held _ => 1
def uptoBulkAll {H : Type} : List (DataW H) → Nat
  | [] => 0
  | d :: r => uptoBulk d + uptoBulkAll r
def uptoBulkEntries {H : Type} : List (Lit × DataW H) → Nat
  | [] => 0
  | x :: r => uptoBulkEntry x + uptoBulkEntries r
def uptoBulkEntry {H : Type} : Lit × DataW H → Nat
  | (.string bytes, d) => bytes.length + uptoBulk d + 1
  | (_, d) => uptoBulk d + 1
 end
def uptoSmall : (H : Type) → List (DataW H) → Bool := fun _ ds => decide (uptoBulkAll ds ≤ 1048576)
def OpenSpec.upto (s : _root_.Go.ChangeSpec) : _root_.Go.OpenSpec := { _root_.Go.OpenSpec.ofChange s with cond := some uptoSmall }

/-- 'bastidelaw05.PlateStays', WHERE WHAT IT READS IS OF BULK AT MOST 1048576: true; the input reads as it did. -/
def plateStaysUptoRow : OpenClaim := { program := "ytdhidcoglioalaa", sum := "7a2732f74522b01d785c6e1406af7573b12397b0b3784bae997ede29067fa86c", func := "bastide/bastidelaw05.PlateStays", spec := "plateStays", unfollowed := true, recurses := true, apart := false, narrowed := true }
def PlateStaysUptoSaid : Prop := plateStaysUptoRow.holds Try.pinned (OpenSpec.upto plateStaysSpec)

/-- 'bastidelaw05.PlateAll', WHERE WHAT IT READS IS OF BULK AT MOST 1048576: true; the input reads as it did. -/
def plateAllUptoRow : OpenClaim := { program := "ytdhidcoglioalaa", sum := "7a2732f74522b01d785c6e1406af7573b12397b0b3784bae997ede29067fa86c", func := "bastide/bastidelaw05.PlateAll", spec := "plateAll", unfollowed := true, recurses := true, apart := false, narrowed := true }
def PlateAllUptoSaid : Prop := plateAllUptoRow.holds Try.pinned (OpenSpec.upto plateAllSpec)

/-- 'bastidelaw05.PlateFails', WHERE WHAT IT READS IS OF BULK AT MOST 1048576: true; the input reads as it did. -/
def plateFailsUptoRow : OpenClaim := { program := "ytdhidcoglioalaa", sum := "7a2732f74522b01d785c6e1406af7573b12397b0b3784bae997ede29067fa86c", func := "bastide/bastidelaw05.PlateFails", spec := "plateFails", unfollowed := true, recurses := true, apart := false, narrowed := true }
def PlateFailsUptoSaid : Prop := plateFailsUptoRow.holds Try.pinned (OpenSpec.upto plateFailsSpec)

/-- 'bastidelaw05.PlateTurned', WHERE WHAT IT READS IS OF BULK AT MOST 1048576: true; the input reads as it did. -/
def plateTurnedUptoRow : OpenClaim := { program := "ytdhidcoglioalaa", sum := "7a2732f74522b01d785c6e1406af7573b12397b0b3784bae997ede29067fa86c", func := "bastide/bastidelaw05.PlateTurned", spec := "plateTurned", unfollowed := true, recurses := true, apart := false, narrowed := true }
def PlateTurnedUptoSaid : Prop := plateTurnedUptoRow.holds Try.pinned (OpenSpec.upto plateTurnedSpec)

/-- 'bastidelaw05.PlatePlays', WHERE WHAT IT READS IS OF BULK AT MOST 1048576: true; the input reads as it did. -/
def platePlaysUptoRow : OpenClaim := { program := "ytdhidcoglioalaa", sum := "7a2732f74522b01d785c6e1406af7573b12397b0b3784bae997ede29067fa86c", func := "bastide/bastidelaw05.PlatePlays", spec := "platePlays", unfollowed := true, recurses := true, apart := false, narrowed := true }
def PlatePlaysUptoSaid : Prop := platePlaysUptoRow.holds Try.pinned (OpenSpec.upto platePlaysSpec)

/-- 'bastidelaw05.PlateNames', WHERE WHAT IT READS IS OF BULK AT MOST 1048576: true; the input reads as it did. -/
def plateNamesUptoRow : OpenClaim := { program := "ytdhidcoglioalaa", sum := "7a2732f74522b01d785c6e1406af7573b12397b0b3784bae997ede29067fa86c", func := "bastide/bastidelaw05.PlateNames", spec := "plateNames", unfollowed := true, recurses := true, apart := false, narrowed := true }
def PlateNamesUptoSaid : Prop := plateNamesUptoRow.holds Try.pinned (OpenSpec.upto plateNamesSpec)

/-- 'bastidelaw07.JournalKeeps', WHERE WHAT IT READS IS OF BULK AT MOST 1048576: true; the input reads as it did. -/
def journalKeepsUptoRow : OpenClaim := { program := "ytdhidcoglioalaa", sum := "7a2732f74522b01d785c6e1406af7573b12397b0b3784bae997ede29067fa86c", func := "bastide/bastidelaw07.JournalKeeps", spec := "journalKeeps", unfollowed := true, recurses := true, apart := false, narrowed := true }
def JournalKeepsUptoSaid : Prop := journalKeepsUptoRow.holds Try.pinned (OpenSpec.upto journalKeepsSpec)

/-- 'bastidelaw07.JournalApart', WHERE WHAT IT READS IS OF BULK AT MOST 1048576: true; the input reads as it did. -/
def journalApartUptoRow : OpenClaim := { program := "ytdhidcoglioalaa", sum := "7a2732f74522b01d785c6e1406af7573b12397b0b3784bae997ede29067fa86c", func := "bastide/bastidelaw07.JournalApart", spec := "journalApart", unfollowed := true, recurses := true, apart := false, narrowed := true }
def JournalApartUptoSaid : Prop := journalApartUptoRow.holds Try.pinned (OpenSpec.upto journalApartSpec)

/-- 'bastidelaw07.JournalBack', WHERE WHAT IT READS IS OF BULK AT MOST 1048576: true; the input reads as it did. -/
def journalBackUptoRow : OpenClaim := { program := "ytdhidcoglioalaa", sum := "7a2732f74522b01d785c6e1406af7573b12397b0b3784bae997ede29067fa86c", func := "bastide/bastidelaw07.JournalBack", spec := "journalBack", unfollowed := true, recurses := true, apart := false, narrowed := true }
def JournalBackUptoSaid : Prop := journalBackUptoRow.holds Try.pinned (OpenSpec.upto journalBackSpec)

/-- 'bastidelaw07.JournalTurned', WHERE WHAT IT READS IS OF BULK AT MOST 1048576: true; the input reads as it did. -/
def journalTurnedUptoRow : OpenClaim := { program := "ytdhidcoglioalaa", sum := "7a2732f74522b01d785c6e1406af7573b12397b0b3784bae997ede29067fa86c", func := "bastide/bastidelaw07.JournalTurned", spec := "journalTurned", unfollowed := true, recurses := true, apart := false, narrowed := true }
def JournalTurnedUptoSaid : Prop := journalTurnedUptoRow.holds Try.pinned (OpenSpec.upto journalTurnedSpec)

/-- 'bastidelaw07.JournalLogged', WHERE WHAT IT READS IS OF BULK AT MOST 1048576: true; the input reads as it did. -/
def journalLoggedUptoRow : OpenClaim := { program := "ytdhidcoglioalaa", sum := "7a2732f74522b01d785c6e1406af7573b12397b0b3784bae997ede29067fa86c", func := "bastide/bastidelaw07.JournalLogged", spec := "journalLogged", unfollowed := true, recurses := true, apart := false, narrowed := true }
def JournalLoggedUptoSaid : Prop := journalLoggedUptoRow.holds Try.pinned (OpenSpec.upto journalLoggedSpec)

end Rows
end Go.Proofs.Ytdhidcoglioalaa
