/-
  No cell of these rows narrows 'for every input' (looked for: loops, veiled, ifaces, maps, wideKeys, modest, calm, conditions, laid).
  DERIVED. THE GIVEN ROWS OF THIS SEAT. 25 by the template 'for every input the law returns true; each argument reads behind the call as it read before'; 0 by the template 'total and deterministic' (their statements: YtldcpnabgpjgiaaTotals.lean).
  GIVEN WITH THE SEED: the statements are not yours to turn. If you find one false, say at which input.
  Laid BY PROGRAM, IN A SANDBOX (cutbox-rows.mjs): the forced cells as the released guide's own fill.sh prints them over the translation 2c7c025451ab4f06… (all of the seat's roots in one cut). By AI agents, Wed Nov 11 2026. No macro, syntax, notation, axiom, sorry.
-/
import Derived.Test.YtldcpnabgpjgiaaChecked
import GoSem.Claim
import GoSem.ClaimJoined
import GoSem.ClaimMapViews
import Derived.JoinedTies
import Derived.KernelRfl
namespace Go.Proofs.Ytldcpnabgpjgiaa
/- THE CELL 'sum', in the pinned program and in every row, IS THE sha256 OF THE DUMP (.gsa) THAT YtldcpnabgpjgiaaProg.lean LOADS. Nothing in Lean hashes anything: it is a label: what it is worth is what the hold of that sum in a sandbox is worth. -/
noncomputable def Try.pinned : Pinned := { name := "ytldcpnabgpjgiaa", sum := "2c7c025451ab4f063fc9e402abd2d186ea23adb11c2f72d3cc29559e7b33fb11", checked := Try.checked }
namespace Rows
def none {H : Type} : Left H := { results := [], args := [] }

/-- 'bastidelaw24.HandTells': WHATEVER THE INPUT: true; the input reads as it did. -/
def handTellsSpec : ChangeSpec := { name := "handTells", fn := fun _ => fun
  | [d1, d2, d3] => { results := [.lit (.bool true)], args := [d1, d2, d3] }
  | _ => none }
def handTellsRow : OpenClaim := { program := "ytldcpnabgpjgiaa", sum := "2c7c025451ab4f063fc9e402abd2d186ea23adb11c2f72d3cc29559e7b33fb11", func := "bastide/bastidelaw24.HandTells", spec := "handTells", plainKeys := false, apart := false }
def HandTellsSaid : Prop := handTellsRow.holds Try.pinned (OpenSpec.ofChange handTellsSpec)

/-- ITS FALSE NEIGHBOUR: 'it returns false'. Refute it at one input. -/
def handTellsWrong : ChangeSpec := { name := "handTells", fn := fun _ => fun
  | [d1, d2, d3] => { results := [.lit (.bool false)], args := [d1, d2, d3] }
  | _ => none }
def HandTellsWrongFalsely : Prop := handTellsRow.holds Try.pinned (OpenSpec.ofChange handTellsWrong)

/-- 'bastidelaw24.HandJust': WHATEVER THE INPUT: true; the input reads as it did. -/
def handJustSpec : ChangeSpec := { name := "handJust", fn := fun _ => fun
  | [d1, d2, d3] => { results := [.lit (.bool true)], args := [d1, d2, d3] }
  | _ => none }
def handJustRow : OpenClaim := { program := "ytldcpnabgpjgiaa", sum := "2c7c025451ab4f063fc9e402abd2d186ea23adb11c2f72d3cc29559e7b33fb11", func := "bastide/bastidelaw24.HandJust", spec := "handJust", plainKeys := false, apart := false }
def HandJustSaid : Prop := handJustRow.holds Try.pinned (OpenSpec.ofChange handJustSpec)

/-- ITS FALSE NEIGHBOUR: 'it returns false'. Refute it at one input. -/
def handJustWrong : ChangeSpec := { name := "handJust", fn := fun _ => fun
  | [d1, d2, d3] => { results := [.lit (.bool false)], args := [d1, d2, d3] }
  | _ => none }
def HandJustWrongFalsely : Prop := handJustRow.holds Try.pinned (OpenSpec.ofChange handJustWrong)

/-- 'bastidelaw24.HandEnds': WHATEVER THE INPUT: true; the input reads as it did. -/
def handEndsSpec : ChangeSpec := { name := "handEnds", fn := fun _ => fun
  | [d] => { results := [.lit (.bool true)], args := [d] }
  | _ => none }
def handEndsRow : OpenClaim := { program := "ytldcpnabgpjgiaa", sum := "2c7c025451ab4f063fc9e402abd2d186ea23adb11c2f72d3cc29559e7b33fb11", func := "bastide/bastidelaw24.HandEnds", spec := "handEnds", plainKeys := false, apart := false }
def HandEndsSaid : Prop := handEndsRow.holds Try.pinned (OpenSpec.ofChange handEndsSpec)

/-- ITS FALSE NEIGHBOUR: 'it returns false'. Refute it at one input. -/
def handEndsWrong : ChangeSpec := { name := "handEnds", fn := fun _ => fun
  | [d] => { results := [.lit (.bool false)], args := [d] }
  | _ => none }
def HandEndsWrongFalsely : Prop := handEndsRow.holds Try.pinned (OpenSpec.ofChange handEndsWrong)

/-- 'bastidelaw24.HandStays': WHATEVER THE INPUT: true; the input reads as it did. -/
def handStaysSpec : ChangeSpec := { name := "handStays", fn := fun _ => fun
  | [d] => { results := [.lit (.bool true)], args := [d] }
  | _ => none }
def handStaysRow : OpenClaim := { program := "ytldcpnabgpjgiaa", sum := "2c7c025451ab4f063fc9e402abd2d186ea23adb11c2f72d3cc29559e7b33fb11", func := "bastide/bastidelaw24.HandStays", spec := "handStays", plainKeys := false, apart := false }
def HandStaysSaid : Prop := handStaysRow.holds Try.pinned (OpenSpec.ofChange handStaysSpec)

/-- ITS FALSE NEIGHBOUR: 'it returns false'. Refute it at one input. -/
def handStaysWrong : ChangeSpec := { name := "handStays", fn := fun _ => fun
  | [d] => { results := [.lit (.bool false)], args := [d] }
  | _ => none }
def HandStaysWrongFalsely : Prop := handStaysRow.holds Try.pinned (OpenSpec.ofChange handStaysWrong)

/-- 'bastidelaw24.HandOrder': WHATEVER THE INPUT: true; the input reads as it did. -/
def handOrderSpec : ChangeSpec := { name := "handOrder", fn := fun _ => fun
  | [d1, d2] => { results := [.lit (.bool true)], args := [d1, d2] }
  | _ => none }
def handOrderRow : OpenClaim := { program := "ytldcpnabgpjgiaa", sum := "2c7c025451ab4f063fc9e402abd2d186ea23adb11c2f72d3cc29559e7b33fb11", func := "bastide/bastidelaw24.HandOrder", spec := "handOrder", plainKeys := false, apart := false }
def HandOrderSaid : Prop := handOrderRow.holds Try.pinned (OpenSpec.ofChange handOrderSpec)

/-- ITS FALSE NEIGHBOUR: 'it returns false'. Refute it at one input. -/
def handOrderWrong : ChangeSpec := { name := "handOrder", fn := fun _ => fun
  | [d1, d2] => { results := [.lit (.bool false)], args := [d1, d2] }
  | _ => none }
def HandOrderWrongFalsely : Prop := handOrderRow.holds Try.pinned (OpenSpec.ofChange handOrderWrong)

/-- 'bastidelaw24.HandKnown': WHATEVER THE INPUT: true; the input reads as it did. -/
def handKnownSpec : ChangeSpec := { name := "handKnown", fn := fun _ => fun
  | [] => { results := [.lit (.bool true)], args := [] }
  | _ => none }
def handKnownRow : OpenClaim := { program := "ytldcpnabgpjgiaa", sum := "2c7c025451ab4f063fc9e402abd2d186ea23adb11c2f72d3cc29559e7b33fb11", func := "bastide/bastidelaw24.HandKnown", spec := "handKnown", plainKeys := false, apart := false }
def HandKnownSaid : Prop := handKnownRow.holds Try.pinned (OpenSpec.ofChange handKnownSpec)

/-- ITS FALSE NEIGHBOUR: 'it returns false'. Refute it at one input. -/
def handKnownWrong : ChangeSpec := { name := "handKnown", fn := fun _ => fun
  | [] => { results := [.lit (.bool false)], args := [] }
  | _ => none }
def HandKnownWrongFalsely : Prop := handKnownRow.holds Try.pinned (OpenSpec.ofChange handKnownWrong)

/-- 'bastidelaw26.DiskStrangers': WHATEVER THE INPUT: true; the input reads as it did. -/
def diskStrangersSpec : ChangeSpec := { name := "diskStrangers", fn := fun _ => fun
  | [d] => { results := [.lit (.bool true)], args := [d] }
  | _ => none }
def diskStrangersRow : OpenClaim := { program := "ytldcpnabgpjgiaa", sum := "2c7c025451ab4f063fc9e402abd2d186ea23adb11c2f72d3cc29559e7b33fb11", func := "bastide/bastidelaw26.DiskStrangers", spec := "diskStrangers", unfollowed := true, recurses := true, plainKeys := false, apart := false }
def DiskStrangersSaid : Prop := diskStrangersRow.holds Try.pinned (OpenSpec.ofChange diskStrangersSpec)

/-- ITS FALSE NEIGHBOUR: 'it returns false'. Refute it at one input. -/
def diskStrangersWrong : ChangeSpec := { name := "diskStrangers", fn := fun _ => fun
  | [d] => { results := [.lit (.bool false)], args := [d] }
  | _ => none }
def DiskStrangersWrongFalsely : Prop := diskStrangersRow.holds Try.pinned (OpenSpec.ofChange diskStrangersWrong)

/-- 'bastidelaw26.DiskLooks': WHATEVER THE INPUT: true; the input reads as it did. -/
def diskLooksSpec : ChangeSpec := { name := "diskLooks", fn := fun _ => fun
  | [d] => { results := [.lit (.bool true)], args := [d] }
  | _ => none }
def diskLooksRow : OpenClaim := { program := "ytldcpnabgpjgiaa", sum := "2c7c025451ab4f063fc9e402abd2d186ea23adb11c2f72d3cc29559e7b33fb11", func := "bastide/bastidelaw26.DiskLooks", spec := "diskLooks", unfollowed := true, recurses := true, plainKeys := false, apart := false }
def DiskLooksSaid : Prop := diskLooksRow.holds Try.pinned (OpenSpec.ofChange diskLooksSpec)

/-- ITS FALSE NEIGHBOUR: 'it returns false'. Refute it at one input. -/
def diskLooksWrong : ChangeSpec := { name := "diskLooks", fn := fun _ => fun
  | [d] => { results := [.lit (.bool false)], args := [d] }
  | _ => none }
def DiskLooksWrongFalsely : Prop := diskLooksRow.holds Try.pinned (OpenSpec.ofChange diskLooksWrong)

/-- 'bastidelaw26.DiskReplaces': WHATEVER THE INPUT: true; the input reads as it did. -/
def diskReplacesSpec : ChangeSpec := { name := "diskReplaces", fn := fun _ => fun
  | [d1, d2] => { results := [.lit (.bool true)], args := [d1, d2] }
  | _ => none }
def diskReplacesRow : OpenClaim := { program := "ytldcpnabgpjgiaa", sum := "2c7c025451ab4f063fc9e402abd2d186ea23adb11c2f72d3cc29559e7b33fb11", func := "bastide/bastidelaw26.DiskReplaces", spec := "diskReplaces", unfollowed := true, recurses := true, plainKeys := false, apart := false }
def DiskReplacesSaid : Prop := diskReplacesRow.holds Try.pinned (OpenSpec.ofChange diskReplacesSpec)

/-- ITS FALSE NEIGHBOUR: 'it returns false'. Refute it at one input. -/
def diskReplacesWrong : ChangeSpec := { name := "diskReplaces", fn := fun _ => fun
  | [d1, d2] => { results := [.lit (.bool false)], args := [d1, d2] }
  | _ => none }
def DiskReplacesWrongFalsely : Prop := diskReplacesRow.holds Try.pinned (OpenSpec.ofChange diskReplacesWrong)

/-- 'bastidelaw26.DiskAccepts': WHATEVER THE INPUT: true; the input reads as it did. -/
def diskAcceptsSpec : ChangeSpec := { name := "diskAccepts", fn := fun _ => fun
  | [d] => { results := [.lit (.bool true)], args := [d] }
  | _ => none }
def diskAcceptsRow : OpenClaim := { program := "ytldcpnabgpjgiaa", sum := "2c7c025451ab4f063fc9e402abd2d186ea23adb11c2f72d3cc29559e7b33fb11", func := "bastide/bastidelaw26.DiskAccepts", spec := "diskAccepts", unfollowed := true, recurses := true, plainKeys := false, apart := false }
def DiskAcceptsSaid : Prop := diskAcceptsRow.holds Try.pinned (OpenSpec.ofChange diskAcceptsSpec)

/-- ITS FALSE NEIGHBOUR: 'it returns false'. Refute it at one input. -/
def diskAcceptsWrong : ChangeSpec := { name := "diskAccepts", fn := fun _ => fun
  | [d] => { results := [.lit (.bool false)], args := [d] }
  | _ => none }
def DiskAcceptsWrongFalsely : Prop := diskAcceptsRow.holds Try.pinned (OpenSpec.ofChange diskAcceptsWrong)

/-- 'bastidelaw26.DiskStamps': WHATEVER THE INPUT: true; the input reads as it did. -/
def diskStampsSpec : ChangeSpec := { name := "diskStamps", fn := fun _ => fun
  | [d] => { results := [.lit (.bool true)], args := [d] }
  | _ => none }
def diskStampsRow : OpenClaim := { program := "ytldcpnabgpjgiaa", sum := "2c7c025451ab4f063fc9e402abd2d186ea23adb11c2f72d3cc29559e7b33fb11", func := "bastide/bastidelaw26.DiskStamps", spec := "diskStamps", unfollowed := true, recurses := true, plainKeys := false, apart := false }
def DiskStampsSaid : Prop := diskStampsRow.holds Try.pinned (OpenSpec.ofChange diskStampsSpec)

/-- ITS FALSE NEIGHBOUR: 'it returns false'. Refute it at one input. -/
def diskStampsWrong : ChangeSpec := { name := "diskStamps", fn := fun _ => fun
  | [d] => { results := [.lit (.bool false)], args := [d] }
  | _ => none }
def DiskStampsWrongFalsely : Prop := diskStampsRow.holds Try.pinned (OpenSpec.ofChange diskStampsWrong)

/-- 'bastidelaw26.DiskKnown': WHATEVER THE INPUT: true; the input reads as it did. -/
def diskKnownSpec : ChangeSpec := { name := "diskKnown", fn := fun _ => fun
  | [] => { results := [.lit (.bool true)], args := [] }
  | _ => none }
def diskKnownRow : OpenClaim := { program := "ytldcpnabgpjgiaa", sum := "2c7c025451ab4f063fc9e402abd2d186ea23adb11c2f72d3cc29559e7b33fb11", func := "bastide/bastidelaw26.DiskKnown", spec := "diskKnown", unfollowed := true, recurses := true, plainKeys := false, apart := false }
def DiskKnownSaid : Prop := diskKnownRow.holds Try.pinned (OpenSpec.ofChange diskKnownSpec)

/-- ITS FALSE NEIGHBOUR: 'it returns false'. Refute it at one input. -/
def diskKnownWrong : ChangeSpec := { name := "diskKnown", fn := fun _ => fun
  | [] => { results := [.lit (.bool false)], args := [] }
  | _ => none }
def DiskKnownWrongFalsely : Prop := diskKnownRow.holds Try.pinned (OpenSpec.ofChange diskKnownWrong)

/-- 'bastidelaw08.CrewMakes': WHATEVER THE INPUT: true; the input reads as it did. -/
def crewMakesSpec : ChangeSpec := { name := "crewMakes", fn := fun _ => fun
  | [d1, d2, d3] => { results := [.lit (.bool true)], args := [d1, d2, d3] }
  | _ => none }
def crewMakesRow : OpenClaim := { program := "ytldcpnabgpjgiaa", sum := "2c7c025451ab4f063fc9e402abd2d186ea23adb11c2f72d3cc29559e7b33fb11", func := "bastide/bastidelaw08.CrewMakes", spec := "crewMakes", unfollowed := true, recurses := true, plainKeys := false, apart := false }
def CrewMakesSaid : Prop := crewMakesRow.holds Try.pinned (OpenSpec.ofChange crewMakesSpec)

/-- ITS FALSE NEIGHBOUR: 'it returns false'. Refute it at one input. -/
def crewMakesWrong : ChangeSpec := { name := "crewMakes", fn := fun _ => fun
  | [d1, d2, d3] => { results := [.lit (.bool false)], args := [d1, d2, d3] }
  | _ => none }
def CrewMakesWrongFalsely : Prop := crewMakesRow.holds Try.pinned (OpenSpec.ofChange crewMakesWrong)

/-- 'bastidelaw08.CrewTells': WHATEVER THE INPUT: true; the input reads as it did. -/
def crewTellsSpec : ChangeSpec := { name := "crewTells", fn := fun _ => fun
  | [d1, d2, d3] => { results := [.lit (.bool true)], args := [d1, d2, d3] }
  | _ => none }
def crewTellsRow : OpenClaim := { program := "ytldcpnabgpjgiaa", sum := "2c7c025451ab4f063fc9e402abd2d186ea23adb11c2f72d3cc29559e7b33fb11", func := "bastide/bastidelaw08.CrewTells", spec := "crewTells", unfollowed := true, recurses := true, plainKeys := false, apart := false }
def CrewTellsSaid : Prop := crewTellsRow.holds Try.pinned (OpenSpec.ofChange crewTellsSpec)

/-- ITS FALSE NEIGHBOUR: 'it returns false'. Refute it at one input. -/
def crewTellsWrong : ChangeSpec := { name := "crewTells", fn := fun _ => fun
  | [d1, d2, d3] => { results := [.lit (.bool false)], args := [d1, d2, d3] }
  | _ => none }
def CrewTellsWrongFalsely : Prop := crewTellsRow.holds Try.pinned (OpenSpec.ofChange crewTellsWrong)

/-- 'bastidelaw08.CrewReplaces': WHATEVER THE INPUT: true; the input reads as it did. -/
def crewReplacesSpec : ChangeSpec := { name := "crewReplaces", fn := fun _ => fun
  | [d1, d2, d3] => { results := [.lit (.bool true)], args := [d1, d2, d3] }
  | _ => none }
def crewReplacesRow : OpenClaim := { program := "ytldcpnabgpjgiaa", sum := "2c7c025451ab4f063fc9e402abd2d186ea23adb11c2f72d3cc29559e7b33fb11", func := "bastide/bastidelaw08.CrewReplaces", spec := "crewReplaces", unfollowed := true, recurses := true, plainKeys := false, apart := false }
def CrewReplacesSaid : Prop := crewReplacesRow.holds Try.pinned (OpenSpec.ofChange crewReplacesSpec)

/-- ITS FALSE NEIGHBOUR: 'it returns false'. Refute it at one input. -/
def crewReplacesWrong : ChangeSpec := { name := "crewReplaces", fn := fun _ => fun
  | [d1, d2, d3] => { results := [.lit (.bool false)], args := [d1, d2, d3] }
  | _ => none }
def CrewReplacesWrongFalsely : Prop := crewReplacesRow.holds Try.pinned (OpenSpec.ofChange crewReplacesWrong)

/-- 'bastidelaw08.CrewCounts': WHATEVER THE INPUT: true; the input reads as it did. -/
def crewCountsSpec : ChangeSpec := { name := "crewCounts", fn := fun _ => fun
  | [d1, d2, d3] => { results := [.lit (.bool true)], args := [d1, d2, d3] }
  | _ => none }
def crewCountsRow : OpenClaim := { program := "ytldcpnabgpjgiaa", sum := "2c7c025451ab4f063fc9e402abd2d186ea23adb11c2f72d3cc29559e7b33fb11", func := "bastide/bastidelaw08.CrewCounts", spec := "crewCounts", unfollowed := true, recurses := true, plainKeys := false, apart := false }
def CrewCountsSaid : Prop := crewCountsRow.holds Try.pinned (OpenSpec.ofChange crewCountsSpec)

/-- ITS FALSE NEIGHBOUR: 'it returns false'. Refute it at one input. -/
def crewCountsWrong : ChangeSpec := { name := "crewCounts", fn := fun _ => fun
  | [d1, d2, d3] => { results := [.lit (.bool false)], args := [d1, d2, d3] }
  | _ => none }
def CrewCountsWrongFalsely : Prop := crewCountsRow.holds Try.pinned (OpenSpec.ofChange crewCountsWrong)

/-- 'bastidelaw08.CrewMeet': WHATEVER THE INPUT: true; the input reads as it did. -/
def crewMeetSpec : ChangeSpec := { name := "crewMeet", fn := fun _ => fun
  | [d1, d2, d3] => { results := [.lit (.bool true)], args := [d1, d2, d3] }
  | _ => none }
def crewMeetRow : OpenClaim := { program := "ytldcpnabgpjgiaa", sum := "2c7c025451ab4f063fc9e402abd2d186ea23adb11c2f72d3cc29559e7b33fb11", func := "bastide/bastidelaw08.CrewMeet", spec := "crewMeet", unfollowed := true, recurses := true, plainKeys := false, apart := false }
def CrewMeetSaid : Prop := crewMeetRow.holds Try.pinned (OpenSpec.ofChange crewMeetSpec)

/-- ITS FALSE NEIGHBOUR: 'it returns false'. Refute it at one input. -/
def crewMeetWrong : ChangeSpec := { name := "crewMeet", fn := fun _ => fun
  | [d1, d2, d3] => { results := [.lit (.bool false)], args := [d1, d2, d3] }
  | _ => none }
def CrewMeetWrongFalsely : Prop := crewMeetRow.holds Try.pinned (OpenSpec.ofChange crewMeetWrong)

/-- 'bastidelaw08.CrewEnough': WHATEVER THE INPUT: true; the input reads as it did. -/
def crewEnoughSpec : ChangeSpec := { name := "crewEnough", fn := fun _ => fun
  | [d] => { results := [.lit (.bool true)], args := [d] }
  | _ => none }
def crewEnoughRow : OpenClaim := { program := "ytldcpnabgpjgiaa", sum := "2c7c025451ab4f063fc9e402abd2d186ea23adb11c2f72d3cc29559e7b33fb11", func := "bastide/bastidelaw08.CrewEnough", spec := "crewEnough", unfollowed := true, recurses := true, plainKeys := false, apart := false }
def CrewEnoughSaid : Prop := crewEnoughRow.holds Try.pinned (OpenSpec.ofChange crewEnoughSpec)

/-- ITS FALSE NEIGHBOUR: 'it returns false'. Refute it at one input. -/
def crewEnoughWrong : ChangeSpec := { name := "crewEnough", fn := fun _ => fun
  | [d] => { results := [.lit (.bool false)], args := [d] }
  | _ => none }
def CrewEnoughWrongFalsely : Prop := crewEnoughRow.holds Try.pinned (OpenSpec.ofChange crewEnoughWrong)

/-- 'bastidelaw08.CrewNext': WHATEVER THE INPUT: true; the input reads as it did. -/
def crewNextSpec : ChangeSpec := { name := "crewNext", fn := fun _ => fun
  | [d1, d2, d3] => { results := [.lit (.bool true)], args := [d1, d2, d3] }
  | _ => none }
def crewNextRow : OpenClaim := { program := "ytldcpnabgpjgiaa", sum := "2c7c025451ab4f063fc9e402abd2d186ea23adb11c2f72d3cc29559e7b33fb11", func := "bastide/bastidelaw08.CrewNext", spec := "crewNext", unfollowed := true, recurses := true, plainKeys := false, apart := false }
def CrewNextSaid : Prop := crewNextRow.holds Try.pinned (OpenSpec.ofChange crewNextSpec)

/-- ITS FALSE NEIGHBOUR: 'it returns false'. Refute it at one input. -/
def crewNextWrong : ChangeSpec := { name := "crewNext", fn := fun _ => fun
  | [d1, d2, d3] => { results := [.lit (.bool false)], args := [d1, d2, d3] }
  | _ => none }
def CrewNextWrongFalsely : Prop := crewNextRow.holds Try.pinned (OpenSpec.ofChange crewNextWrong)

/-- 'bastidelaw08.CrewTurns': WHATEVER THE INPUT: true; the input reads as it did. -/
def crewTurnsSpec : ChangeSpec := { name := "crewTurns", fn := fun _ => fun
  | [d1, d2] => { results := [.lit (.bool true)], args := [d1, d2] }
  | _ => none }
def crewTurnsRow : OpenClaim := { program := "ytldcpnabgpjgiaa", sum := "2c7c025451ab4f063fc9e402abd2d186ea23adb11c2f72d3cc29559e7b33fb11", func := "bastide/bastidelaw08.CrewTurns", spec := "crewTurns", unfollowed := true, recurses := true, plainKeys := false, apart := false }
def CrewTurnsSaid : Prop := crewTurnsRow.holds Try.pinned (OpenSpec.ofChange crewTurnsSpec)

/-- ITS FALSE NEIGHBOUR: 'it returns false'. Refute it at one input. -/
def crewTurnsWrong : ChangeSpec := { name := "crewTurns", fn := fun _ => fun
  | [d1, d2] => { results := [.lit (.bool false)], args := [d1, d2] }
  | _ => none }
def CrewTurnsWrongFalsely : Prop := crewTurnsRow.holds Try.pinned (OpenSpec.ofChange crewTurnsWrong)

/-- 'bastidelaw08.CrewThere': WHATEVER THE INPUT: true; the input reads as it did. -/
def crewThereSpec : ChangeSpec := { name := "crewThere", fn := fun _ => fun
  | [d1, d2, d3] => { results := [.lit (.bool true)], args := [d1, d2, d3] }
  | _ => none }
def crewThereRow : OpenClaim := { program := "ytldcpnabgpjgiaa", sum := "2c7c025451ab4f063fc9e402abd2d186ea23adb11c2f72d3cc29559e7b33fb11", func := "bastide/bastidelaw08.CrewThere", spec := "crewThere", unfollowed := true, recurses := true, plainKeys := false, apart := false }
def CrewThereSaid : Prop := crewThereRow.holds Try.pinned (OpenSpec.ofChange crewThereSpec)

/-- ITS FALSE NEIGHBOUR: 'it returns false'. Refute it at one input. -/
def crewThereWrong : ChangeSpec := { name := "crewThere", fn := fun _ => fun
  | [d1, d2, d3] => { results := [.lit (.bool false)], args := [d1, d2, d3] }
  | _ => none }
def CrewThereWrongFalsely : Prop := crewThereRow.holds Try.pinned (OpenSpec.ofChange crewThereWrong)

/-- 'bastidelaw08.CrewMade': WHATEVER THE INPUT: true; the input reads as it did. -/
def crewMadeSpec : ChangeSpec := { name := "crewMade", fn := fun _ => fun
  | [d1, d2] => { results := [.lit (.bool true)], args := [d1, d2] }
  | _ => none }
def crewMadeRow : OpenClaim := { program := "ytldcpnabgpjgiaa", sum := "2c7c025451ab4f063fc9e402abd2d186ea23adb11c2f72d3cc29559e7b33fb11", func := "bastide/bastidelaw08.CrewMade", spec := "crewMade", unfollowed := true, recurses := true, plainKeys := false, apart := false }
def CrewMadeSaid : Prop := crewMadeRow.holds Try.pinned (OpenSpec.ofChange crewMadeSpec)

/-- ITS FALSE NEIGHBOUR: 'it returns false'. Refute it at one input. -/
def crewMadeWrong : ChangeSpec := { name := "crewMade", fn := fun _ => fun
  | [d1, d2] => { results := [.lit (.bool false)], args := [d1, d2] }
  | _ => none }
def CrewMadeWrongFalsely : Prop := crewMadeRow.holds Try.pinned (OpenSpec.ofChange crewMadeWrong)

/-- 'bastidelaw08.CrewRanked': WHATEVER THE INPUT: true; the input reads as it did. -/
def crewRankedSpec : ChangeSpec := { name := "crewRanked", fn := fun _ => fun
  | [d1, d2, d3] => { results := [.lit (.bool true)], args := [d1, d2, d3] }
  | _ => none }
def crewRankedRow : OpenClaim := { program := "ytldcpnabgpjgiaa", sum := "2c7c025451ab4f063fc9e402abd2d186ea23adb11c2f72d3cc29559e7b33fb11", func := "bastide/bastidelaw08.CrewRanked", spec := "crewRanked", unfollowed := true, recurses := true, plainKeys := false, apart := false }
def CrewRankedSaid : Prop := crewRankedRow.holds Try.pinned (OpenSpec.ofChange crewRankedSpec)

/-- ITS FALSE NEIGHBOUR: 'it returns false'. Refute it at one input. -/
def crewRankedWrong : ChangeSpec := { name := "crewRanked", fn := fun _ => fun
  | [d1, d2, d3] => { results := [.lit (.bool false)], args := [d1, d2, d3] }
  | _ => none }
def CrewRankedWrongFalsely : Prop := crewRankedRow.holds Try.pinned (OpenSpec.ofChange crewRankedWrong)

/-- 'bastidelaw08.CrewRises': WHATEVER THE INPUT: true; the input reads as it did. -/
def crewRisesSpec : ChangeSpec := { name := "crewRises", fn := fun _ => fun
  | [d1, d2, d3] => { results := [.lit (.bool true)], args := [d1, d2, d3] }
  | _ => none }
def crewRisesRow : OpenClaim := { program := "ytldcpnabgpjgiaa", sum := "2c7c025451ab4f063fc9e402abd2d186ea23adb11c2f72d3cc29559e7b33fb11", func := "bastide/bastidelaw08.CrewRises", spec := "crewRises", unfollowed := true, recurses := true, plainKeys := false, apart := false }
def CrewRisesSaid : Prop := crewRisesRow.holds Try.pinned (OpenSpec.ofChange crewRisesSpec)

/-- ITS FALSE NEIGHBOUR: 'it returns false'. Refute it at one input. -/
def crewRisesWrong : ChangeSpec := { name := "crewRises", fn := fun _ => fun
  | [d1, d2, d3] => { results := [.lit (.bool false)], args := [d1, d2, d3] }
  | _ => none }
def CrewRisesWrongFalsely : Prop := crewRisesRow.holds Try.pinned (OpenSpec.ofChange crewRisesWrong)

/-- 'bastidelaw08.CrewKnown': WHATEVER THE INPUT: true; the input reads as it did. -/
def crewKnownSpec : ChangeSpec := { name := "crewKnown", fn := fun _ => fun
  | [] => { results := [.lit (.bool true)], args := [] }
  | _ => none }
def crewKnownRow : OpenClaim := { program := "ytldcpnabgpjgiaa", sum := "2c7c025451ab4f063fc9e402abd2d186ea23adb11c2f72d3cc29559e7b33fb11", func := "bastide/bastidelaw08.CrewKnown", spec := "crewKnown", unfollowed := true, recurses := true, plainKeys := false, apart := false }
def CrewKnownSaid : Prop := crewKnownRow.holds Try.pinned (OpenSpec.ofChange crewKnownSpec)

/-- ITS FALSE NEIGHBOUR: 'it returns false'. Refute it at one input. -/
def crewKnownWrong : ChangeSpec := { name := "crewKnown", fn := fun _ => fun
  | [] => { results := [.lit (.bool false)], args := [] }
  | _ => none }
def CrewKnownWrongFalsely : Prop := crewKnownRow.holds Try.pinned (OpenSpec.ofChange crewKnownWrong)

/- THE SECOND FORM. 'bulk': how many values and letters a reading holds, each counted each time it is reached (what is shared counts as often as it is met; a slice's spare places count too). A statement '..UptoSaid' is the law's where the arguments, and the package variables that the reading takes, are together of bulk at most 1048576: NARROWER than '..Said'. Prove '..Said' where nothing that the law and all that it calls make is longer than what came in: it says more and counts as full. Else prove '..UptoSaid'. A law counts once. -/
mutual
def uptoBulk {H : Type} : DataW H → Nat
  | .lit (.string bytes) => bytes.length + 1
  | .lit _ => 1
  | .nil => 1
  | .ptr d => uptoBulk d + 1
  | .slice elems spare => uptoBulkAll elems + uptoBulkAll spare + 1
  | .agg parts => uptoBulkAll parts + 1
  | .iface _ d => uptoBulk d + 1
  | .map entries => uptoBulkEntries entries + 1
  | .held _ => 1
def uptoBulkAll {H : Type} : List (DataW H) → Nat
  | [] => 0
  | d :: r => uptoBulk d + uptoBulkAll r
def uptoBulkEntries {H : Type} : List (Lit × DataW H) → Nat
  | [] => 0
  | x :: r => uptoBulkEntry x + uptoBulkEntries r
def uptoBulkEntry {H : Type} : Lit × DataW H → Nat
  | (.string bytes, d) => bytes.length + uptoBulk d + 1
  | (_, d) => uptoBulk d + 1
 end
def uptoSmall : (H : Type) → List (DataW H) → Bool := fun _ ds => decide (uptoBulkAll ds ≤ 1048576)
def OpenSpec.upto (s : _root_.Go.ChangeSpec) : _root_.Go.OpenSpec := { _root_.Go.OpenSpec.ofChange s with cond := some uptoSmall }

/-- 'bastidelaw24.HandTells', WHERE WHAT IT READS IS OF BULK AT MOST 1048576: true; the input reads as it did. -/
def handTellsUptoRow : OpenClaim := { program := "ytldcpnabgpjgiaa", sum := "2c7c025451ab4f063fc9e402abd2d186ea23adb11c2f72d3cc29559e7b33fb11", func := "bastide/bastidelaw24.HandTells", spec := "handTells", plainKeys := false, apart := false, narrowed := true }
def HandTellsUptoSaid : Prop := handTellsUptoRow.holds Try.pinned (OpenSpec.upto handTellsSpec)

/-- 'bastidelaw24.HandJust', WHERE WHAT IT READS IS OF BULK AT MOST 1048576: true; the input reads as it did. -/
def handJustUptoRow : OpenClaim := { program := "ytldcpnabgpjgiaa", sum := "2c7c025451ab4f063fc9e402abd2d186ea23adb11c2f72d3cc29559e7b33fb11", func := "bastide/bastidelaw24.HandJust", spec := "handJust", plainKeys := false, apart := false, narrowed := true }
def HandJustUptoSaid : Prop := handJustUptoRow.holds Try.pinned (OpenSpec.upto handJustSpec)

/-- 'bastidelaw24.HandEnds', WHERE WHAT IT READS IS OF BULK AT MOST 1048576: true; the input reads as it did. -/
def handEndsUptoRow : OpenClaim := { program := "ytldcpnabgpjgiaa", sum := "2c7c025451ab4f063fc9e402abd2d186ea23adb11c2f72d3cc29559e7b33fb11", func := "bastide/bastidelaw24.HandEnds", spec := "handEnds", plainKeys := false, apart := false, narrowed := true }
def HandEndsUptoSaid : Prop := handEndsUptoRow.holds Try.pinned (OpenSpec.upto handEndsSpec)

/-- 'bastidelaw24.HandStays', WHERE WHAT IT READS IS OF BULK AT MOST 1048576: true; the input reads as it did. -/
def handStaysUptoRow : OpenClaim := { program := "ytldcpnabgpjgiaa", sum := "2c7c025451ab4f063fc9e402abd2d186ea23adb11c2f72d3cc29559e7b33fb11", func := "bastide/bastidelaw24.HandStays", spec := "handStays", plainKeys := false, apart := false, narrowed := true }
def HandStaysUptoSaid : Prop := handStaysUptoRow.holds Try.pinned (OpenSpec.upto handStaysSpec)

/-- 'bastidelaw24.HandOrder', WHERE WHAT IT READS IS OF BULK AT MOST 1048576: true; the input reads as it did. -/
def handOrderUptoRow : OpenClaim := { program := "ytldcpnabgpjgiaa", sum := "2c7c025451ab4f063fc9e402abd2d186ea23adb11c2f72d3cc29559e7b33fb11", func := "bastide/bastidelaw24.HandOrder", spec := "handOrder", plainKeys := false, apart := false, narrowed := true }
def HandOrderUptoSaid : Prop := handOrderUptoRow.holds Try.pinned (OpenSpec.upto handOrderSpec)

/-- 'bastidelaw24.HandKnown', WHERE WHAT IT READS IS OF BULK AT MOST 1048576: true; the input reads as it did. -/
def handKnownUptoRow : OpenClaim := { program := "ytldcpnabgpjgiaa", sum := "2c7c025451ab4f063fc9e402abd2d186ea23adb11c2f72d3cc29559e7b33fb11", func := "bastide/bastidelaw24.HandKnown", spec := "handKnown", plainKeys := false, apart := false, narrowed := true }
def HandKnownUptoSaid : Prop := handKnownUptoRow.holds Try.pinned (OpenSpec.upto handKnownSpec)

/-- 'bastidelaw26.DiskStrangers', WHERE WHAT IT READS IS OF BULK AT MOST 1048576: true; the input reads as it did. -/
def diskStrangersUptoRow : OpenClaim := { program := "ytldcpnabgpjgiaa", sum := "2c7c025451ab4f063fc9e402abd2d186ea23adb11c2f72d3cc29559e7b33fb11", func := "bastide/bastidelaw26.DiskStrangers", spec := "diskStrangers", unfollowed := true, recurses := true, plainKeys := false, apart := false, narrowed := true }
def DiskStrangersUptoSaid : Prop := diskStrangersUptoRow.holds Try.pinned (OpenSpec.upto diskStrangersSpec)

/-- 'bastidelaw26.DiskLooks', WHERE WHAT IT READS IS OF BULK AT MOST 1048576: true; the input reads as it did. -/
def diskLooksUptoRow : OpenClaim := { program := "ytldcpnabgpjgiaa", sum := "2c7c025451ab4f063fc9e402abd2d186ea23adb11c2f72d3cc29559e7b33fb11", func := "bastide/bastidelaw26.DiskLooks", spec := "diskLooks", unfollowed := true, recurses := true, plainKeys := false, apart := false, narrowed := true }
def DiskLooksUptoSaid : Prop := diskLooksUptoRow.holds Try.pinned (OpenSpec.upto diskLooksSpec)

/-- 'bastidelaw26.DiskReplaces', WHERE WHAT IT READS IS OF BULK AT MOST 1048576: true; the input reads as it did. -/
def diskReplacesUptoRow : OpenClaim := { program := "ytldcpnabgpjgiaa", sum := "2c7c025451ab4f063fc9e402abd2d186ea23adb11c2f72d3cc29559e7b33fb11", func := "bastide/bastidelaw26.DiskReplaces", spec := "diskReplaces", unfollowed := true, recurses := true, plainKeys := false, apart := false, narrowed := true }
def DiskReplacesUptoSaid : Prop := diskReplacesUptoRow.holds Try.pinned (OpenSpec.upto diskReplacesSpec)

/-- 'bastidelaw26.DiskAccepts', WHERE WHAT IT READS IS OF BULK AT MOST 1048576: true; the input reads as it did. -/
def diskAcceptsUptoRow : OpenClaim := { program := "ytldcpnabgpjgiaa", sum := "2c7c025451ab4f063fc9e402abd2d186ea23adb11c2f72d3cc29559e7b33fb11", func := "bastide/bastidelaw26.DiskAccepts", spec := "diskAccepts", unfollowed := true, recurses := true, plainKeys := false, apart := false, narrowed := true }
def DiskAcceptsUptoSaid : Prop := diskAcceptsUptoRow.holds Try.pinned (OpenSpec.upto diskAcceptsSpec)

/-- 'bastidelaw26.DiskStamps', WHERE WHAT IT READS IS OF BULK AT MOST 1048576: true; the input reads as it did. -/
def diskStampsUptoRow : OpenClaim := { program := "ytldcpnabgpjgiaa", sum := "2c7c025451ab4f063fc9e402abd2d186ea23adb11c2f72d3cc29559e7b33fb11", func := "bastide/bastidelaw26.DiskStamps", spec := "diskStamps", unfollowed := true, recurses := true, plainKeys := false, apart := false, narrowed := true }
def DiskStampsUptoSaid : Prop := diskStampsUptoRow.holds Try.pinned (OpenSpec.upto diskStampsSpec)

/-- 'bastidelaw26.DiskKnown', WHERE WHAT IT READS IS OF BULK AT MOST 1048576: true; the input reads as it did. -/
def diskKnownUptoRow : OpenClaim := { program := "ytldcpnabgpjgiaa", sum := "2c7c025451ab4f063fc9e402abd2d186ea23adb11c2f72d3cc29559e7b33fb11", func := "bastide/bastidelaw26.DiskKnown", spec := "diskKnown", unfollowed := true, recurses := true, plainKeys := false, apart := false, narrowed := true }
def DiskKnownUptoSaid : Prop := diskKnownUptoRow.holds Try.pinned (OpenSpec.upto diskKnownSpec)

/-- 'bastidelaw08.CrewMakes', WHERE WHAT IT READS IS OF BULK AT MOST 1048576: true; the input reads as it did. -/
def crewMakesUptoRow : OpenClaim := { program := "ytldcpnabgpjgiaa", sum := "2c7c025451ab4f063fc9e402abd2d186ea23adb11c2f72d3cc29559e7b33fb11", func := "bastide/bastidelaw08.CrewMakes", spec := "crewMakes", unfollowed := true, recurses := true, plainKeys := false, apart := false, narrowed := true }
def CrewMakesUptoSaid : Prop := crewMakesUptoRow.holds Try.pinned (OpenSpec.upto crewMakesSpec)

/-- 'bastidelaw08.CrewTells', WHERE WHAT IT READS IS OF BULK AT MOST 1048576: true; the input reads as it did. -/
def crewTellsUptoRow : OpenClaim := { program := "ytldcpnabgpjgiaa", sum := "2c7c025451ab4f063fc9e402abd2d186ea23adb11c2f72d3cc29559e7b33fb11", func := "bastide/bastidelaw08.CrewTells", spec := "crewTells", unfollowed := true, recurses := true, plainKeys := false, apart := false, narrowed := true }
def CrewTellsUptoSaid : Prop := crewTellsUptoRow.holds Try.pinned (OpenSpec.upto crewTellsSpec)

/-- 'bastidelaw08.CrewReplaces', WHERE WHAT IT READS IS OF BULK AT MOST 1048576: true; the input reads as it did. -/
def crewReplacesUptoRow : OpenClaim := { program := "ytldcpnabgpjgiaa", sum := "2c7c025451ab4f063fc9e402abd2d186ea23adb11c2f72d3cc29559e7b33fb11", func := "bastide/bastidelaw08.CrewReplaces", spec := "crewReplaces", unfollowed := true, recurses := true, plainKeys := false, apart := false, narrowed := true }
def CrewReplacesUptoSaid : Prop := crewReplacesUptoRow.holds Try.pinned (OpenSpec.upto crewReplacesSpec)

/-- 'bastidelaw08.CrewCounts', WHERE WHAT IT READS IS OF BULK AT MOST 1048576: true; the input reads as it did. -/
def crewCountsUptoRow : OpenClaim := { program := "ytldcpnabgpjgiaa", sum := "2c7c025451ab4f063fc9e402abd2d186ea23adb11c2f72d3cc29559e7b33fb11", func := "bastide/bastidelaw08.CrewCounts", spec := "crewCounts", unfollowed := true, recurses := true, plainKeys := false, apart := false, narrowed := true }
def CrewCountsUptoSaid : Prop := crewCountsUptoRow.holds Try.pinned (OpenSpec.upto crewCountsSpec)

/-- 'bastidelaw08.CrewMeet', WHERE WHAT IT READS IS OF BULK AT MOST 1048576: true; the input reads as it did. -/
def crewMeetUptoRow : OpenClaim := { program := "ytldcpnabgpjgiaa", sum := "2c7c025451ab4f063fc9e402abd2d186ea23adb11c2f72d3cc29559e7b33fb11", func := "bastide/bastidelaw08.CrewMeet", spec := "crewMeet", unfollowed := true, recurses := true, plainKeys := false, apart := false, narrowed := true }
def CrewMeetUptoSaid : Prop := crewMeetUptoRow.holds Try.pinned (OpenSpec.upto crewMeetSpec)

/-- 'bastidelaw08.CrewEnough', WHERE WHAT IT READS IS OF BULK AT MOST 1048576: true; the input reads as it did. -/
def crewEnoughUptoRow : OpenClaim := { program := "ytldcpnabgpjgiaa", sum := "2c7c025451ab4f063fc9e402abd2d186ea23adb11c2f72d3cc29559e7b33fb11", func := "bastide/bastidelaw08.CrewEnough", spec := "crewEnough", unfollowed := true, recurses := true, plainKeys := false, apart := false, narrowed := true }
def CrewEnoughUptoSaid : Prop := crewEnoughUptoRow.holds Try.pinned (OpenSpec.upto crewEnoughSpec)

/-- 'bastidelaw08.CrewNext', WHERE WHAT IT READS IS OF BULK AT MOST 1048576: true; the input reads as it did. -/
def crewNextUptoRow : OpenClaim := { program := "ytldcpnabgpjgiaa", sum := "2c7c025451ab4f063fc9e402abd2d186ea23adb11c2f72d3cc29559e7b33fb11", func := "bastide/bastidelaw08.CrewNext", spec := "crewNext", unfollowed := true, recurses := true, plainKeys := false, apart := false, narrowed := true }
def CrewNextUptoSaid : Prop := crewNextUptoRow.holds Try.pinned (OpenSpec.upto crewNextSpec)

/-- 'bastidelaw08.CrewTurns', WHERE WHAT IT READS IS OF BULK AT MOST 1048576: true; the input reads as it did. -/
def crewTurnsUptoRow : OpenClaim := { program := "ytldcpnabgpjgiaa", sum := "2c7c025451ab4f063fc9e402abd2d186ea23adb11c2f72d3cc29559e7b33fb11", func := "bastide/bastidelaw08.CrewTurns", spec := "crewTurns", unfollowed := true, recurses := true, plainKeys := false, apart := false, narrowed := true }
def CrewTurnsUptoSaid : Prop := crewTurnsUptoRow.holds Try.pinned (OpenSpec.upto crewTurnsSpec)

/-- 'bastidelaw08.CrewThere', WHERE WHAT IT READS IS OF BULK AT MOST 1048576: true; the input reads as it did. -/
def crewThereUptoRow : OpenClaim := { program := "ytldcpnabgpjgiaa", sum := "2c7c025451ab4f063fc9e402abd2d186ea23adb11c2f72d3cc29559e7b33fb11", func := "bastide/bastidelaw08.CrewThere", spec := "crewThere", unfollowed := true, recurses := true, plainKeys := false, apart := false, narrowed := true }
def CrewThereUptoSaid : Prop := crewThereUptoRow.holds Try.pinned (OpenSpec.upto crewThereSpec)

/-- 'bastidelaw08.CrewMade', WHERE WHAT IT READS IS OF BULK AT MOST 1048576: true; the input reads as it did. -/
def crewMadeUptoRow : OpenClaim := { program := "ytldcpnabgpjgiaa", sum := "2c7c025451ab4f063fc9e402abd2d186ea23adb11c2f72d3cc29559e7b33fb11", func := "bastide/bastidelaw08.CrewMade", spec := "crewMade", unfollowed := true, recurses := true, plainKeys := false, apart := false, narrowed := true }
def CrewMadeUptoSaid : Prop := crewMadeUptoRow.holds Try.pinned (OpenSpec.upto crewMadeSpec)

/-- 'bastidelaw08.CrewRanked', WHERE WHAT IT READS IS OF BULK AT MOST 1048576: true; the input reads as it did. -/
def crewRankedUptoRow : OpenClaim := { program := "ytldcpnabgpjgiaa", sum := "2c7c025451ab4f063fc9e402abd2d186ea23adb11c2f72d3cc29559e7b33fb11", func := "bastide/bastidelaw08.CrewRanked", spec := "crewRanked", unfollowed := true, recurses := true, plainKeys := false, apart := false, narrowed := true }
def CrewRankedUptoSaid : Prop := crewRankedUptoRow.holds Try.pinned (OpenSpec.upto crewRankedSpec)

/-- 'bastidelaw08.CrewRises', WHERE WHAT IT READS IS OF BULK AT MOST 1048576: true; the input reads as it did. -/
def crewRisesUptoRow : OpenClaim := { program := "ytldcpnabgpjgiaa", sum := "2c7c025451ab4f063fc9e402abd2d186ea23adb11c2f72d3cc29559e7b33fb11", func := "bastide/bastidelaw08.CrewRises", spec := "crewRises", unfollowed := true, recurses := true, plainKeys := false, apart := false, narrowed := true }
def CrewRisesUptoSaid : Prop := crewRisesUptoRow.holds Try.pinned (OpenSpec.upto crewRisesSpec)

/-- 'bastidelaw08.CrewKnown', WHERE WHAT IT READS IS OF BULK AT MOST 1048576: true; the input reads as it did. -/
def crewKnownUptoRow : OpenClaim := { program := "ytldcpnabgpjgiaa", sum := "2c7c025451ab4f063fc9e402abd2d186ea23adb11c2f72d3cc29559e7b33fb11", func := "bastide/bastidelaw08.CrewKnown", spec := "crewKnown", unfollowed := true, recurses := true, plainKeys := false, apart := false, narrowed := true }
def CrewKnownUptoSaid : Prop := crewKnownUptoRow.holds Try.pinned (OpenSpec.upto crewKnownSpec)

end Rows
end Go.Proofs.Ytldcpnabgpjgiaa
