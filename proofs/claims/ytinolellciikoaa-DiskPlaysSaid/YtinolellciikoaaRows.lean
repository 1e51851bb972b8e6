/-
  No cell of these rows narrows 'for every input' (looked for: loops, veiled, ifaces, maps, wideKeys, modest, calm, conditions, laid).
  DERIVED. THE GIVEN ROWS OF THIS SEAT. 24 by the template 'for every input the law returns true; each argument reads behind the call as it read before'; 0 by the template 'total and deterministic' (their statements: YtinolellciikoaaTotals.lean).
  GIVEN WITH THE SEED: the statements are not yours to turn. If you find one false, say at which input.
  Laid BY PROGRAM, IN A SANDBOX (cutbox-rows.mjs): the forced cells as the released guide's own fill.sh prints them over the translation 476de9d282082a48… (all of the seat's roots in one cut). By AI agents, Wed Nov 11 2026. No macro, syntax, notation, axiom, sorry.
-/
import Derived.Test.YtinolellciikoaaChecked
import GoSem.Claim
import GoSem.ClaimJoined
import GoSem.ClaimMapViews
import Derived.JoinedTies
import Derived.KernelRfl
namespace Go.Proofs.Ytinolellciikoaa
/- THE CELL 'sum', in the pinned program and in every row, IS THE sha256 OF THE DUMP (.gsa) THAT YtinolellciikoaaProg.lean LOADS. Nothing in Lean hashes anything: it is a label: what it is worth is what the hold of that sum in a sandbox is worth. -/
noncomputable def Try.pinned : Pinned := { name := "ytinolellciikoaa", sum := "476de9d282082a48cade929ade218b6b9ae3de253f5f1142e208a76574e890e7", checked := Try.checked }
namespace Rows
def none {H : Type} : Left H := { results := [], args := [] }

/-- 'dunnagelaw06.FrameCuts': WHATEVER THE INPUT: true; the input reads as it did. -/
def frameCutsSpec : ChangeSpec := { name := "frameCuts", fn := fun _ => fun
  | [d1, d2, d3] => { results := [.lit (.bool true)], args := [d1, d2, d3] }
  | _ => none }
def frameCutsRow : OpenClaim := { program := "ytinolellciikoaa", sum := "476de9d282082a48cade929ade218b6b9ae3de253f5f1142e208a76574e890e7", func := "dunnage/dunnagelaw06.FrameCuts", spec := "frameCuts", unfollowed := true, recurses := true, apart := false }
def FrameCutsSaid : Prop := frameCutsRow.holds Try.pinned (OpenSpec.ofChange frameCutsSpec)

/-- ITS FALSE NEIGHBOUR: 'it returns false'. Refute it at one input. -/
def frameCutsWrong : ChangeSpec := { name := "frameCuts", fn := fun _ => fun
  | [d1, d2, d3] => { results := [.lit (.bool false)], args := [d1, d2, d3] }
  | _ => none }
def FrameCutsWrongFalsely : Prop := frameCutsRow.holds Try.pinned (OpenSpec.ofChange frameCutsWrong)

/-- 'dunnagelaw06.FrameJoins': WHATEVER THE INPUT: true; the input reads as it did. -/
def frameJoinsSpec : ChangeSpec := { name := "frameJoins", fn := fun _ => fun
  | [d] => { results := [.lit (.bool true)], args := [d] }
  | _ => none }
def frameJoinsRow : OpenClaim := { program := "ytinolellciikoaa", sum := "476de9d282082a48cade929ade218b6b9ae3de253f5f1142e208a76574e890e7", func := "dunnage/dunnagelaw06.FrameJoins", spec := "frameJoins", apart := false }
def FrameJoinsSaid : Prop := frameJoinsRow.holds Try.pinned (OpenSpec.ofChange frameJoinsSpec)

/-- ITS FALSE NEIGHBOUR: 'it returns false'. Refute it at one input. -/
def frameJoinsWrong : ChangeSpec := { name := "frameJoins", fn := fun _ => fun
  | [d] => { results := [.lit (.bool false)], args := [d] }
  | _ => none }
def FrameJoinsWrongFalsely : Prop := frameJoinsRow.holds Try.pinned (OpenSpec.ofChange frameJoinsWrong)

/-- 'dunnagelaw04.DiskArmed': WHATEVER THE INPUT: true; the input reads as it did. -/
def diskArmedSpec : ChangeSpec := { name := "diskArmed", fn := fun _ => fun
  | [d1, d2] => { results := [.lit (.bool true)], args := [d1, d2] }
  | _ => none }
def diskArmedRow : OpenClaim := { program := "ytinolellciikoaa", sum := "476de9d282082a48cade929ade218b6b9ae3de253f5f1142e208a76574e890e7", func := "dunnage/dunnagelaw04.DiskArmed", spec := "diskArmed", unfollowed := true, recurses := true, apart := false }
def DiskArmedSaid : Prop := diskArmedRow.holds Try.pinned (OpenSpec.ofChange diskArmedSpec)

/-- ITS FALSE NEIGHBOUR: 'it returns false'. Refute it at one input. -/
def diskArmedWrong : ChangeSpec := { name := "diskArmed", fn := fun _ => fun
  | [d1, d2] => { results := [.lit (.bool false)], args := [d1, d2] }
  | _ => none }
def DiskArmedWrongFalsely : Prop := diskArmedRow.holds Try.pinned (OpenSpec.ofChange diskArmedWrong)

/-- 'dunnagelaw06.FrameReads': WHATEVER THE INPUT: true; the input reads as it did. -/
def frameReadsSpec : ChangeSpec := { name := "frameReads", fn := fun _ => fun
  | [d1, d2, d3] => { results := [.lit (.bool true)], args := [d1, d2, d3] }
  | _ => none }
def frameReadsRow : OpenClaim := { program := "ytinolellciikoaa", sum := "476de9d282082a48cade929ade218b6b9ae3de253f5f1142e208a76574e890e7", func := "dunnage/dunnagelaw06.FrameReads", spec := "frameReads", unfollowed := true, recurses := true, apart := false }
def FrameReadsSaid : Prop := frameReadsRow.holds Try.pinned (OpenSpec.ofChange frameReadsSpec)

/-- ITS FALSE NEIGHBOUR: 'it returns false'. Refute it at one input. -/
def frameReadsWrong : ChangeSpec := { name := "frameReads", fn := fun _ => fun
  | [d1, d2, d3] => { results := [.lit (.bool false)], args := [d1, d2, d3] }
  | _ => none }
def FrameReadsWrongFalsely : Prop := frameReadsRow.holds Try.pinned (OpenSpec.ofChange frameReadsWrong)

/-- 'dunnagelaw04.DiskKeeps': WHATEVER THE INPUT: true; the input reads as it did. -/
def diskKeepsSpec : ChangeSpec := { name := "diskKeeps", fn := fun _ => fun
  | [d1, d2, d3] => { results := [.lit (.bool true)], args := [d1, d2, d3] }
  | _ => none }
def diskKeepsRow : OpenClaim := { program := "ytinolellciikoaa", sum := "476de9d282082a48cade929ade218b6b9ae3de253f5f1142e208a76574e890e7", func := "dunnage/dunnagelaw04.DiskKeeps", spec := "diskKeeps", unfollowed := true, recurses := true, apart := false }
def DiskKeepsSaid : Prop := diskKeepsRow.holds Try.pinned (OpenSpec.ofChange diskKeepsSpec)

/-- ITS FALSE NEIGHBOUR: 'it returns false'. Refute it at one input. -/
def diskKeepsWrong : ChangeSpec := { name := "diskKeeps", fn := fun _ => fun
  | [d1, d2, d3] => { results := [.lit (.bool false)], args := [d1, d2, d3] }
  | _ => none }
def DiskKeepsWrongFalsely : Prop := diskKeepsRow.holds Try.pinned (OpenSpec.ofChange diskKeepsWrong)

/-- 'dunnagelaw04.DiskSubset': WHATEVER THE INPUT: true; the input reads as it did. -/
def diskSubsetSpec : ChangeSpec := { name := "diskSubset", fn := fun _ => fun
  | [d1, d2, d3] => { results := [.lit (.bool true)], args := [d1, d2, d3] }
  | _ => none }
def diskSubsetRow : OpenClaim := { program := "ytinolellciikoaa", sum := "476de9d282082a48cade929ade218b6b9ae3de253f5f1142e208a76574e890e7", func := "dunnage/dunnagelaw04.DiskSubset", spec := "diskSubset", unfollowed := true, recurses := true, apart := false }
def DiskSubsetSaid : Prop := diskSubsetRow.holds Try.pinned (OpenSpec.ofChange diskSubsetSpec)

/-- ITS FALSE NEIGHBOUR: 'it returns false'. Refute it at one input. -/
def diskSubsetWrong : ChangeSpec := { name := "diskSubset", fn := fun _ => fun
  | [d1, d2, d3] => { results := [.lit (.bool false)], args := [d1, d2, d3] }
  | _ => none }
def DiskSubsetWrongFalsely : Prop := diskSubsetRow.holds Try.pinned (OpenSpec.ofChange diskSubsetWrong)

/-- 'dunnagelaw04.DiskTurns': WHATEVER THE INPUT: true; the input reads as it did. -/
def diskTurnsSpec : ChangeSpec := { name := "diskTurns", fn := fun _ => fun
  | [d1, d2, d3] => { results := [.lit (.bool true)], args := [d1, d2, d3] }
  | _ => none }
def diskTurnsRow : OpenClaim := { program := "ytinolellciikoaa", sum := "476de9d282082a48cade929ade218b6b9ae3de253f5f1142e208a76574e890e7", func := "dunnage/dunnagelaw04.DiskTurns", spec := "diskTurns", unfollowed := true, recurses := true, apart := false }
def DiskTurnsSaid : Prop := diskTurnsRow.holds Try.pinned (OpenSpec.ofChange diskTurnsSpec)

/-- ITS FALSE NEIGHBOUR: 'it returns false'. Refute it at one input. -/
def diskTurnsWrong : ChangeSpec := { name := "diskTurns", fn := fun _ => fun
  | [d1, d2, d3] => { results := [.lit (.bool false)], args := [d1, d2, d3] }
  | _ => none }
def DiskTurnsWrongFalsely : Prop := diskTurnsRow.holds Try.pinned (OpenSpec.ofChange diskTurnsWrong)

/-- 'dunnagelaw04.DiskForks': WHATEVER THE INPUT: true; the input reads as it did. -/
def diskForksSpec : ChangeSpec := { name := "diskForks", fn := fun _ => fun
  | [d1, d2] => { results := [.lit (.bool true)], args := [d1, d2] }
  | _ => none }
def diskForksRow : OpenClaim := { program := "ytinolellciikoaa", sum := "476de9d282082a48cade929ade218b6b9ae3de253f5f1142e208a76574e890e7", func := "dunnage/dunnagelaw04.DiskForks", spec := "diskForks", unfollowed := true, recurses := true, apart := false }
def DiskForksSaid : Prop := diskForksRow.holds Try.pinned (OpenSpec.ofChange diskForksSpec)

/-- ITS FALSE NEIGHBOUR: 'it returns false'. Refute it at one input. -/
def diskForksWrong : ChangeSpec := { name := "diskForks", fn := fun _ => fun
  | [d1, d2] => { results := [.lit (.bool false)], args := [d1, d2] }
  | _ => none }
def DiskForksWrongFalsely : Prop := diskForksRow.holds Try.pinned (OpenSpec.ofChange diskForksWrong)

/-- 'dunnagelaw04.DiskPlays': WHATEVER THE INPUT: true; the input reads as it did. -/
def diskPlaysSpec : ChangeSpec := { name := "diskPlays", fn := fun _ => fun
  | [d1, d2] => { results := [.lit (.bool true)], args := [d1, d2] }
  | _ => none }
def diskPlaysRow : OpenClaim := { program := "ytinolellciikoaa", sum := "476de9d282082a48cade929ade218b6b9ae3de253f5f1142e208a76574e890e7", func := "dunnage/dunnagelaw04.DiskPlays", spec := "diskPlays", unfollowed := true, recurses := true, apart := false }
def DiskPlaysSaid : Prop := diskPlaysRow.holds Try.pinned (OpenSpec.ofChange diskPlaysSpec)

/-- ITS FALSE NEIGHBOUR: 'it returns false'. Refute it at one input. -/
def diskPlaysWrong : ChangeSpec := { name := "diskPlays", fn := fun _ => fun
  | [d1, d2] => { results := [.lit (.bool false)], args := [d1, d2] }
  | _ => none }
def DiskPlaysWrongFalsely : Prop := diskPlaysRow.holds Try.pinned (OpenSpec.ofChange diskPlaysWrong)

/-- 'dunnagelaw04.DiskNil': WHATEVER THE INPUT: true; the input reads as it did. -/
def diskNilSpec : ChangeSpec := { name := "diskNil", fn := fun _ => fun
  | [d1, d2, d3, d4] => { results := [.lit (.bool true)], args := [d1, d2, d3, d4] }
  | _ => none }
def diskNilRow : OpenClaim := { program := "ytinolellciikoaa", sum := "476de9d282082a48cade929ade218b6b9ae3de253f5f1142e208a76574e890e7", func := "dunnage/dunnagelaw04.DiskNil", spec := "diskNil", unfollowed := true, recurses := true, apart := false }
def DiskNilSaid : Prop := diskNilRow.holds Try.pinned (OpenSpec.ofChange diskNilSpec)

/-- ITS FALSE NEIGHBOUR: 'it returns false'. Refute it at one input. -/
def diskNilWrong : ChangeSpec := { name := "diskNil", fn := fun _ => fun
  | [d1, d2, d3, d4] => { results := [.lit (.bool false)], args := [d1, d2, d3, d4] }
  | _ => none }
def DiskNilWrongFalsely : Prop := diskNilRow.holds Try.pinned (OpenSpec.ofChange diskNilWrong)

/-- 'dunnagelaw06.FrameBack': WHATEVER THE INPUT: true; the input reads as it did. -/
def frameBackSpec : ChangeSpec := { name := "frameBack", fn := fun _ => fun
  | [d1, d2, d3, d4] => { results := [.lit (.bool true)], args := [d1, d2, d3, d4] }
  | _ => none }
def frameBackRow : OpenClaim := { program := "ytinolellciikoaa", sum := "476de9d282082a48cade929ade218b6b9ae3de253f5f1142e208a76574e890e7", func := "dunnage/dunnagelaw06.FrameBack", spec := "frameBack", unfollowed := true, recurses := true, apart := false }
def FrameBackSaid : Prop := frameBackRow.holds Try.pinned (OpenSpec.ofChange frameBackSpec)

/-- ITS FALSE NEIGHBOUR: 'it returns false'. Refute it at one input. -/
def frameBackWrong : ChangeSpec := { name := "frameBack", fn := fun _ => fun
  | [d1, d2, d3, d4] => { results := [.lit (.bool false)], args := [d1, d2, d3, d4] }
  | _ => none }
def FrameBackWrongFalsely : Prop := frameBackRow.holds Try.pinned (OpenSpec.ofChange frameBackWrong)

/-- 'dunnagelaw06.FrameMixed': WHATEVER THE INPUT: true; the input reads as it did. -/
def frameMixedSpec : ChangeSpec := { name := "frameMixed", fn := fun _ => fun
  | [d1, d2, d3, d4, d5, d6, d7] => { results := [.lit (.bool true)], args := [d1, d2, d3, d4, d5, d6, d7] }
  | _ => none }
def frameMixedRow : OpenClaim := { program := "ytinolellciikoaa", sum := "476de9d282082a48cade929ade218b6b9ae3de253f5f1142e208a76574e890e7", func := "dunnage/dunnagelaw06.FrameMixed", spec := "frameMixed", unfollowed := true, recurses := true, apart := false }
def FrameMixedSaid : Prop := frameMixedRow.holds Try.pinned (OpenSpec.ofChange frameMixedSpec)

/-- ITS FALSE NEIGHBOUR: 'it returns false'. Refute it at one input. -/
def frameMixedWrong : ChangeSpec := { name := "frameMixed", fn := fun _ => fun
  | [d1, d2, d3, d4, d5, d6, d7] => { results := [.lit (.bool false)], args := [d1, d2, d3, d4, d5, d6, d7] }
  | _ => none }
def FrameMixedWrongFalsely : Prop := frameMixedRow.holds Try.pinned (OpenSpec.ofChange frameMixedWrong)

/-- 'dunnagelaw29.ScrubNil': WHATEVER THE INPUT: true; the input reads as it did. -/
def scrubNilSpec : ChangeSpec := { name := "scrubNil", fn := fun _ => fun
  | [d1, d2, d3] => { results := [.lit (.bool true)], args := [d1, d2, d3] }
  | _ => none }
def scrubNilRow : OpenClaim := { program := "ytinolellciikoaa", sum := "476de9d282082a48cade929ade218b6b9ae3de253f5f1142e208a76574e890e7", func := "dunnage/dunnagelaw29.ScrubNil", spec := "scrubNil", unfollowed := true, recurses := true, apart := false }
def ScrubNilSaid : Prop := scrubNilRow.holds Try.pinned (OpenSpec.ofChange scrubNilSpec)

/-- ITS FALSE NEIGHBOUR: 'it returns false'. Refute it at one input. -/
def scrubNilWrong : ChangeSpec := { name := "scrubNil", fn := fun _ => fun
  | [d1, d2, d3] => { results := [.lit (.bool false)], args := [d1, d2, d3] }
  | _ => none }
def ScrubNilWrongFalsely : Prop := scrubNilRow.holds Try.pinned (OpenSpec.ofChange scrubNilWrong)

/-- 'dunnagelaw27.ManifestBack': WHATEVER THE INPUT: true; the input reads as it did. -/
def manifestBackSpec : ChangeSpec := { name := "manifestBack", fn := fun _ => fun
  | [d1, d2, d3, d4, d5] => { results := [.lit (.bool true)], args := [d1, d2, d3, d4, d5] }
  | _ => none }
def manifestBackRow : OpenClaim := { program := "ytinolellciikoaa", sum := "476de9d282082a48cade929ade218b6b9ae3de253f5f1142e208a76574e890e7", func := "dunnage/dunnagelaw27.ManifestBack", spec := "manifestBack", unfollowed := true, recurses := true, apart := false }
def ManifestBackSaid : Prop := manifestBackRow.holds Try.pinned (OpenSpec.ofChange manifestBackSpec)

/-- ITS FALSE NEIGHBOUR: 'it returns false'. Refute it at one input. -/
def manifestBackWrong : ChangeSpec := { name := "manifestBack", fn := fun _ => fun
  | [d1, d2, d3, d4, d5] => { results := [.lit (.bool false)], args := [d1, d2, d3, d4, d5] }
  | _ => none }
def ManifestBackWrongFalsely : Prop := manifestBackRow.holds Try.pinned (OpenSpec.ofChange manifestBackWrong)

/-- 'dunnagelaw27.ManifestTells': WHATEVER THE INPUT: true; the input reads as it did. -/
def manifestTellsSpec : ChangeSpec := { name := "manifestTells", fn := fun _ => fun
  | [d1, d2, d3, d4] => { results := [.lit (.bool true)], args := [d1, d2, d3, d4] }
  | _ => none }
def manifestTellsRow : OpenClaim := { program := "ytinolellciikoaa", sum := "476de9d282082a48cade929ade218b6b9ae3de253f5f1142e208a76574e890e7", func := "dunnage/dunnagelaw27.ManifestTells", spec := "manifestTells", unfollowed := true, recurses := true, apart := false }
def ManifestTellsSaid : Prop := manifestTellsRow.holds Try.pinned (OpenSpec.ofChange manifestTellsSpec)

/-- ITS FALSE NEIGHBOUR: 'it returns false'. Refute it at one input. -/
def manifestTellsWrong : ChangeSpec := { name := "manifestTells", fn := fun _ => fun
  | [d1, d2, d3, d4] => { results := [.lit (.bool false)], args := [d1, d2, d3, d4] }
  | _ => none }
def ManifestTellsWrongFalsely : Prop := manifestTellsRow.holds Try.pinned (OpenSpec.ofChange manifestTellsWrong)

/-- 'dunnagelaw27.ManifestTurns': WHATEVER THE INPUT: true; the input reads as it did. -/
def manifestTurnsSpec : ChangeSpec := { name := "manifestTurns", fn := fun _ => fun
  | [d1, d2, d3] => { results := [.lit (.bool true)], args := [d1, d2, d3] }
  | _ => none }
def manifestTurnsRow : OpenClaim := { program := "ytinolellciikoaa", sum := "476de9d282082a48cade929ade218b6b9ae3de253f5f1142e208a76574e890e7", func := "dunnage/dunnagelaw27.ManifestTurns", spec := "manifestTurns", unfollowed := true, recurses := true, apart := false }
def ManifestTurnsSaid : Prop := manifestTurnsRow.holds Try.pinned (OpenSpec.ofChange manifestTurnsSpec)

/-- ITS FALSE NEIGHBOUR: 'it returns false'. Refute it at one input. -/
def manifestTurnsWrong : ChangeSpec := { name := "manifestTurns", fn := fun _ => fun
  | [d1, d2, d3] => { results := [.lit (.bool false)], args := [d1, d2, d3] }
  | _ => none }
def ManifestTurnsWrongFalsely : Prop := manifestTurnsRow.holds Try.pinned (OpenSpec.ofChange manifestTurnsWrong)

/-- 'dunnagelaw29.ScrubLooks': WHATEVER THE INPUT: true; the input reads as it did. -/
def scrubLooksSpec : ChangeSpec := { name := "scrubLooks", fn := fun _ => fun
  | [d1, d2, d3] => { results := [.lit (.bool true)], args := [d1, d2, d3] }
  | _ => none }
def scrubLooksRow : OpenClaim := { program := "ytinolellciikoaa", sum := "476de9d282082a48cade929ade218b6b9ae3de253f5f1142e208a76574e890e7", func := "dunnage/dunnagelaw29.ScrubLooks", spec := "scrubLooks", unfollowed := true, recurses := true, apart := false }
def ScrubLooksSaid : Prop := scrubLooksRow.holds Try.pinned (OpenSpec.ofChange scrubLooksSpec)

/-- ITS FALSE NEIGHBOUR: 'it returns false'. Refute it at one input. -/
def scrubLooksWrong : ChangeSpec := { name := "scrubLooks", fn := fun _ => fun
  | [d1, d2, d3] => { results := [.lit (.bool false)], args := [d1, d2, d3] }
  | _ => none }
def ScrubLooksWrongFalsely : Prop := scrubLooksRow.holds Try.pinned (OpenSpec.ofChange scrubLooksWrong)

/-- 'dunnagelaw29.ScrubTurned': WHATEVER THE INPUT: true; the input reads as it did. -/
def scrubTurnedSpec : ChangeSpec := { name := "scrubTurned", fn := fun _ => fun
  | [d1, d2, d3, d4, d5] => { results := [.lit (.bool true)], args := [d1, d2, d3, d4, d5] }
  | _ => none }
def scrubTurnedRow : OpenClaim := { program := "ytinolellciikoaa", sum := "476de9d282082a48cade929ade218b6b9ae3de253f5f1142e208a76574e890e7", func := "dunnage/dunnagelaw29.ScrubTurned", spec := "scrubTurned", unfollowed := true, recurses := true, apart := false }
def ScrubTurnedSaid : Prop := scrubTurnedRow.holds Try.pinned (OpenSpec.ofChange scrubTurnedSpec)

/-- ITS FALSE NEIGHBOUR: 'it returns false'. Refute it at one input. -/
def scrubTurnedWrong : ChangeSpec := { name := "scrubTurned", fn := fun _ => fun
  | [d1, d2, d3, d4, d5] => { results := [.lit (.bool false)], args := [d1, d2, d3, d4, d5] }
  | _ => none }
def ScrubTurnedWrongFalsely : Prop := scrubTurnedRow.holds Try.pinned (OpenSpec.ofChange scrubTurnedWrong)

/-- 'dunnagelaw29.ScrubHolds': WHATEVER THE INPUT: true; the input reads as it did. -/
def scrubHoldsSpec : ChangeSpec := { name := "scrubHolds", fn := fun _ => fun
  | [d1, d2, d3, d4, d5] => { results := [.lit (.bool true)], args := [d1, d2, d3, d4, d5] }
  | _ => none }
def scrubHoldsRow : OpenClaim := { program := "ytinolellciikoaa", sum := "476de9d282082a48cade929ade218b6b9ae3de253f5f1142e208a76574e890e7", func := "dunnage/dunnagelaw29.ScrubHolds", spec := "scrubHolds", unfollowed := true, recurses := true, apart := false }
def ScrubHoldsSaid : Prop := scrubHoldsRow.holds Try.pinned (OpenSpec.ofChange scrubHoldsSpec)

/-- ITS FALSE NEIGHBOUR: 'it returns false'. Refute it at one input. -/
def scrubHoldsWrong : ChangeSpec := { name := "scrubHolds", fn := fun _ => fun
  | [d1, d2, d3, d4, d5] => { results := [.lit (.bool false)], args := [d1, d2, d3, d4, d5] }
  | _ => none }
def ScrubHoldsWrongFalsely : Prop := scrubHoldsRow.holds Try.pinned (OpenSpec.ofChange scrubHoldsWrong)

/-- 'dunnagelaw27.ManifestStands': WHATEVER THE INPUT: true; the input reads as it did. -/
def manifestStandsSpec : ChangeSpec := { name := "manifestStands", fn := fun _ => fun
  | [d1, d2, d3, d4] => { results := [.lit (.bool true)], args := [d1, d2, d3, d4] }
  | _ => none }
def manifestStandsRow : OpenClaim := { program := "ytinolellciikoaa", sum := "476de9d282082a48cade929ade218b6b9ae3de253f5f1142e208a76574e890e7", func := "dunnage/dunnagelaw27.ManifestStands", spec := "manifestStands", unfollowed := true, recurses := true, apart := false }
def ManifestStandsSaid : Prop := manifestStandsRow.holds Try.pinned (OpenSpec.ofChange manifestStandsSpec)

/-- ITS FALSE NEIGHBOUR: 'it returns false'. Refute it at one input. -/
def manifestStandsWrong : ChangeSpec := { name := "manifestStands", fn := fun _ => fun
  | [d1, d2, d3, d4] => { results := [.lit (.bool false)], args := [d1, d2, d3, d4] }
  | _ => none }
def ManifestStandsWrongFalsely : Prop := manifestStandsRow.holds Try.pinned (OpenSpec.ofChange manifestStandsWrong)

/-- 'dunnagelaw07.WalRoom': WHATEVER THE INPUT: true; the input reads as it did. -/
def walRoomSpec : ChangeSpec := { name := "walRoom", fn := fun _ => fun
  | [d1, d2] => { results := [.lit (.bool true)], args := [d1, d2] }
  | _ => none }
def walRoomRow : OpenClaim := { program := "ytinolellciikoaa", sum := "476de9d282082a48cade929ade218b6b9ae3de253f5f1142e208a76574e890e7", func := "dunnage/dunnagelaw07.WalRoom", spec := "walRoom", unfollowed := true, recurses := true, apart := false }
def WalRoomSaid : Prop := walRoomRow.holds Try.pinned (OpenSpec.ofChange walRoomSpec)

/-- ITS FALSE NEIGHBOUR: 'it returns false'. Refute it at one input. -/
def walRoomWrong : ChangeSpec := { name := "walRoom", fn := fun _ => fun
  | [d1, d2] => { results := [.lit (.bool false)], args := [d1, d2] }
  | _ => none }
def WalRoomWrongFalsely : Prop := walRoomRow.holds Try.pinned (OpenSpec.ofChange walRoomWrong)

/-- 'dunnagelaw07.WalPart': WHATEVER THE INPUT: true; the input reads as it did. -/
def walPartSpec : ChangeSpec := { name := "walPart", fn := fun _ => fun
  | [d1, d2, d3, d4] => { results := [.lit (.bool true)], args := [d1, d2, d3, d4] }
  | _ => none }
def walPartRow : OpenClaim := { program := "ytinolellciikoaa", sum := "476de9d282082a48cade929ade218b6b9ae3de253f5f1142e208a76574e890e7", func := "dunnage/dunnagelaw07.WalPart", spec := "walPart", unfollowed := true, recurses := true, apart := false }
def WalPartSaid : Prop := walPartRow.holds Try.pinned (OpenSpec.ofChange walPartSpec)

/-- ITS FALSE NEIGHBOUR: 'it returns false'. Refute it at one input. -/
def walPartWrong : ChangeSpec := { name := "walPart", fn := fun _ => fun
  | [d1, d2, d3, d4] => { results := [.lit (.bool false)], args := [d1, d2, d3, d4] }
  | _ => none }
def WalPartWrongFalsely : Prop := walPartRow.holds Try.pinned (OpenSpec.ofChange walPartWrong)

/-- 'dunnagelaw07.WalNil': WHATEVER THE INPUT: true; the input reads as it did. -/
def walNilSpec : ChangeSpec := { name := "walNil", fn := fun _ => fun
  | [d1, d2, d3] => { results := [.lit (.bool true)], args := [d1, d2, d3] }
  | _ => none }
def walNilRow : OpenClaim := { program := "ytinolellciikoaa", sum := "476de9d282082a48cade929ade218b6b9ae3de253f5f1142e208a76574e890e7", func := "dunnage/dunnagelaw07.WalNil", spec := "walNil", unfollowed := true, recurses := true, apart := false }
def WalNilSaid : Prop := walNilRow.holds Try.pinned (OpenSpec.ofChange walNilSpec)

/-- ITS FALSE NEIGHBOUR: 'it returns false'. Refute it at one input. -/
def walNilWrong : ChangeSpec := { name := "walNil", fn := fun _ => fun
  | [d1, d2, d3] => { results := [.lit (.bool false)], args := [d1, d2, d3] }
  | _ => none }
def WalNilWrongFalsely : Prop := walNilRow.holds Try.pinned (OpenSpec.ofChange walNilWrong)

/-- 'dunnagelaw07.WalRounds': WHATEVER THE INPUT: true; the input reads as it did. -/
def walRoundsSpec : ChangeSpec := { name := "walRounds", fn := fun _ => fun
  | [d1, d2] => { results := [.lit (.bool true)], args := [d1, d2] }
  | _ => none }
def walRoundsRow : OpenClaim := { program := "ytinolellciikoaa", sum := "476de9d282082a48cade929ade218b6b9ae3de253f5f1142e208a76574e890e7", func := "dunnage/dunnagelaw07.WalRounds", spec := "walRounds", unfollowed := true, recurses := true, apart := false }
def WalRoundsSaid : Prop := walRoundsRow.holds Try.pinned (OpenSpec.ofChange walRoundsSpec)

/-- ITS FALSE NEIGHBOUR: 'it returns false'. Refute it at one input. -/
def walRoundsWrong : ChangeSpec := { name := "walRounds", fn := fun _ => fun
  | [d1, d2] => { results := [.lit (.bool false)], args := [d1, d2] }
  | _ => none }
def WalRoundsWrongFalsely : Prop := walRoundsRow.holds Try.pinned (OpenSpec.ofChange walRoundsWrong)

/- THE SECOND FORM. 'bulk': how many values and letters a reading holds, each counted each time it is reached (what is shared counts as often as it is met; a slice's spare places count too). A statement '..UptoSaid' is the law's where the arguments, and the package variables that the reading takes, are together of bulk at most 1048576: NARROWER than '..Said'. Prove '..Said' where nothing that the law and all that it calls make is longer than what came in: it says more and counts as full. Else prove '..UptoSaid'. A law counts once. -/
mutual
def uptoBulk {H : Type} : DataW H → Nat
  | .lit (.string bytes) => bytes.length + 1
  | .lit _ => 1
  | .nil => 1
  | .ptr d => uptoBulk d + 1
  | .slice elems spare => uptoBulkAll elems + uptoBulkAll spare + 1
  | .agg parts => uptoBulkAll parts + 1
  | .iface _ d => uptoBulk d + 1
  | .map entries => uptoBulkEntries entries + 1
  | .held _ => 1
def uptoBulkAll {H : Type} : List (DataW H) → Nat
  | [] => 0
  | d :: r => uptoBulk d + uptoBulkAll r
def uptoBulkEntries {H : Type} : List (Lit × DataW H) → Nat
  | [] => 0
  | x :: r => uptoBulkEntry x + uptoBulkEntries r
def uptoBulkEntry {H : Type} : Lit × DataW H → Nat
  | (.string bytes, d) => bytes.length + uptoBulk d + 1
  | (_, d) => uptoBulk d + 1
 end
def uptoSmall : (H : Type) → List (DataW H) → Bool := fun _ ds => decide (uptoBulkAll ds ≤ 1048576)
def OpenSpec.upto (s : _root_.Go.ChangeSpec) : _root_.Go.OpenSpec := { _root_.Go.OpenSpec.ofChange s with cond := some uptoSmall }

/-- 'dunnagelaw06.FrameCuts', WHERE WHAT IT READS IS OF BULK AT MOST 1048576: true; the input reads as it did. -/
def frameCutsUptoRow : OpenClaim := { program := "ytinolellciikoaa", sum := "476de9d282082a48cade929ade218b6b9ae3de253f5f1142e208a76574e890e7", func := "dunnage/dunnagelaw06.FrameCuts", spec := "frameCuts", unfollowed := true, recurses := true, apart := false, narrowed := true }
def FrameCutsUptoSaid : Prop := frameCutsUptoRow.holds Try.pinned (OpenSpec.upto frameCutsSpec)

/-- 'dunnagelaw06.FrameJoins', WHERE WHAT IT READS IS OF BULK AT MOST 1048576: true; the input reads as it did. -/
def frameJoinsUptoRow : OpenClaim := { program := "ytinolellciikoaa", sum := "476de9d282082a48cade929ade218b6b9ae3de253f5f1142e208a76574e890e7", func := "dunnage/dunnagelaw06.FrameJoins", spec := "frameJoins", apart := false, narrowed := true }
def FrameJoinsUptoSaid : Prop := frameJoinsUptoRow.holds Try.pinned (OpenSpec.upto frameJoinsSpec)

/-- 'dunnagelaw04.DiskArmed', WHERE WHAT IT READS IS OF BULK AT MOST 1048576: true; the input reads as it did. -/
def diskArmedUptoRow : OpenClaim := { program := "ytinolellciikoaa", sum := "476de9d282082a48cade929ade218b6b9ae3de253f5f1142e208a76574e890e7", func := "dunnage/dunnagelaw04.DiskArmed", spec := "diskArmed", unfollowed := true, recurses := true, apart := false, narrowed := true }
def DiskArmedUptoSaid : Prop := diskArmedUptoRow.holds Try.pinned (OpenSpec.upto diskArmedSpec)

/-- 'dunnagelaw06.FrameReads', WHERE WHAT IT READS IS OF BULK AT MOST 1048576: true; the input reads as it did. -/
def frameReadsUptoRow : OpenClaim := { program := "ytinolellciikoaa", sum := "476de9d282082a48cade929ade218b6b9ae3de253f5f1142e208a76574e890e7", func := "dunnage/dunnagelaw06.FrameReads", spec := "frameReads", unfollowed := true, recurses := true, apart := false, narrowed := true }
def FrameReadsUptoSaid : Prop := frameReadsUptoRow.holds Try.pinned (OpenSpec.upto frameReadsSpec)

/-- 'dunnagelaw04.DiskKeeps', WHERE WHAT IT READS IS OF BULK AT MOST 1048576: true; the input reads as it did. -/
def diskKeepsUptoRow : OpenClaim := { program := "ytinolellciikoaa", sum := "476de9d282082a48cade929ade218b6b9ae3de253f5f1142e208a76574e890e7", func := "dunnage/dunnagelaw04.DiskKeeps", spec := "diskKeeps", unfollowed := true, recurses := true, apart := false, narrowed := true }
def DiskKeepsUptoSaid : Prop := diskKeepsUptoRow.holds Try.pinned (OpenSpec.upto diskKeepsSpec)

/-- 'dunnagelaw04.DiskSubset', WHERE WHAT IT READS IS OF BULK AT MOST 1048576: true; the input reads as it did. -/
def diskSubsetUptoRow : OpenClaim := { program := "ytinolellciikoaa", sum := "476de9d282082a48cade929ade218b6b9ae3de253f5f1142e208a76574e890e7", func := "dunnage/dunnagelaw04.DiskSubset", spec := "diskSubset", unfollowed := true, recurses := true, apart := false, narrowed := true }
def DiskSubsetUptoSaid : Prop := diskSubsetUptoRow.holds Try.pinned (OpenSpec.upto diskSubsetSpec)

/-- 'dunnagelaw04.DiskTurns', WHERE WHAT IT READS IS OF BULK AT MOST 1048576: true; the input reads as it did. -/
def diskTurnsUptoRow : OpenClaim := { program := "ytinolellciikoaa", sum := "476de9d282082a48cade929ade218b6b9ae3de253f5f1142e208a76574e890e7", func := "dunnage/dunnagelaw04.DiskTurns", spec := "diskTurns", unfollowed := true, recurses := true, apart := false, narrowed := true }
def DiskTurnsUptoSaid : Prop := diskTurnsUptoRow.holds Try.pinned (OpenSpec.upto diskTurnsSpec)

/-- 'dunnagelaw04.DiskForks', WHERE WHAT IT READS IS OF BULK AT MOST 1048576: true; the input reads as it did. -/
def diskForksUptoRow : OpenClaim := { program := "ytinolellciikoaa", sum := "476de9d282082a48cade929ade218b6b9ae3de253f5f1142e208a76574e890e7", func := "dunnage/dunnagelaw04.DiskForks", spec := "diskForks", unfollowed := true, recurses := true, apart := false, narrowed := true }
def DiskForksUptoSaid : Prop := diskForksUptoRow.holds Try.pinned (OpenSpec.upto diskForksSpec)

/-- 'dunnagelaw04.DiskPlays', WHERE WHAT IT READS IS OF BULK AT MOST 1048576: true; the input reads as it did. -/
def diskPlaysUptoRow : OpenClaim := { program := "ytinolellciikoaa", sum := "476de9d282082a48cade929ade218b6b9ae3de253f5f1142e208a76574e890e7", func := "dunnage/dunnagelaw04.DiskPlays", spec := "diskPlays", unfollowed := true, recurses := true, apart := false, narrowed := true }
def DiskPlaysUptoSaid : Prop := diskPlaysUptoRow.holds Try.pinned (OpenSpec.upto diskPlaysSpec)

/-- 'dunnagelaw04.DiskNil', WHERE WHAT IT READS IS OF BULK AT MOST 1048576: true; the input reads as it did. -/
def diskNilUptoRow : OpenClaim := { program := "ytinolellciikoaa", sum := "476de9d282082a48cade929ade218b6b9ae3de253f5f1142e208a76574e890e7", func := "dunnage/dunnagelaw04.DiskNil", spec := "diskNil", unfollowed := true, recurses := true, apart := false, narrowed := true }
def DiskNilUptoSaid : Prop := diskNilUptoRow.holds Try.pinned (OpenSpec.upto diskNilSpec)

/-- 'dunnagelaw06.FrameBack', WHERE WHAT IT READS IS OF BULK AT MOST 1048576: true; the input reads as it did. -/
def frameBackUptoRow : OpenClaim := { program := "ytinolellciikoaa", sum := "476de9d282082a48cade929ade218b6b9ae3de253f5f1142e208a76574e890e7", func := "dunnage/dunnagelaw06.FrameBack", spec := "frameBack", unfollowed := true, recurses := true, apart := false, narrowed := true }
def FrameBackUptoSaid : Prop := frameBackUptoRow.holds Try.pinned (OpenSpec.upto frameBackSpec)

/-- 'dunnagelaw06.FrameMixed', WHERE WHAT IT READS IS OF BULK AT MOST 1048576: true; the input reads as it did. -/
def frameMixedUptoRow : OpenClaim := { program := "ytinolellciikoaa", sum := "476de9d282082a48cade929ade218b6b9ae3de253f5f1142e208a76574e890e7", func := "dunnage/dunnagelaw06.FrameMixed", spec := "frameMixed", unfollowed := true, recurses := true, apart := false, narrowed := true }
def FrameMixedUptoSaid : Prop := frameMixedUptoRow.holds Try.pinned (OpenSpec.upto frameMixedSpec)

/-- 'dunnagelaw29.ScrubNil', WHERE WHAT IT READS IS OF BULK AT MOST 1048576: true; the input reads as it did. -/
def scrubNilUptoRow : OpenClaim := { program := "ytinolellciikoaa", sum := "476de9d282082a48cade929ade218b6b9ae3de253f5f1142e208a76574e890e7", func := "dunnage/dunnagelaw29.ScrubNil", spec := "scrubNil", unfollowed := true, recurses := true, apart := false, narrowed := true }
def ScrubNilUptoSaid : Prop := scrubNilUptoRow.holds Try.pinned (OpenSpec.upto scrubNilSpec)

/-- 'dunnagelaw27.ManifestBack', WHERE WHAT IT READS IS OF BULK AT MOST 1048576: true; the input reads as it did. -/
def manifestBackUptoRow : OpenClaim := { program := "ytinolellciikoaa", sum := "476de9d282082a48cade929ade218b6b9ae3de253f5f1142e208a76574e890e7", func := "dunnage/dunnagelaw27.ManifestBack", spec := "manifestBack", unfollowed := true, recurses := true, apart := false, narrowed := true }
def ManifestBackUptoSaid : Prop := manifestBackUptoRow.holds Try.pinned (OpenSpec.upto manifestBackSpec)

/-- 'dunnagelaw27.ManifestTells', WHERE WHAT IT READS IS OF BULK AT MOST 1048576: true; the input reads as it did. -/
def manifestTellsUptoRow : OpenClaim := { program := "ytinolellciikoaa", sum := "476de9d282082a48cade929ade218b6b9ae3de253f5f1142e208a76574e890e7", func := "dunnage/dunnagelaw27.ManifestTells", spec := "manifestTells", unfollowed := true, recurses := true, apart := false, narrowed := true }
def ManifestTellsUptoSaid : Prop := manifestTellsUptoRow.holds Try.pinned (OpenSpec.upto manifestTellsSpec)

/-- 'dunnagelaw27.ManifestTurns', WHERE WHAT IT READS IS OF BULK AT MOST 1048576: true; the input reads as it did. -/
def manifestTurnsUptoRow : OpenClaim := { program := "ytinolellciikoaa", sum := "476de9d282082a48cade929ade218b6b9ae3de253f5f1142e208a76574e890e7", func := "dunnage/dunnagelaw27.ManifestTurns", spec := "manifestTurns", unfollowed := true, recurses := true, apart := false, narrowed := true }
def ManifestTurnsUptoSaid : Prop := manifestTurnsUptoRow.holds Try.pinned (OpenSpec.upto manifestTurnsSpec)

/-- 'dunnagelaw29.ScrubLooks', WHERE WHAT IT READS IS OF BULK AT MOST 1048576: true; the input reads as it did. -/
def scrubLooksUptoRow : OpenClaim := { program := "ytinolellciikoaa", sum := "476de9d282082a48cade929ade218b6b9ae3de253f5f1142e208a76574e890e7", func := "dunnage/dunnagelaw29.ScrubLooks", spec := "scrubLooks", unfollowed := true, recurses := true, apart := false, narrowed := true }
def ScrubLooksUptoSaid : Prop := scrubLooksUptoRow.holds Try.pinned (OpenSpec.upto scrubLooksSpec)

/-- 'dunnagelaw29.ScrubTurned', WHERE WHAT IT READS IS OF BULK AT MOST 1048576: true; the input reads as it did. -/
def scrubTurnedUptoRow : OpenClaim := { program := "ytinolellciikoaa", sum := "476de9d282082a48cade929ade218b6b9ae3de253f5f1142e208a76574e890e7", func := "dunnage/dunnagelaw29.ScrubTurned", spec := "scrubTurned", unfollowed := true, recurses := true, apart := false, narrowed := true }
def ScrubTurnedUptoSaid : Prop := scrubTurnedUptoRow.holds Try.pinned (OpenSpec.upto scrubTurnedSpec)

/-- 'dunnagelaw29.ScrubHolds', WHERE WHAT IT READS IS OF BULK AT MOST 1048576: true; the input reads as it did. -/
def scrubHoldsUptoRow : OpenClaim := { program := "ytinolellciikoaa", sum := "476de9d282082a48cade929ade218b6b9ae3de253f5f1142e208a76574e890e7", func := "dunnage/dunnagelaw29.ScrubHolds", spec := "scrubHolds", unfollowed := true, recurses := true, apart := false, narrowed := true }
def ScrubHoldsUptoSaid : Prop := scrubHoldsUptoRow.holds Try.pinned (OpenSpec.upto scrubHoldsSpec)

/-- 'dunnagelaw27.ManifestStands', WHERE WHAT IT READS IS OF BULK AT MOST 1048576: true; the input reads as it did. -/
def manifestStandsUptoRow : OpenClaim := { program := "ytinolellciikoaa", sum := "476de9d282082a48cade929ade218b6b9ae3de253f5f1142e208a76574e890e7", func := "dunnage/dunnagelaw27.ManifestStands", spec := "manifestStands", unfollowed := true, recurses := true, apart := false, narrowed := true }
def ManifestStandsUptoSaid : Prop := manifestStandsUptoRow.holds Try.pinned (OpenSpec.upto manifestStandsSpec)

/-- 'dunnagelaw07.WalRoom', WHERE WHAT IT READS IS OF BULK AT MOST 1048576: true; the input reads as it did. -/
def walRoomUptoRow : OpenClaim := { program := "ytinolellciikoaa", sum := "476de9d282082a48cade929ade218b6b9ae3de253f5f1142e208a76574e890e7", func := "dunnage/dunnagelaw07.WalRoom", spec := "walRoom", unfollowed := true, recurses := true, apart := false, narrowed := true }
def WalRoomUptoSaid : Prop := walRoomUptoRow.holds Try.pinned (OpenSpec.upto walRoomSpec)

/-- 'dunnagelaw07.WalPart', WHERE WHAT IT READS IS OF BULK AT MOST 1048576: true; the input reads as it did. -/
def walPartUptoRow : OpenClaim := { program := "ytinolellciikoaa", sum := "476de9d282082a48cade929ade218b6b9ae3de253f5f1142e208a76574e890e7", func := "dunnage/dunnagelaw07.WalPart", spec := "walPart", unfollowed := true, recurses := true, apart := false, narrowed := true }
def WalPartUptoSaid : Prop := walPartUptoRow.holds Try.pinned (OpenSpec.upto walPartSpec)

/-- 'dunnagelaw07.WalNil', WHERE WHAT IT READS IS OF BULK AT MOST 1048576: true; the input reads as it did. -/
def walNilUptoRow : OpenClaim := { program := "ytinolellciikoaa", sum := "476de9d282082a48cade929ade218b6b9ae3de253f5f1142e208a76574e890e7", func := "dunnage/dunnagelaw07.WalNil", spec := "walNil", unfollowed := true, recurses := true, apart := false, narrowed := true }
def WalNilUptoSaid : Prop := walNilUptoRow.holds Try.pinned (OpenSpec.upto walNilSpec)

/-- 'dunnagelaw07.WalRounds', WHERE WHAT IT READS IS OF BULK AT MOST 1048576: true; the input reads as it did. -/
def walRoundsUptoRow : OpenClaim := { program := "ytinolellciikoaa", sum := "476de9d282082a48cade929ade218b6b9ae3de253f5f1142e208a76574e890e7", func := "dunnage/dunnagelaw07.WalRounds", spec := "walRounds", unfollowed := true, recurses := true, apart := false, narrowed := true }
def WalRoundsUptoSaid : Prop := walRoundsUptoRow.holds Try.pinned (OpenSpec.upto walRoundsSpec)

end Rows
end Go.Proofs.Ytinolellciikoaa
