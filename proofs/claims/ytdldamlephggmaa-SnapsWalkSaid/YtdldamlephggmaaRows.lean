/-
  No cell of these rows narrows 'for every input' (looked for: loops, veiled, ifaces, maps, wideKeys, modest, calm, conditions, laid).
  DERIVED. THE GIVEN ROWS OF THIS SEAT. 5 by the template 'for every input the law returns true; each argument reads behind the call as it read before'; 0 by the template 'total and deterministic' (their statements: YtdldamlephggmaaTotals.lean).
  GIVEN WITH THE SEED: the statements are not yours to turn. If you find one false, say at which input.
  Laid BY PROGRAM, IN A SANDBOX (cutbox-rows.mjs): the forced cells as the released guide's own fill.sh prints them over the translation 884e5cea028ea7e1… (all of the seat's roots in one cut). By AI agents, Wed Nov 11 2026. No macro, syntax, notation, axiom, sorry.
-/
import Derived.Test.YtdldamlephggmaaChecked
import GoSem.Claim
import GoSem.ClaimJoined
import GoSem.ClaimMapViews
import Derived.JoinedTies
import Derived.KernelRfl
namespace Go.Proofs.Ytdldamlephggmaa
/- THE CELL 'sum', in the pinned program and in every row, IS THE sha256 OF THE DUMP (.gsa) THAT YtdldamlephggmaaProg.lean LOADS. Nothing in Lean hashes anything: it is a label: what it is worth is what the hold of that sum in a sandbox is worth. -/
noncomputable def Try.pinned : Pinned := { name := "ytdldamlephggmaa", sum := "884e5cea028ea7e1b239990b40be6bdd1d36de89aee3a547f5fb9e847a344795", checked := Try.checked }
namespace Rows
def none {H : Type} : Left H := { results := [], args := [] }

/-- 'dunnagelaw26.ForwardBoth': WHATEVER THE INPUT: true; the input reads as it did. -/
def forwardBothSpec : ChangeSpec := { name := "forwardBoth", fn := fun _ => fun
  | [d1, d2, d3, d4] => { results := [.lit (.bool true)], args := [d1, d2, d3, d4] }
  | _ => none }
def forwardBothRow : OpenClaim := { program := "ytdldamlephggmaa", sum := "884e5cea028ea7e1b239990b40be6bdd1d36de89aee3a547f5fb9e847a344795", func := "dunnage/dunnagelaw26.ForwardBoth", spec := "forwardBoth", apart := false }
def ForwardBothSaid : Prop := forwardBothRow.holds Try.pinned (OpenSpec.ofChange forwardBothSpec)

/-- ITS FALSE NEIGHBOUR: 'it returns false'. Refute it at one input. -/
def forwardBothWrong : ChangeSpec := { name := "forwardBoth", fn := fun _ => fun
  | [d1, d2, d3, d4] => { results := [.lit (.bool false)], args := [d1, d2, d3, d4] }
  | _ => none }
def ForwardBothWrongFalsely : Prop := forwardBothRow.holds Try.pinned (OpenSpec.ofChange forwardBothWrong)

/-- 'dunnagelaw26.ForwardFolds': WHATEVER THE INPUT: true; the input reads as it did. -/
def forwardFoldsSpec : ChangeSpec := { name := "forwardFolds", fn := fun _ => fun
  | [d] => { results := [.lit (.bool true)], args := [d] }
  | _ => none }
def forwardFoldsRow : OpenClaim := { program := "ytdldamlephggmaa", sum := "884e5cea028ea7e1b239990b40be6bdd1d36de89aee3a547f5fb9e847a344795", func := "dunnage/dunnagelaw26.ForwardFolds", spec := "forwardFolds", unfollowed := true, recurses := true, apart := false }
def ForwardFoldsSaid : Prop := forwardFoldsRow.holds Try.pinned (OpenSpec.ofChange forwardFoldsSpec)

/-- ITS FALSE NEIGHBOUR: 'it returns false'. Refute it at one input. -/
def forwardFoldsWrong : ChangeSpec := { name := "forwardFolds", fn := fun _ => fun
  | [d] => { results := [.lit (.bool false)], args := [d] }
  | _ => none }
def ForwardFoldsWrongFalsely : Prop := forwardFoldsRow.holds Try.pinned (OpenSpec.ofChange forwardFoldsWrong)

/-- 'dunnagelaw26.ForwardTells': WHATEVER THE INPUT: true; the input reads as it did. -/
def forwardTellsSpec : ChangeSpec := { name := "forwardTells", fn := fun _ => fun
  | [d1, d2, d3, d4] => { results := [.lit (.bool true)], args := [d1, d2, d3, d4] }
  | _ => none }
def forwardTellsRow : OpenClaim := { program := "ytdldamlephggmaa", sum := "884e5cea028ea7e1b239990b40be6bdd1d36de89aee3a547f5fb9e847a344795", func := "dunnage/dunnagelaw26.ForwardTells", spec := "forwardTells", unfollowed := true, recurses := true, apart := false }
def ForwardTellsSaid : Prop := forwardTellsRow.holds Try.pinned (OpenSpec.ofChange forwardTellsSpec)

/-- ITS FALSE NEIGHBOUR: 'it returns false'. Refute it at one input. -/
def forwardTellsWrong : ChangeSpec := { name := "forwardTells", fn := fun _ => fun
  | [d1, d2, d3, d4] => { results := [.lit (.bool false)], args := [d1, d2, d3, d4] }
  | _ => none }
def ForwardTellsWrongFalsely : Prop := forwardTellsRow.holds Try.pinned (OpenSpec.ofChange forwardTellsWrong)

/-- 'dunnagelaw19.SnapsTell': WHATEVER THE INPUT: true; the input reads as it did. -/
def snapsTellSpec : ChangeSpec := { name := "snapsTell", fn := fun _ => fun
  | [d1, d2] => { results := [.lit (.bool true)], args := [d1, d2] }
  | _ => none }
def snapsTellRow : OpenClaim := { program := "ytdldamlephggmaa", sum := "884e5cea028ea7e1b239990b40be6bdd1d36de89aee3a547f5fb9e847a344795", func := "dunnage/dunnagelaw19.SnapsTell", spec := "snapsTell", unfollowed := true, recurses := true, apart := false }
def SnapsTellSaid : Prop := snapsTellRow.holds Try.pinned (OpenSpec.ofChange snapsTellSpec)

/-- ITS FALSE NEIGHBOUR: 'it returns false'. Refute it at one input. -/
def snapsTellWrong : ChangeSpec := { name := "snapsTell", fn := fun _ => fun
  | [d1, d2] => { results := [.lit (.bool false)], args := [d1, d2] }
  | _ => none }
def SnapsTellWrongFalsely : Prop := snapsTellRow.holds Try.pinned (OpenSpec.ofChange snapsTellWrong)

/-- 'dunnagelaw19.SnapsWalk': WHATEVER THE INPUT: true; the input reads as it did. -/
def snapsWalkSpec : ChangeSpec := { name := "snapsWalk", fn := fun _ => fun
  | [d] => { results := [.lit (.bool true)], args := [d] }
  | _ => none }
def snapsWalkRow : OpenClaim := { program := "ytdldamlephggmaa", sum := "884e5cea028ea7e1b239990b40be6bdd1d36de89aee3a547f5fb9e847a344795", func := "dunnage/dunnagelaw19.SnapsWalk", spec := "snapsWalk", unfollowed := true, recurses := true, apart := false }
def SnapsWalkSaid : Prop := snapsWalkRow.holds Try.pinned (OpenSpec.ofChange snapsWalkSpec)

/-- ITS FALSE NEIGHBOUR: 'it returns false'. Refute it at one input. -/
def snapsWalkWrong : ChangeSpec := { name := "snapsWalk", fn := fun _ => fun
  | [d] => { results := [.lit (.bool false)], args := [d] }
  | _ => none }
def SnapsWalkWrongFalsely : Prop := snapsWalkRow.holds Try.pinned (OpenSpec.ofChange snapsWalkWrong)

/- THE SECOND FORM. 'bulk': how many values and letters a reading holds, each counted each time it is reached (what is shared counts as often as it is met; a slice's spare places count too). A statement '..UptoSaid' is the law's where the arguments, and the package variables that the reading takes, are together of bulk at most 1048576: NARROWER than '..Said'. Prove '..Said' where nothing that the law and all that it calls make is longer than what came in: it says more and counts as full. Else prove '..UptoSaid'. A law counts once. -/
mutual
def uptoBulk {H : Type} : DataW H → Nat
  | .lit (.string bytes) => bytes.length + 1
  | .lit _ => 1
  | .nil => 1
  | .ptr d => uptoBulk d + 1
  | .slice elems spare => uptoBulkAll elems + uptoBulkAll spare + 1
  | .agg parts => uptoBulkAll parts + 1
  | .iface _ d => uptoBulk d + 1
  | .map entries => uptoBulkEntries entries + 1
  | .held _ => 1
def uptoBulkAll {H : Type} : List (DataW H) → Nat
  | [] => 0
  | d :: r => uptoBulk d + uptoBulkAll r
def uptoBulkEntries {H : Type} : List (Lit × DataW H) → Nat
  | [] => 0
  | x :: r => uptoBulkEntry x + uptoBulkEntries r
def uptoBulkEntry {H : Type} : Lit × DataW H → Nat
  | (.string bytes, d) => bytes.length + uptoBulk d + 1
  | (_, d) => uptoBulk d + 1
 end
def uptoSmall : (H : Type) → List (DataW H) → Bool := fun _ ds => decide (uptoBulkAll ds ≤ 1048576)
def OpenSpec.upto (s : _root_.Go.ChangeSpec) : _root_.Go.OpenSpec := { _root_.Go.OpenSpec.ofChange s with cond := some uptoSmall }

/-- 'dunnagelaw26.ForwardBoth', WHERE WHAT IT READS IS OF BULK AT MOST 1048576: true; the input reads as it did. -/
def forwardBothUptoRow : OpenClaim := { program := "ytdldamlephggmaa", sum := "884e5cea028ea7e1b239990b40be6bdd1d36de89aee3a547f5fb9e847a344795", func := "dunnage/dunnagelaw26.ForwardBoth", spec := "forwardBoth", apart := false, narrowed := true }
def ForwardBothUptoSaid : Prop := forwardBothUptoRow.holds Try.pinned (OpenSpec.upto forwardBothSpec)

/-- 'dunnagelaw26.ForwardFolds', WHERE WHAT IT READS IS OF BULK AT MOST 1048576: true; the input reads as it did. -/
def forwardFoldsUptoRow : OpenClaim := { program := "ytdldamlephggmaa", sum := "884e5cea028ea7e1b239990b40be6bdd1d36de89aee3a547f5fb9e847a344795", func := "dunnage/dunnagelaw26.ForwardFolds", spec := "forwardFolds", unfollowed := true, recurses := true, apart := false, narrowed := true }
def ForwardFoldsUptoSaid : Prop := forwardFoldsUptoRow.holds Try.pinned (OpenSpec.upto forwardFoldsSpec)

/-- 'dunnagelaw26.ForwardTells', WHERE WHAT IT READS IS OF BULK AT MOST 1048576: true; the input reads as it did. -/
def forwardTellsUptoRow : OpenClaim := { program := "ytdldamlephggmaa", sum := "884e5cea028ea7e1b239990b40be6bdd1d36de89aee3a547f5fb9e847a344795", func := "dunnage/dunnagelaw26.ForwardTells", spec := "forwardTells", unfollowed := true, recurses := true, apart := false, narrowed := true }
def ForwardTellsUptoSaid : Prop := forwardTellsUptoRow.holds Try.pinned (OpenSpec.upto forwardTellsSpec)

/-- 'dunnagelaw19.SnapsTell', WHERE WHAT IT READS IS OF BULK AT MOST 1048576: true; the input reads as it did. -/
def snapsTellUptoRow : OpenClaim := { program := "ytdldamlephggmaa", sum := "884e5cea028ea7e1b239990b40be6bdd1d36de89aee3a547f5fb9e847a344795", func := "dunnage/dunnagelaw19.SnapsTell", spec := "snapsTell", unfollowed := true, recurses := true, apart := false, narrowed := true }
def SnapsTellUptoSaid : Prop := snapsTellUptoRow.holds Try.pinned (OpenSpec.upto snapsTellSpec)

/-- 'dunnagelaw19.SnapsWalk', WHERE WHAT IT READS IS OF BULK AT MOST 1048576: true; the input reads as it did. -/
def snapsWalkUptoRow : OpenClaim := { program := "ytdldamlephggmaa", sum := "884e5cea028ea7e1b239990b40be6bdd1d36de89aee3a547f5fb9e847a344795", func := "dunnage/dunnagelaw19.SnapsWalk", spec := "snapsWalk", unfollowed := true, recurses := true, apart := false, narrowed := true }
def SnapsWalkUptoSaid : Prop := snapsWalkUptoRow.holds Try.pinned (OpenSpec.upto snapsWalkSpec)

end Rows
end Go.Proofs.Ytdldamlephggmaa
