/-
  No cell of these rows narrows 'for every input' (looked for: loops, veiled, ifaces, maps, wideKeys, modest, calm, conditions, laid).
  DERIVED. THE GIVEN ROWS OF THIS SEAT. 19 by the template 'for every input the law returns true; each argument reads behind the call as it read before'; 0 by the template 'total and deterministic' (their statements: YtbnnpnillppdhaaTotals.lean).
  GIVEN WITH THE SEED: the statements are not yours to turn. If you find one false, say at which input.
  Laid BY PROGRAM, IN A SANDBOX (cutbox-rows.mjs): the forced cells as the released guide's own fill.sh prints them over the translation bbaa717154552626… (all of the seat's roots in one cut). By AI agents, Wed Nov 11 2026. No macro, syntax, notation, axiom, sorry.
-/
import Derived.Test.YtbnnpnillppdhaaChecked
import GoSem.Claim
import GoSem.ClaimJoined
import GoSem.ClaimMapViews
import Derived.JoinedTies
import Derived.KernelRfl
namespace Go.Proofs.Ytbnnpnillppdhaa
/- THE CELL 'sum', in the pinned program and in every row, IS THE sha256 OF THE DUMP (.gsa) THAT YtbnnpnillppdhaaProg.lean LOADS. Nothing in Lean hashes anything: it is a label: what it is worth is what the hold of that sum in a sandbox is worth. -/
noncomputable def Try.pinned : Pinned := { name := "ytbnnpnillppdhaa", sum := "bbaa717154552626eb1abd10ce27e47dbfda62e770defbb054b54d17fa78dd22", checked := Try.checked }
namespace Rows
def none {H : Type} : Left H := { results := [], args := [] }

/-- 'dunnagelaw01.WordLengths': WHATEVER THE INPUT: true; the input reads as it did. -/
def wordLengthsSpec : ChangeSpec := { name := "wordLengths", fn := fun _ => fun
  | [d1, d2] => { results := [.lit (.bool true)], args := [d1, d2] }
  | _ => none }
def wordLengthsRow : OpenClaim := { program := "ytbnnpnillppdhaa", sum := "bbaa717154552626eb1abd10ce27e47dbfda62e770defbb054b54d17fa78dd22", func := "dunnage/dunnagelaw01.WordLengths", spec := "wordLengths", unfollowed := true, recurses := true, apart := false }
def WordLengthsSaid : Prop := wordLengthsRow.holds Try.pinned (OpenSpec.ofChange wordLengthsSpec)

/-- ITS FALSE NEIGHBOUR: 'it returns false'. Refute it at one input. -/
def wordLengthsWrong : ChangeSpec := { name := "wordLengths", fn := fun _ => fun
  | [d1, d2] => { results := [.lit (.bool false)], args := [d1, d2] }
  | _ => none }
def WordLengthsWrongFalsely : Prop := wordLengthsRow.holds Try.pinned (OpenSpec.ofChange wordLengthsWrong)

/-- 'dunnagelaw02.CrcSums': WHATEVER THE INPUT: true; the input reads as it did. -/
def crcSumsSpec : ChangeSpec := { name := "crcSums", fn := fun _ => fun
  | [d1, d2] => { results := [.lit (.bool true)], args := [d1, d2] }
  | _ => none }
def crcSumsRow : OpenClaim := { program := "ytbnnpnillppdhaa", sum := "bbaa717154552626eb1abd10ce27e47dbfda62e770defbb054b54d17fa78dd22", func := "dunnage/dunnagelaw02.CrcSums", spec := "crcSums", unfollowed := true, recurses := true, apart := false }
def CrcSumsSaid : Prop := crcSumsRow.holds Try.pinned (OpenSpec.ofChange crcSumsSpec)

/-- ITS FALSE NEIGHBOUR: 'it returns false'. Refute it at one input. -/
def crcSumsWrong : ChangeSpec := { name := "crcSums", fn := fun _ => fun
  | [d1, d2] => { results := [.lit (.bool false)], args := [d1, d2] }
  | _ => none }
def CrcSumsWrongFalsely : Prop := crcSumsRow.holds Try.pinned (OpenSpec.ofChange crcSumsWrong)

/-- 'dunnagelaw02.CrcThree': WHATEVER THE INPUT: true; the input reads as it did. -/
def crcThreeSpec : ChangeSpec := { name := "crcThree", fn := fun _ => fun
  | [d1, d2, d3, d4] => { results := [.lit (.bool true)], args := [d1, d2, d3, d4] }
  | _ => none }
def crcThreeRow : OpenClaim := { program := "ytbnnpnillppdhaa", sum := "bbaa717154552626eb1abd10ce27e47dbfda62e770defbb054b54d17fa78dd22", func := "dunnage/dunnagelaw02.CrcThree", spec := "crcThree", apart := false }
def CrcThreeSaid : Prop := crcThreeRow.holds Try.pinned (OpenSpec.ofChange crcThreeSpec)

/-- ITS FALSE NEIGHBOUR: 'it returns false'. Refute it at one input. -/
def crcThreeWrong : ChangeSpec := { name := "crcThree", fn := fun _ => fun
  | [d1, d2, d3, d4] => { results := [.lit (.bool false)], args := [d1, d2, d3, d4] }
  | _ => none }
def CrcThreeWrongFalsely : Prop := crcThreeRow.holds Try.pinned (OpenSpec.ofChange crcThreeWrong)

/-- 'dunnagelaw02.CrcBurst': WHATEVER THE INPUT: true; the input reads as it did. -/
def crcBurstSpec : ChangeSpec := { name := "crcBurst", fn := fun _ => fun
  | [d1, d2, d3] => { results := [.lit (.bool true)], args := [d1, d2, d3] }
  | _ => none }
def crcBurstRow : OpenClaim := { program := "ytbnnpnillppdhaa", sum := "bbaa717154552626eb1abd10ce27e47dbfda62e770defbb054b54d17fa78dd22", func := "dunnage/dunnagelaw02.CrcBurst", spec := "crcBurst", apart := false }
def CrcBurstSaid : Prop := crcBurstRow.holds Try.pinned (OpenSpec.ofChange crcBurstSpec)

/-- ITS FALSE NEIGHBOUR: 'it returns false'. Refute it at one input. -/
def crcBurstWrong : ChangeSpec := { name := "crcBurst", fn := fun _ => fun
  | [d1, d2, d3] => { results := [.lit (.bool false)], args := [d1, d2, d3] }
  | _ => none }
def CrcBurstWrongFalsely : Prop := crcBurstRow.holds Try.pinned (OpenSpec.ofChange crcBurstWrong)

/-- 'dunnagelaw02.CrcLinear': WHATEVER THE INPUT: true; the input reads as it did. -/
def crcLinearSpec : ChangeSpec := { name := "crcLinear", fn := fun _ => fun
  | [d1, d2, d3] => { results := [.lit (.bool true)], args := [d1, d2, d3] }
  | _ => none }
def crcLinearRow : OpenClaim := { program := "ytbnnpnillppdhaa", sum := "bbaa717154552626eb1abd10ce27e47dbfda62e770defbb054b54d17fa78dd22", func := "dunnage/dunnagelaw02.CrcLinear", spec := "crcLinear", apart := false }
def CrcLinearSaid : Prop := crcLinearRow.holds Try.pinned (OpenSpec.ofChange crcLinearSpec)

/-- ITS FALSE NEIGHBOUR: 'it returns false'. Refute it at one input. -/
def crcLinearWrong : ChangeSpec := { name := "crcLinear", fn := fun _ => fun
  | [d1, d2, d3] => { results := [.lit (.bool false)], args := [d1, d2, d3] }
  | _ => none }
def CrcLinearWrongFalsely : Prop := crcLinearRow.holds Try.pinned (OpenSpec.ofChange crcLinearWrong)

/-- 'dunnagelaw05.LayoutRing': WHATEVER THE INPUT: true; the input reads as it did. -/
def layoutRingSpec : ChangeSpec := { name := "layoutRing", fn := fun _ => fun
  | [d1, d2] => { results := [.lit (.bool true)], args := [d1, d2] }
  | _ => none }
def layoutRingRow : OpenClaim := { program := "ytbnnpnillppdhaa", sum := "bbaa717154552626eb1abd10ce27e47dbfda62e770defbb054b54d17fa78dd22", func := "dunnage/dunnagelaw05.LayoutRing", spec := "layoutRing", apart := false }
def LayoutRingSaid : Prop := layoutRingRow.holds Try.pinned (OpenSpec.ofChange layoutRingSpec)

/-- ITS FALSE NEIGHBOUR: 'it returns false'. Refute it at one input. -/
def layoutRingWrong : ChangeSpec := { name := "layoutRing", fn := fun _ => fun
  | [d1, d2] => { results := [.lit (.bool false)], args := [d1, d2] }
  | _ => none }
def LayoutRingWrongFalsely : Prop := layoutRingRow.holds Try.pinned (OpenSpec.ofChange layoutRingWrong)

/-- 'dunnagelaw01.WordVars': WHATEVER THE INPUT: true; the input reads as it did. -/
def wordVarsSpec : ChangeSpec := { name := "wordVars", fn := fun _ => fun
  | [d1, d2, d3] => { results := [.lit (.bool true)], args := [d1, d2, d3] }
  | _ => none }
def wordVarsRow : OpenClaim := { program := "ytbnnpnillppdhaa", sum := "bbaa717154552626eb1abd10ce27e47dbfda62e770defbb054b54d17fa78dd22", func := "dunnage/dunnagelaw01.WordVars", spec := "wordVars", unfollowed := true, recurses := true, apart := false }
def WordVarsSaid : Prop := wordVarsRow.holds Try.pinned (OpenSpec.ofChange wordVarsSpec)

/-- ITS FALSE NEIGHBOUR: 'it returns false'. Refute it at one input. -/
def wordVarsWrong : ChangeSpec := { name := "wordVars", fn := fun _ => fun
  | [d1, d2, d3] => { results := [.lit (.bool false)], args := [d1, d2, d3] }
  | _ => none }
def WordVarsWrongFalsely : Prop := wordVarsRow.holds Try.pinned (OpenSpec.ofChange wordVarsWrong)

/-- 'dunnagelaw01.WordOneForm': WHATEVER THE INPUT: true; the input reads as it did. -/
def wordOneFormSpec : ChangeSpec := { name := "wordOneForm", fn := fun _ => fun
  | [d1, d2, d3, d4, d5] => { results := [.lit (.bool true)], args := [d1, d2, d3, d4, d5] }
  | _ => none }
def wordOneFormRow : OpenClaim := { program := "ytbnnpnillppdhaa", sum := "bbaa717154552626eb1abd10ce27e47dbfda62e770defbb054b54d17fa78dd22", func := "dunnage/dunnagelaw01.WordOneForm", spec := "wordOneForm", unfollowed := true, recurses := true, apart := false }
def WordOneFormSaid : Prop := wordOneFormRow.holds Try.pinned (OpenSpec.ofChange wordOneFormSpec)

/-- ITS FALSE NEIGHBOUR: 'it returns false'. Refute it at one input. -/
def wordOneFormWrong : ChangeSpec := { name := "wordOneForm", fn := fun _ => fun
  | [d1, d2, d3, d4, d5] => { results := [.lit (.bool false)], args := [d1, d2, d3, d4, d5] }
  | _ => none }
def WordOneFormWrongFalsely : Prop := wordOneFormRow.holds Try.pinned (OpenSpec.ofChange wordOneFormWrong)

/-- 'dunnagelaw01.WordRoom': WHATEVER THE INPUT: true; the input reads as it did. -/
def wordRoomSpec : ChangeSpec := { name := "wordRoom", fn := fun _ => fun
  | [d1, d2] => { results := [.lit (.bool true)], args := [d1, d2] }
  | _ => none }
def wordRoomRow : OpenClaim := { program := "ytbnnpnillppdhaa", sum := "bbaa717154552626eb1abd10ce27e47dbfda62e770defbb054b54d17fa78dd22", func := "dunnage/dunnagelaw01.WordRoom", spec := "wordRoom", unfollowed := true, recurses := true, apart := false }
def WordRoomSaid : Prop := wordRoomRow.holds Try.pinned (OpenSpec.ofChange wordRoomSpec)

/-- ITS FALSE NEIGHBOUR: 'it returns false'. Refute it at one input. -/
def wordRoomWrong : ChangeSpec := { name := "wordRoom", fn := fun _ => fun
  | [d1, d2] => { results := [.lit (.bool false)], args := [d1, d2] }
  | _ => none }
def WordRoomWrongFalsely : Prop := wordRoomRow.holds Try.pinned (OpenSpec.ofChange wordRoomWrong)

/-- 'dunnagelaw02.CrcJoins': WHATEVER THE INPUT: true; the input reads as it did. -/
def crcJoinsSpec : ChangeSpec := { name := "crcJoins", fn := fun _ => fun
  | [d1, d2, d3] => { results := [.lit (.bool true)], args := [d1, d2, d3] }
  | _ => none }
def crcJoinsRow : OpenClaim := { program := "ytbnnpnillppdhaa", sum := "bbaa717154552626eb1abd10ce27e47dbfda62e770defbb054b54d17fa78dd22", func := "dunnage/dunnagelaw02.CrcJoins", spec := "crcJoins", apart := false }
def CrcJoinsSaid : Prop := crcJoinsRow.holds Try.pinned (OpenSpec.ofChange crcJoinsSpec)

/-- ITS FALSE NEIGHBOUR: 'it returns false'. Refute it at one input. -/
def crcJoinsWrong : ChangeSpec := { name := "crcJoins", fn := fun _ => fun
  | [d1, d2, d3] => { results := [.lit (.bool false)], args := [d1, d2, d3] }
  | _ => none }
def CrcJoinsWrongFalsely : Prop := crcJoinsRow.holds Try.pinned (OpenSpec.ofChange crcJoinsWrong)

/-- 'dunnagelaw02.CrcParts': WHATEVER THE INPUT: true; the input reads as it did. -/
def crcPartsSpec : ChangeSpec := { name := "crcParts", fn := fun _ => fun
  | [d1, d2, d3] => { results := [.lit (.bool true)], args := [d1, d2, d3] }
  | _ => none }
def crcPartsRow : OpenClaim := { program := "ytbnnpnillppdhaa", sum := "bbaa717154552626eb1abd10ce27e47dbfda62e770defbb054b54d17fa78dd22", func := "dunnage/dunnagelaw02.CrcParts", spec := "crcParts", apart := false }
def CrcPartsSaid : Prop := crcPartsRow.holds Try.pinned (OpenSpec.ofChange crcPartsSpec)

/-- ITS FALSE NEIGHBOUR: 'it returns false'. Refute it at one input. -/
def crcPartsWrong : ChangeSpec := { name := "crcParts", fn := fun _ => fun
  | [d1, d2, d3] => { results := [.lit (.bool false)], args := [d1, d2, d3] }
  | _ => none }
def CrcPartsWrongFalsely : Prop := crcPartsRow.holds Try.pinned (OpenSpec.ofChange crcPartsWrong)

/-- 'dunnagelaw05.LayoutApart': WHATEVER THE INPUT: true; the input reads as it did. -/
def layoutApartSpec : ChangeSpec := { name := "layoutApart", fn := fun _ => fun
  | [d] => { results := [.lit (.bool true)], args := [d] }
  | _ => none }
def layoutApartRow : OpenClaim := { program := "ytbnnpnillppdhaa", sum := "bbaa717154552626eb1abd10ce27e47dbfda62e770defbb054b54d17fa78dd22", func := "dunnage/dunnagelaw05.LayoutApart", spec := "layoutApart", apart := false }
def LayoutApartSaid : Prop := layoutApartRow.holds Try.pinned (OpenSpec.ofChange layoutApartSpec)

/-- ITS FALSE NEIGHBOUR: 'it returns false'. Refute it at one input. -/
def layoutApartWrong : ChangeSpec := { name := "layoutApart", fn := fun _ => fun
  | [d] => { results := [.lit (.bool false)], args := [d] }
  | _ => none }
def LayoutApartWrongFalsely : Prop := layoutApartRow.holds Try.pinned (OpenSpec.ofChange layoutApartWrong)

/-- 'dunnagelaw05.LayoutPlaces': WHATEVER THE INPUT: true; the input reads as it did. -/
def layoutPlacesSpec : ChangeSpec := { name := "layoutPlaces", fn := fun _ => fun
  | [d1, d2, d3] => { results := [.lit (.bool true)], args := [d1, d2, d3] }
  | _ => none }
def layoutPlacesRow : OpenClaim := { program := "ytbnnpnillppdhaa", sum := "bbaa717154552626eb1abd10ce27e47dbfda62e770defbb054b54d17fa78dd22", func := "dunnage/dunnagelaw05.LayoutPlaces", spec := "layoutPlaces", apart := false }
def LayoutPlacesSaid : Prop := layoutPlacesRow.holds Try.pinned (OpenSpec.ofChange layoutPlacesSpec)

/-- ITS FALSE NEIGHBOUR: 'it returns false'. Refute it at one input. -/
def layoutPlacesWrong : ChangeSpec := { name := "layoutPlaces", fn := fun _ => fun
  | [d1, d2, d3] => { results := [.lit (.bool false)], args := [d1, d2, d3] }
  | _ => none }
def LayoutPlacesWrongFalsely : Prop := layoutPlacesRow.holds Try.pinned (OpenSpec.ofChange layoutPlacesWrong)

/-- 'dunnagelaw01.WordPuts': WHATEVER THE INPUT: true; the input reads as it did. -/
def wordPutsSpec : ChangeSpec := { name := "wordPuts", fn := fun _ => fun
  | [d1, d2, d3, d4, d5] => { results := [.lit (.bool true)], args := [d1, d2, d3, d4, d5] }
  | _ => none }
def wordPutsRow : OpenClaim := { program := "ytbnnpnillppdhaa", sum := "bbaa717154552626eb1abd10ce27e47dbfda62e770defbb054b54d17fa78dd22", func := "dunnage/dunnagelaw01.WordPuts", spec := "wordPuts", unfollowed := true, recurses := true, apart := false }
def WordPutsSaid : Prop := wordPutsRow.holds Try.pinned (OpenSpec.ofChange wordPutsSpec)

/-- ITS FALSE NEIGHBOUR: 'it returns false'. Refute it at one input. -/
def wordPutsWrong : ChangeSpec := { name := "wordPuts", fn := fun _ => fun
  | [d1, d2, d3, d4, d5] => { results := [.lit (.bool false)], args := [d1, d2, d3, d4, d5] }
  | _ => none }
def WordPutsWrongFalsely : Prop := wordPutsRow.holds Try.pinned (OpenSpec.ofChange wordPutsWrong)

/-- 'dunnagelaw01.WordGets': WHATEVER THE INPUT: true; the input reads as it did. -/
def wordGetsSpec : ChangeSpec := { name := "wordGets", fn := fun _ => fun
  | [d1, d2, d3, d4] => { results := [.lit (.bool true)], args := [d1, d2, d3, d4] }
  | _ => none }
def wordGetsRow : OpenClaim := { program := "ytbnnpnillppdhaa", sum := "bbaa717154552626eb1abd10ce27e47dbfda62e770defbb054b54d17fa78dd22", func := "dunnage/dunnagelaw01.WordGets", spec := "wordGets", unfollowed := true, recurses := true, apart := false }
def WordGetsSaid : Prop := wordGetsRow.holds Try.pinned (OpenSpec.ofChange wordGetsSpec)

/-- ITS FALSE NEIGHBOUR: 'it returns false'. Refute it at one input. -/
def wordGetsWrong : ChangeSpec := { name := "wordGets", fn := fun _ => fun
  | [d1, d2, d3, d4] => { results := [.lit (.bool false)], args := [d1, d2, d3, d4] }
  | _ => none }
def WordGetsWrongFalsely : Prop := wordGetsRow.holds Try.pinned (OpenSpec.ofChange wordGetsWrong)

/-- 'dunnagelaw01.WordHalves': WHATEVER THE INPUT: true; the input reads as it did. -/
def wordHalvesSpec : ChangeSpec := { name := "wordHalves", fn := fun _ => fun
  | [d1, d2] => { results := [.lit (.bool true)], args := [d1, d2] }
  | _ => none }
def wordHalvesRow : OpenClaim := { program := "ytbnnpnillppdhaa", sum := "bbaa717154552626eb1abd10ce27e47dbfda62e770defbb054b54d17fa78dd22", func := "dunnage/dunnagelaw01.WordHalves", spec := "wordHalves", unfollowed := true, recurses := true, apart := false }
def WordHalvesSaid : Prop := wordHalvesRow.holds Try.pinned (OpenSpec.ofChange wordHalvesSpec)

/-- ITS FALSE NEIGHBOUR: 'it returns false'. Refute it at one input. -/
def wordHalvesWrong : ChangeSpec := { name := "wordHalves", fn := fun _ => fun
  | [d1, d2] => { results := [.lit (.bool false)], args := [d1, d2] }
  | _ => none }
def WordHalvesWrongFalsely : Prop := wordHalvesRow.holds Try.pinned (OpenSpec.ofChange wordHalvesWrong)

/-- 'dunnagelaw05.LayoutPlans': WHATEVER THE INPUT: true; the input reads as it did. -/
def layoutPlansSpec : ChangeSpec := { name := "layoutPlans", fn := fun _ => fun
  | [d1, d2, d3] => { results := [.lit (.bool true)], args := [d1, d2, d3] }
  | _ => none }
def layoutPlansRow : OpenClaim := { program := "ytbnnpnillppdhaa", sum := "bbaa717154552626eb1abd10ce27e47dbfda62e770defbb054b54d17fa78dd22", func := "dunnage/dunnagelaw05.LayoutPlans", spec := "layoutPlans", apart := false }
def LayoutPlansSaid : Prop := layoutPlansRow.holds Try.pinned (OpenSpec.ofChange layoutPlansSpec)

/-- ITS FALSE NEIGHBOUR: 'it returns false'. Refute it at one input. -/
def layoutPlansWrong : ChangeSpec := { name := "layoutPlans", fn := fun _ => fun
  | [d1, d2, d3] => { results := [.lit (.bool false)], args := [d1, d2, d3] }
  | _ => none }
def LayoutPlansWrongFalsely : Prop := layoutPlansRow.holds Try.pinned (OpenSpec.ofChange layoutPlansWrong)

/-- 'dunnagelaw01.WordTexts': WHATEVER THE INPUT: true; the input reads as it did. -/
def wordTextsSpec : ChangeSpec := { name := "wordTexts", fn := fun _ => fun
  | [d1, d2, d3, d4] => { results := [.lit (.bool true)], args := [d1, d2, d3, d4] }
  | _ => none }
def wordTextsRow : OpenClaim := { program := "ytbnnpnillppdhaa", sum := "bbaa717154552626eb1abd10ce27e47dbfda62e770defbb054b54d17fa78dd22", func := "dunnage/dunnagelaw01.WordTexts", spec := "wordTexts", unfollowed := true, recurses := true, apart := false }
def WordTextsSaid : Prop := wordTextsRow.holds Try.pinned (OpenSpec.ofChange wordTextsSpec)

/-- ITS FALSE NEIGHBOUR: 'it returns false'. Refute it at one input. -/
def wordTextsWrong : ChangeSpec := { name := "wordTexts", fn := fun _ => fun
  | [d1, d2, d3, d4] => { results := [.lit (.bool false)], args := [d1, d2, d3, d4] }
  | _ => none }
def WordTextsWrongFalsely : Prop := wordTextsRow.holds Try.pinned (OpenSpec.ofChange wordTextsWrong)

/-- 'dunnagelaw01.WordRows': WHATEVER THE INPUT: true; the input reads as it did. -/
def wordRowsSpec : ChangeSpec := { name := "wordRows", fn := fun _ => fun
  | [d1, d2] => { results := [.lit (.bool true)], args := [d1, d2] }
  | _ => none }
def wordRowsRow : OpenClaim := { program := "ytbnnpnillppdhaa", sum := "bbaa717154552626eb1abd10ce27e47dbfda62e770defbb054b54d17fa78dd22", func := "dunnage/dunnagelaw01.WordRows", spec := "wordRows", unfollowed := true, recurses := true, apart := false }
def WordRowsSaid : Prop := wordRowsRow.holds Try.pinned (OpenSpec.ofChange wordRowsSpec)

/-- ITS FALSE NEIGHBOUR: 'it returns false'. Refute it at one input. -/
def wordRowsWrong : ChangeSpec := { name := "wordRows", fn := fun _ => fun
  | [d1, d2] => { results := [.lit (.bool false)], args := [d1, d2] }
  | _ => none }
def WordRowsWrongFalsely : Prop := wordRowsRow.holds Try.pinned (OpenSpec.ofChange wordRowsWrong)

/- THE SECOND FORM. 'bulk': how many values and letters a reading holds, each counted each time it is reached (what is shared counts as often as it is met; a slice's spare places count too). A statement '..UptoSaid' is the law's where the arguments, and the package variables that the reading takes, are together of bulk at most 1048576: NARROWER than '..Said'. Prove '..Said' where nothing that the law and all that it calls make is longer than what came in: it says more and counts as full. Else prove '..UptoSaid'. A law counts once. -/
mutual
def uptoBulk {H : Type} : DataW H → Nat
  | .lit (.string bytes) => bytes.length + 1
  | .lit _ => 1
  | .nil => 1
  | .ptr d => uptoBulk d + 1
  | .slice elems spare => uptoBulkAll elems + uptoBulkAll spare + 1
  | .agg parts => uptoBulkAll parts + 1
  | .iface _ d => uptoBulk d + 1
  | .map entries => uptoBulkEntries entries + 1
  | .held _ => 1
def uptoBulkAll {H : Type} : List (DataW H) → Nat
  | [] => 0
  | d :: r => uptoBulk d + uptoBulkAll r
def uptoBulkEntries {H : Type} : List (Lit × DataW H) → Nat
  | [] => 0
  | x :: r => uptoBulkEntry x + uptoBulkEntries r
def uptoBulkEntry {H : Type} : Lit × DataW H → Nat
  | (.string bytes, d) => bytes.length + uptoBulk d + 1
  | (_, d) => uptoBulk d + 1
 end
def uptoSmall : (H : Type) → List (DataW H) → Bool := fun _ ds => decide (uptoBulkAll ds ≤ 1048576)
def OpenSpec.upto (s : _root_.Go.ChangeSpec) : _root_.Go.OpenSpec := { _root_.Go.OpenSpec.ofChange s with cond := some uptoSmall }

/-- 'dunnagelaw01.WordLengths', WHERE WHAT IT READS IS OF BULK AT MOST 1048576: true; the input reads as it did. -/
def wordLengthsUptoRow : OpenClaim := { program := "ytbnnpnillppdhaa", sum := "bbaa717154552626eb1abd10ce27e47dbfda62e770defbb054b54d17fa78dd22", func := "dunnage/dunnagelaw01.WordLengths", spec := "wordLengths", unfollowed := true, recurses := true, apart := false, narrowed := true }
def WordLengthsUptoSaid : Prop := wordLengthsUptoRow.holds Try.pinned (OpenSpec.upto wordLengthsSpec)

/-- 'dunnagelaw02.CrcSums', WHERE WHAT IT READS IS OF BULK AT MOST 1048576: true; the input reads as it did. -/
def crcSumsUptoRow : OpenClaim := { program := "ytbnnpnillppdhaa", sum := "bbaa717154552626eb1abd10ce27e47dbfda62e770defbb054b54d17fa78dd22", func := "dunnage/dunnagelaw02.CrcSums", spec := "crcSums", unfollowed := true, recurses := true, apart := false, narrowed := true }
def CrcSumsUptoSaid : Prop := crcSumsUptoRow.holds Try.pinned (OpenSpec.upto crcSumsSpec)

/-- 'dunnagelaw02.CrcThree', WHERE WHAT IT READS IS OF BULK AT MOST 1048576: true; the input reads as it did. -/
def crcThreeUptoRow : OpenClaim := { program := "ytbnnpnillppdhaa", sum := "bbaa717154552626eb1abd10ce27e47dbfda62e770defbb054b54d17fa78dd22", func := "dunnage/dunnagelaw02.CrcThree", spec := "crcThree", apart := false, narrowed := true }
def CrcThreeUptoSaid : Prop := crcThreeUptoRow.holds Try.pinned (OpenSpec.upto crcThreeSpec)

/-- 'dunnagelaw02.CrcBurst', WHERE WHAT IT READS IS OF BULK AT MOST 1048576: true; the input reads as it did. -/
def crcBurstUptoRow : OpenClaim := { program := "ytbnnpnillppdhaa", sum := "bbaa717154552626eb1abd10ce27e47dbfda62e770defbb054b54d17fa78dd22", func := "dunnage/dunnagelaw02.CrcBurst", spec := "crcBurst", apart := false, narrowed := true }
def CrcBurstUptoSaid : Prop := crcBurstUptoRow.holds Try.pinned (OpenSpec.upto crcBurstSpec)

/-- 'dunnagelaw02.CrcLinear', WHERE WHAT IT READS IS OF BULK AT MOST 1048576: true; the input reads as it did. -/
def crcLinearUptoRow : OpenClaim := { program := "ytbnnpnillppdhaa", sum := "bbaa717154552626eb1abd10ce27e47dbfda62e770defbb054b54d17fa78dd22", func := "dunnage/dunnagelaw02.CrcLinear", spec := "crcLinear", apart := false, narrowed := true }
def CrcLinearUptoSaid : Prop := crcLinearUptoRow.holds Try.pinned (OpenSpec.upto crcLinearSpec)

/-- 'dunnagelaw05.LayoutRing', WHERE WHAT IT READS IS OF BULK AT MOST 1048576: true; the input reads as it did. -/
def layoutRingUptoRow : OpenClaim := { program := "ytbnnpnillppdhaa", sum := "bbaa717154552626eb1abd10ce27e47dbfda62e770defbb054b54d17fa78dd22", func := "dunnage/dunnagelaw05.LayoutRing", spec := "layoutRing", apart := false, narrowed := true }
def LayoutRingUptoSaid : Prop := layoutRingUptoRow.holds Try.pinned (OpenSpec.upto layoutRingSpec)

/-- 'dunnagelaw01.WordVars', WHERE WHAT IT READS IS OF BULK AT MOST 1048576: true; the input reads as it did. -/
def wordVarsUptoRow : OpenClaim := { program := "ytbnnpnillppdhaa", sum := "bbaa717154552626eb1abd10ce27e47dbfda62e770defbb054b54d17fa78dd22", func := "dunnage/dunnagelaw01.WordVars", spec := "wordVars", unfollowed := true, recurses := true, apart := false, narrowed := true }
def WordVarsUptoSaid : Prop := wordVarsUptoRow.holds Try.pinned (OpenSpec.upto wordVarsSpec)

/-- 'dunnagelaw01.WordOneForm', WHERE WHAT IT READS IS OF BULK AT MOST 1048576: true; the input reads as it did. -/
def wordOneFormUptoRow : OpenClaim := { program := "ytbnnpnillppdhaa", sum := "bbaa717154552626eb1abd10ce27e47dbfda62e770defbb054b54d17fa78dd22", func := "dunnage/dunnagelaw01.WordOneForm", spec := "wordOneForm", unfollowed := true, recurses := true, apart := false, narrowed := true }
def WordOneFormUptoSaid : Prop := wordOneFormUptoRow.holds Try.pinned (OpenSpec.upto wordOneFormSpec)

/-- 'dunnagelaw01.WordRoom', WHERE WHAT IT READS IS OF BULK AT MOST 1048576: true; the input reads as it did. -/
def wordRoomUptoRow : OpenClaim := { program := "ytbnnpnillppdhaa", sum := "bbaa717154552626eb1abd10ce27e47dbfda62e770defbb054b54d17fa78dd22", func := "dunnage/dunnagelaw01.WordRoom", spec := "wordRoom", unfollowed := true, recurses := true, apart := false, narrowed := true }
def WordRoomUptoSaid : Prop := wordRoomUptoRow.holds Try.pinned (OpenSpec.upto wordRoomSpec)

/-- 'dunnagelaw02.CrcJoins', WHERE WHAT IT READS IS OF BULK AT MOST 1048576: true; the input reads as it did. -/
def crcJoinsUptoRow : OpenClaim := { program := "ytbnnpnillppdhaa", sum := "bbaa717154552626eb1abd10ce27e47dbfda62e770defbb054b54d17fa78dd22", func := "dunnage/dunnagelaw02.CrcJoins", spec := "crcJoins", apart := false, narrowed := true }
def CrcJoinsUptoSaid : Prop := crcJoinsUptoRow.holds Try.pinned (OpenSpec.upto crcJoinsSpec)

/-- 'dunnagelaw02.CrcParts', WHERE WHAT IT READS IS OF BULK AT MOST 1048576: true; the input reads as it did. -/
def crcPartsUptoRow : OpenClaim := { program := "ytbnnpnillppdhaa", sum := "bbaa717154552626eb1abd10ce27e47dbfda62e770defbb054b54d17fa78dd22", func := "dunnage/dunnagelaw02.CrcParts", spec := "crcParts", apart := false, narrowed := true }
def CrcPartsUptoSaid : Prop := crcPartsUptoRow.holds Try.pinned (OpenSpec.upto crcPartsSpec)

/-- 'dunnagelaw05.LayoutApart', WHERE WHAT IT READS IS OF BULK AT MOST 1048576: true; the input reads as it did. -/
def layoutApartUptoRow : OpenClaim := { program := "ytbnnpnillppdhaa", sum := "bbaa717154552626eb1abd10ce27e47dbfda62e770defbb054b54d17fa78dd22", func := "dunnage/dunnagelaw05.LayoutApart", spec := "layoutApart", apart := false, narrowed := true }
def LayoutApartUptoSaid : Prop := layoutApartUptoRow.holds Try.pinned (OpenSpec.upto layoutApartSpec)

/-- 'dunnagelaw05.LayoutPlaces', WHERE WHAT IT READS IS OF BULK AT MOST 1048576: true; the input reads as it did. -/
def layoutPlacesUptoRow : OpenClaim := { program := "ytbnnpnillppdhaa", sum := "bbaa717154552626eb1abd10ce27e47dbfda62e770defbb054b54d17fa78dd22", func := "dunnage/dunnagelaw05.LayoutPlaces", spec := "layoutPlaces", apart := false, narrowed := true }
def LayoutPlacesUptoSaid : Prop := layoutPlacesUptoRow.holds Try.pinned (OpenSpec.upto layoutPlacesSpec)

/-- 'dunnagelaw01.WordPuts', WHERE WHAT IT READS IS OF BULK AT MOST 1048576: true; the input reads as it did. -/
def wordPutsUptoRow : OpenClaim := { program := "ytbnnpnillppdhaa", sum := "bbaa717154552626eb1abd10ce27e47dbfda62e770defbb054b54d17fa78dd22", func := "dunnage/dunnagelaw01.WordPuts", spec := "wordPuts", unfollowed := true, recurses := true, apart := false, narrowed := true }
def WordPutsUptoSaid : Prop := wordPutsUptoRow.holds Try.pinned (OpenSpec.upto wordPutsSpec)

/-- 'dunnagelaw01.WordGets', WHERE WHAT IT READS IS OF BULK AT MOST 1048576: true; the input reads as it did. -/
def wordGetsUptoRow : OpenClaim := { program := "ytbnnpnillppdhaa", sum := "bbaa717154552626eb1abd10ce27e47dbfda62e770defbb054b54d17fa78dd22", func := "dunnage/dunnagelaw01.WordGets", spec := "wordGets", unfollowed := true, recurses := true, apart := false, narrowed := true }
def WordGetsUptoSaid : Prop := wordGetsUptoRow.holds Try.pinned (OpenSpec.upto wordGetsSpec)

/-- 'dunnagelaw01.WordHalves', WHERE WHAT IT READS IS OF BULK AT MOST 1048576: true; the input reads as it did. -/
def wordHalvesUptoRow : OpenClaim := { program := "ytbnnpnillppdhaa", sum := "bbaa717154552626eb1abd10ce27e47dbfda62e770defbb054b54d17fa78dd22", func := "dunnage/dunnagelaw01.WordHalves", spec := "wordHalves", unfollowed := true, recurses := true, apart := false, narrowed := true }
def WordHalvesUptoSaid : Prop := wordHalvesUptoRow.holds Try.pinned (OpenSpec.upto wordHalvesSpec)

/-- 'dunnagelaw05.LayoutPlans', WHERE WHAT IT READS IS OF BULK AT MOST 1048576: true; the input reads as it did. -/
def layoutPlansUptoRow : OpenClaim := { program := "ytbnnpnillppdhaa", sum := "bbaa717154552626eb1abd10ce27e47dbfda62e770defbb054b54d17fa78dd22", func := "dunnage/dunnagelaw05.LayoutPlans", spec := "layoutPlans", apart := false, narrowed := true }
def LayoutPlansUptoSaid : Prop := layoutPlansUptoRow.holds Try.pinned (OpenSpec.upto layoutPlansSpec)

/-- 'dunnagelaw01.WordTexts', WHERE WHAT IT READS IS OF BULK AT MOST 1048576: true; the input reads as it did. -/
def wordTextsUptoRow : OpenClaim := { program := "ytbnnpnillppdhaa", sum := "bbaa717154552626eb1abd10ce27e47dbfda62e770defbb054b54d17fa78dd22", func := "dunnage/dunnagelaw01.WordTexts", spec := "wordTexts", unfollowed := true, recurses := true, apart := false, narrowed := true }
def WordTextsUptoSaid : Prop := wordTextsUptoRow.holds Try.pinned (OpenSpec.upto wordTextsSpec)

/-- 'dunnagelaw01.WordRows', WHERE WHAT IT READS IS OF BULK AT MOST 1048576: true; the input reads as it did. -/
def wordRowsUptoRow : OpenClaim := { program := "ytbnnpnillppdhaa", sum := "bbaa717154552626eb1abd10ce27e47dbfda62e770defbb054b54d17fa78dd22", func := "dunnage/dunnagelaw01.WordRows", spec := "wordRows", unfollowed := true, recurses := true, apart := false, narrowed := true }
def WordRowsUptoSaid : Prop := wordRowsUptoRow.holds Try.pinned (OpenSpec.upto wordRowsSpec)

end Rows
end Go.Proofs.Ytbnnpnillppdhaa
