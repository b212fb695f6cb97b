/-
  No cell of these rows narrows 'for every input' (looked for: loops, veiled, ifaces, maps, wideKeys, modest, calm, conditions, laid).
  DERIVED. THE GIVEN ROWS OF THIS SEAT. 12 by the template 'for every input the law returns true; each argument reads behind the call as it read before'; 0 by the template 'total and deterministic' (their statements: YtgedmelohiajjaaTotals.lean).
  GIVEN WITH THE SEED: the statements are not yours to turn. If you find one false, say at which input.
  Laid BY PROGRAM, IN A SANDBOX (cutbox-rows.mjs): the forced cells as the released guide's own fill.sh prints them over the translation 2db4beaa9d7d1a1e… (all of the seat's roots in one cut). By AI agents, Wed Nov 11 2026. No macro, syntax, notation, axiom, sorry.
-/
import Derived.Test.YtgedmelohiajjaaChecked
import GoSem.Claim
import GoSem.ClaimJoined
import GoSem.ClaimMapViews
import Derived.JoinedTies
import Derived.KernelRfl
namespace Go.Proofs.Ytgedmelohiajjaa
/- THE CELL 'sum', in the pinned program and in every row, IS THE sha256 OF THE DUMP (.gsa) THAT YtgedmelohiajjaaProg.lean LOADS. Nothing in Lean hashes anything: it is a label: what it is worth is what the hold of that sum in a sandbox is worth. -/
noncomputable def Try.pinned : Pinned := { name := "ytgedmelohiajjaa", sum := "2db4beaa9d7d1a1e1a4474ac036425ed682bfe258a8551784f3c40800614aed8", checked := Try.checked }
namespace Rows
def none {H : Type} : Left H := { results := [], args := [] }

/-- 'garboardlaw08.VecTops': WHATEVER THE INPUT: true; the input reads as it did. -/
def vecTopsSpec : ChangeSpec := { name := "vecTops", fn := fun _ => fun
  | [d1, d2] => { results := [.lit (.bool true)], args := [d1, d2] }
  | _ => none }
def vecTopsRow : OpenClaim := { program := "ytgedmelohiajjaa", sum := "2db4beaa9d7d1a1e1a4474ac036425ed682bfe258a8551784f3c40800614aed8", func := "garboard/garboardlaw08.VecTops", spec := "vecTops", unfollowed := true, recurses := true, apart := false }
def VecTopsSaid : Prop := vecTopsRow.holds Try.pinned (OpenSpec.ofChange vecTopsSpec)

/-- ITS FALSE NEIGHBOUR: 'it returns false'. Refute it at one input. -/
def vecTopsWrong : ChangeSpec := { name := "vecTops", fn := fun _ => fun
  | [d1, d2] => { results := [.lit (.bool false)], args := [d1, d2] }
  | _ => none }
def VecTopsWrongFalsely : Prop := vecTopsRow.holds Try.pinned (OpenSpec.ofChange vecTopsWrong)

/-- 'garboardlaw08.VecSoft': WHATEVER THE INPUT: true; the input reads as it did. -/
def vecSoftSpec : ChangeSpec := { name := "vecSoft", fn := fun _ => fun
  | [d] => { results := [.lit (.bool true)], args := [d] }
  | _ => none }
def vecSoftRow : OpenClaim := { program := "ytgedmelohiajjaa", sum := "2db4beaa9d7d1a1e1a4474ac036425ed682bfe258a8551784f3c40800614aed8", func := "garboard/garboardlaw08.VecSoft", spec := "vecSoft", unfollowed := true, recurses := true, apart := false }
def VecSoftSaid : Prop := vecSoftRow.holds Try.pinned (OpenSpec.ofChange vecSoftSpec)

/-- ITS FALSE NEIGHBOUR: 'it returns false'. Refute it at one input. -/
def vecSoftWrong : ChangeSpec := { name := "vecSoft", fn := fun _ => fun
  | [d] => { results := [.lit (.bool false)], args := [d] }
  | _ => none }
def VecSoftWrongFalsely : Prop := vecSoftRow.holds Try.pinned (OpenSpec.ofChange vecSoftWrong)

/-- 'garboardlaw08.VecGreatest': WHATEVER THE INPUT: true; the input reads as it did. -/
def vecGreatestSpec : ChangeSpec := { name := "vecGreatest", fn := fun _ => fun
  | [d1, d2] => { results := [.lit (.bool true)], args := [d1, d2] }
  | _ => none }
def vecGreatestRow : OpenClaim := { program := "ytgedmelohiajjaa", sum := "2db4beaa9d7d1a1e1a4474ac036425ed682bfe258a8551784f3c40800614aed8", func := "garboard/garboardlaw08.VecGreatest", spec := "vecGreatest", unfollowed := true, recurses := true, apart := false }
def VecGreatestSaid : Prop := vecGreatestRow.holds Try.pinned (OpenSpec.ofChange vecGreatestSpec)

/-- ITS FALSE NEIGHBOUR: 'it returns false'. Refute it at one input. -/
def vecGreatestWrong : ChangeSpec := { name := "vecGreatest", fn := fun _ => fun
  | [d1, d2] => { results := [.lit (.bool false)], args := [d1, d2] }
  | _ => none }
def VecGreatestWrongFalsely : Prop := vecGreatestRow.holds Try.pinned (OpenSpec.ofChange vecGreatestWrong)

/-- 'garboardlaw08.VecTurned': WHATEVER THE INPUT: true; the input reads as it did. -/
def vecTurnedSpec : ChangeSpec := { name := "vecTurned", fn := fun _ => fun
  | [d1, d2] => { results := [.lit (.bool true)], args := [d1, d2] }
  | _ => none }
def vecTurnedRow : OpenClaim := { program := "ytgedmelohiajjaa", sum := "2db4beaa9d7d1a1e1a4474ac036425ed682bfe258a8551784f3c40800614aed8", func := "garboard/garboardlaw08.VecTurned", spec := "vecTurned", unfollowed := true, recurses := true, apart := false }
def VecTurnedSaid : Prop := vecTurnedRow.holds Try.pinned (OpenSpec.ofChange vecTurnedSpec)

/-- ITS FALSE NEIGHBOUR: 'it returns false'. Refute it at one input. -/
def vecTurnedWrong : ChangeSpec := { name := "vecTurned", fn := fun _ => fun
  | [d1, d2] => { results := [.lit (.bool false)], args := [d1, d2] }
  | _ => none }
def VecTurnedWrongFalsely : Prop := vecTurnedRow.holds Try.pinned (OpenSpec.ofChange vecTurnedWrong)

/-- 'garboardlaw08.VecSums': WHATEVER THE INPUT: true; the input reads as it did. -/
def vecSumsSpec : ChangeSpec := { name := "vecSums", fn := fun _ => fun
  | [d1, d2, d3] => { results := [.lit (.bool true)], args := [d1, d2, d3] }
  | _ => none }
def vecSumsRow : OpenClaim := { program := "ytgedmelohiajjaa", sum := "2db4beaa9d7d1a1e1a4474ac036425ed682bfe258a8551784f3c40800614aed8", func := "garboard/garboardlaw08.VecSums", spec := "vecSums", unfollowed := true, recurses := true, apart := false }
def VecSumsSaid : Prop := vecSumsRow.holds Try.pinned (OpenSpec.ofChange vecSumsSpec)

/-- ITS FALSE NEIGHBOUR: 'it returns false'. Refute it at one input. -/
def vecSumsWrong : ChangeSpec := { name := "vecSums", fn := fun _ => fun
  | [d1, d2, d3] => { results := [.lit (.bool false)], args := [d1, d2, d3] }
  | _ => none }
def VecSumsWrongFalsely : Prop := vecSumsRow.holds Try.pinned (OpenSpec.ofChange vecSumsWrong)

/-- 'garboardlaw08.VecTables': WHATEVER THE INPUT: true; the input reads as it did. -/
def vecTablesSpec : ChangeSpec := { name := "vecTables", fn := fun _ => fun
  | [d1, d2] => { results := [.lit (.bool true)], args := [d1, d2] }
  | _ => none }
def vecTablesRow : OpenClaim := { program := "ytgedmelohiajjaa", sum := "2db4beaa9d7d1a1e1a4474ac036425ed682bfe258a8551784f3c40800614aed8", func := "garboard/garboardlaw08.VecTables", spec := "vecTables", unfollowed := true, recurses := true, apart := false }
def VecTablesSaid : Prop := vecTablesRow.holds Try.pinned (OpenSpec.ofChange vecTablesSpec)

/-- ITS FALSE NEIGHBOUR: 'it returns false'. Refute it at one input. -/
def vecTablesWrong : ChangeSpec := { name := "vecTables", fn := fun _ => fun
  | [d1, d2] => { results := [.lit (.bool false)], args := [d1, d2] }
  | _ => none }
def VecTablesWrongFalsely : Prop := vecTablesRow.holds Try.pinned (OpenSpec.ofChange vecTablesWrong)

/-- 'garboardlaw08.VecWeights': WHATEVER THE INPUT: true; the input reads as it did. -/
def vecWeightsSpec : ChangeSpec := { name := "vecWeights", fn := fun _ => fun
  | [d] => { results := [.lit (.bool true)], args := [d] }
  | _ => none }
def vecWeightsRow : OpenClaim := { program := "ytgedmelohiajjaa", sum := "2db4beaa9d7d1a1e1a4474ac036425ed682bfe258a8551784f3c40800614aed8", func := "garboard/garboardlaw08.VecWeights", spec := "vecWeights", unfollowed := true, recurses := true, apart := false }
def VecWeightsSaid : Prop := vecWeightsRow.holds Try.pinned (OpenSpec.ofChange vecWeightsSpec)

/-- ITS FALSE NEIGHBOUR: 'it returns false'. Refute it at one input. -/
def vecWeightsWrong : ChangeSpec := { name := "vecWeights", fn := fun _ => fun
  | [d] => { results := [.lit (.bool false)], args := [d] }
  | _ => none }
def VecWeightsWrongFalsely : Prop := vecWeightsRow.holds Try.pinned (OpenSpec.ofChange vecWeightsWrong)

/-- 'garboardlaw11.SampleDraws': WHATEVER THE INPUT: true; the input reads as it did. -/
def sampleDrawsSpec : ChangeSpec := { name := "sampleDraws", fn := fun _ => fun
  | [d1, d2] => { results := [.lit (.bool true)], args := [d1, d2] }
  | _ => none }
def sampleDrawsRow : OpenClaim := { program := "ytgedmelohiajjaa", sum := "2db4beaa9d7d1a1e1a4474ac036425ed682bfe258a8551784f3c40800614aed8", func := "garboard/garboardlaw11.SampleDraws", spec := "sampleDraws", unfollowed := true, recurses := true, apart := false }
def SampleDrawsSaid : Prop := sampleDrawsRow.holds Try.pinned (OpenSpec.ofChange sampleDrawsSpec)

/-- ITS FALSE NEIGHBOUR: 'it returns false'. Refute it at one input. -/
def sampleDrawsWrong : ChangeSpec := { name := "sampleDraws", fn := fun _ => fun
  | [d1, d2] => { results := [.lit (.bool false)], args := [d1, d2] }
  | _ => none }
def SampleDrawsWrongFalsely : Prop := sampleDrawsRow.holds Try.pinned (OpenSpec.ofChange sampleDrawsWrong)

/-- 'garboardlaw11.SampleTops': WHATEVER THE INPUT: true; the input reads as it did. -/
def sampleTopsSpec : ChangeSpec := { name := "sampleTops", fn := fun _ => fun
  | [d1, d2] => { results := [.lit (.bool true)], args := [d1, d2] }
  | _ => none }
def sampleTopsRow : OpenClaim := { program := "ytgedmelohiajjaa", sum := "2db4beaa9d7d1a1e1a4474ac036425ed682bfe258a8551784f3c40800614aed8", func := "garboard/garboardlaw11.SampleTops", spec := "sampleTops", unfollowed := true, recurses := true, apart := false }
def SampleTopsSaid : Prop := sampleTopsRow.holds Try.pinned (OpenSpec.ofChange sampleTopsSpec)

/-- ITS FALSE NEIGHBOUR: 'it returns false'. Refute it at one input. -/
def sampleTopsWrong : ChangeSpec := { name := "sampleTops", fn := fun _ => fun
  | [d1, d2] => { results := [.lit (.bool false)], args := [d1, d2] }
  | _ => none }
def SampleTopsWrongFalsely : Prop := sampleTopsRow.holds Try.pinned (OpenSpec.ofChange sampleTopsWrong)

/-- 'garboardlaw11.SampleStays': WHATEVER THE INPUT: true; the input reads as it did. -/
def sampleStaysSpec : ChangeSpec := { name := "sampleStays", fn := fun _ => fun
  | [d1, d2, d3] => { results := [.lit (.bool true)], args := [d1, d2, d3] }
  | _ => none }
def sampleStaysRow : OpenClaim := { program := "ytgedmelohiajjaa", sum := "2db4beaa9d7d1a1e1a4474ac036425ed682bfe258a8551784f3c40800614aed8", func := "garboard/garboardlaw11.SampleStays", spec := "sampleStays", unfollowed := true, recurses := true, apart := false }
def SampleStaysSaid : Prop := sampleStaysRow.holds Try.pinned (OpenSpec.ofChange sampleStaysSpec)

/-- ITS FALSE NEIGHBOUR: 'it returns false'. Refute it at one input. -/
def sampleStaysWrong : ChangeSpec := { name := "sampleStays", fn := fun _ => fun
  | [d1, d2, d3] => { results := [.lit (.bool false)], args := [d1, d2, d3] }
  | _ => none }
def SampleStaysWrongFalsely : Prop := sampleStaysRow.holds Try.pinned (OpenSpec.ofChange sampleStaysWrong)

/-- 'garboardlaw08.VecStays': WHATEVER THE INPUT: true; the input reads as it did. -/
def vecStaysSpec : ChangeSpec := { name := "vecStays", fn := fun _ => fun
  | [d1, d2, d3] => { results := [.lit (.bool true)], args := [d1, d2, d3] }
  | _ => none }
def vecStaysRow : OpenClaim := { program := "ytgedmelohiajjaa", sum := "2db4beaa9d7d1a1e1a4474ac036425ed682bfe258a8551784f3c40800614aed8", func := "garboard/garboardlaw08.VecStays", spec := "vecStays", unfollowed := true, recurses := true, apart := false }
def VecStaysSaid : Prop := vecStaysRow.holds Try.pinned (OpenSpec.ofChange vecStaysSpec)

/-- ITS FALSE NEIGHBOUR: 'it returns false'. Refute it at one input. -/
def vecStaysWrong : ChangeSpec := { name := "vecStays", fn := fun _ => fun
  | [d1, d2, d3] => { results := [.lit (.bool false)], args := [d1, d2, d3] }
  | _ => none }
def VecStaysWrongFalsely : Prop := vecStaysRow.holds Try.pinned (OpenSpec.ofChange vecStaysWrong)

/-- 'garboardlaw11.SampleMarks': WHATEVER THE INPUT: true; the input reads as it did. -/
def sampleMarksSpec : ChangeSpec := { name := "sampleMarks", fn := fun _ => fun
  | [d1, d2, d3] => { results := [.lit (.bool true)], args := [d1, d2, d3] }
  | _ => none }
def sampleMarksRow : OpenClaim := { program := "ytgedmelohiajjaa", sum := "2db4beaa9d7d1a1e1a4474ac036425ed682bfe258a8551784f3c40800614aed8", func := "garboard/garboardlaw11.SampleMarks", spec := "sampleMarks", unfollowed := true, recurses := true, apart := false }
def SampleMarksSaid : Prop := sampleMarksRow.holds Try.pinned (OpenSpec.ofChange sampleMarksSpec)

/-- ITS FALSE NEIGHBOUR: 'it returns false'. Refute it at one input. -/
def sampleMarksWrong : ChangeSpec := { name := "sampleMarks", fn := fun _ => fun
  | [d1, d2, d3] => { results := [.lit (.bool false)], args := [d1, d2, d3] }
  | _ => none }
def SampleMarksWrongFalsely : Prop := sampleMarksRow.holds Try.pinned (OpenSpec.ofChange sampleMarksWrong)

/- THE SECOND FORM. 'bulk': how many values and letters a reading holds, each counted each time it is reached (what is shared counts as often as it is met; a slice's spare places count too). A statement '..UptoSaid' is the law's where the arguments, and the package variables that the reading takes, are together of bulk at most 1048576: NARROWER than '..Said'. Prove '..Said' where nothing that the law and all that it calls make is longer than what came in: it says more and counts as full. Else prove '..UptoSaid'. A law counts once. -/
mutual
def uptoBulk {H : Type} : DataW H → Nat
  | .lit (.string bytes) => bytes.length + 1
  | .lit _ => 1
  | .nil => 1
  | .ptr d => uptoBulk d + 1
  | .slice elems spare => uptoBulkAll elems + uptoBulkAll spare + 1
  | .agg parts => uptoBulkAll parts + 1
  | .iface _ d => uptoBulk d + 1
  | .map entries => uptoBulkEntries entries + 1
  | .held _ => 1
def uptoBulkAll {H : Type} : List (DataW H) → Nat
  | [] => 0
  | d :: r => uptoBulk d + uptoBulkAll r
def uptoBulkEntries {H : Type} : List (Lit × DataW H) → Nat
  | [] => 0
  | x :: r => uptoBulkEntry x + uptoBulkEntries r
def uptoBulkEntry {H : Type} : Lit × DataW H → Nat
  | (.string bytes, d) => bytes.length + uptoBulk d + 1
  | (_, d) => uptoBulk d + 1
 end
def uptoSmall : (H : Type) → List (DataW H) → Bool := fun _ ds => decide (uptoBulkAll ds ≤ 1048576)
def OpenSpec.upto (s : _root_.Go.ChangeSpec) : _root_.Go.OpenSpec := { _root_.Go.OpenSpec.ofChange s with cond := some uptoSmall }

/-- 'garboardlaw08.VecTops', WHERE WHAT IT READS IS OF BULK AT MOST 1048576: true; the input reads as it did. -/
def vecTopsUptoRow : OpenClaim := { program := "ytgedmelohiajjaa", sum := "2db4beaa9d7d1a1e1a4474ac036425ed682bfe258a8551784f3c40800614aed8", func := "garboard/garboardlaw08.VecTops", spec := "vecTops", unfollowed := true, recurses := true, apart := false, narrowed := true }
def VecTopsUptoSaid : Prop := vecTopsUptoRow.holds Try.pinned (OpenSpec.upto vecTopsSpec)

/-- 'garboardlaw08.VecSoft', WHERE WHAT IT READS IS OF BULK AT MOST 1048576: true; the input reads as it did. -/
def vecSoftUptoRow : OpenClaim := { program := "ytgedmelohiajjaa", sum := "2db4beaa9d7d1a1e1a4474ac036425ed682bfe258a8551784f3c40800614aed8", func := "garboard/garboardlaw08.VecSoft", spec := "vecSoft", unfollowed := true, recurses := true, apart := false, narrowed := true }
def VecSoftUptoSaid : Prop := vecSoftUptoRow.holds Try.pinned (OpenSpec.upto vecSoftSpec)

/-- 'garboardlaw08.VecGreatest', WHERE WHAT IT READS IS OF BULK AT MOST 1048576: true; the input reads as it did. -/
def vecGreatestUptoRow : OpenClaim := { program := "ytgedmelohiajjaa", sum := "2db4beaa9d7d1a1e1a4474ac036425ed682bfe258a8551784f3c40800614aed8", func := "garboard/garboardlaw08.VecGreatest", spec := "vecGreatest", unfollowed := true, recurses := true, apart := false, narrowed := true }
def VecGreatestUptoSaid : Prop := vecGreatestUptoRow.holds Try.pinned (OpenSpec.upto vecGreatestSpec)

/-- 'garboardlaw08.VecTurned', WHERE WHAT IT READS IS OF BULK AT MOST 1048576: true; the input reads as it did. -/
def vecTurnedUptoRow : OpenClaim := { program := "ytgedmelohiajjaa", sum := "2db4beaa9d7d1a1e1a4474ac036425ed682bfe258a8551784f3c40800614aed8", func := "garboard/garboardlaw08.VecTurned", spec := "vecTurned", unfollowed := true, recurses := true, apart := false, narrowed := true }
def VecTurnedUptoSaid : Prop := vecTurnedUptoRow.holds Try.pinned (OpenSpec.upto vecTurnedSpec)

/-- 'garboardlaw08.VecSums', WHERE WHAT IT READS IS OF BULK AT MOST 1048576: true; the input reads as it did. -/
def vecSumsUptoRow : OpenClaim := { program := "ytgedmelohiajjaa", sum := "2db4beaa9d7d1a1e1a4474ac036425ed682bfe258a8551784f3c40800614aed8", func := "garboard/garboardlaw08.VecSums", spec := "vecSums", unfollowed := true, recurses := true, apart := false, narrowed := true }
def VecSumsUptoSaid : Prop := vecSumsUptoRow.holds Try.pinned (OpenSpec.upto vecSumsSpec)

/-- 'garboardlaw08.VecTables', WHERE WHAT IT READS IS OF BULK AT MOST 1048576: true; the input reads as it did. -/
def vecTablesUptoRow : OpenClaim := { program := "ytgedmelohiajjaa", sum := "2db4beaa9d7d1a1e1a4474ac036425ed682bfe258a8551784f3c40800614aed8", func := "garboard/garboardlaw08.VecTables", spec := "vecTables", unfollowed := true, recurses := true, apart := false, narrowed := true }
def VecTablesUptoSaid : Prop := vecTablesUptoRow.holds Try.pinned (OpenSpec.upto vecTablesSpec)

/-- 'garboardlaw08.VecWeights', WHERE WHAT IT READS IS OF BULK AT MOST 1048576: true; the input reads as it did. -/
def vecWeightsUptoRow : OpenClaim := { program := "ytgedmelohiajjaa", sum := "2db4beaa9d7d1a1e1a4474ac036425ed682bfe258a8551784f3c40800614aed8", func := "garboard/garboardlaw08.VecWeights", spec := "vecWeights", unfollowed := true, recurses := true, apart := false, narrowed := true }
def VecWeightsUptoSaid : Prop := vecWeightsUptoRow.holds Try.pinned (OpenSpec.upto vecWeightsSpec)

/-- 'garboardlaw11.SampleDraws', WHERE WHAT IT READS IS OF BULK AT MOST 1048576: true; the input reads as it did. -/
def sampleDrawsUptoRow : OpenClaim := { program := "ytgedmelohiajjaa", sum := "2db4beaa9d7d1a1e1a4474ac036425ed682bfe258a8551784f3c40800614aed8", func := "garboard/garboardlaw11.SampleDraws", spec := "sampleDraws", unfollowed := true, recurses := true, apart := false, narrowed := true }
def SampleDrawsUptoSaid : Prop := sampleDrawsUptoRow.holds Try.pinned (OpenSpec.upto sampleDrawsSpec)

/-- 'garboardlaw11.SampleTops', WHERE WHAT IT READS IS OF BULK AT MOST 1048576: true; the input reads as it did. -/
def sampleTopsUptoRow : OpenClaim := { program := "ytgedmelohiajjaa", sum := "2db4beaa9d7d1a1e1a4474ac036425ed682bfe258a8551784f3c40800614aed8", func := "garboard/garboardlaw11.SampleTops", spec := "sampleTops", unfollowed := true, recurses := true, apart := false, narrowed := true }
def SampleTopsUptoSaid : Prop := sampleTopsUptoRow.holds Try.pinned (OpenSpec.upto sampleTopsSpec)

/-- 'garboardlaw11.SampleStays', WHERE WHAT IT READS IS OF BULK AT MOST 1048576: true; the input reads as it did. -/
def sampleStaysUptoRow : OpenClaim := { program := "ytgedmelohiajjaa", sum := "2db4beaa9d7d1a1e1a4474ac036425ed682bfe258a8551784f3c40800614aed8", func := "garboard/garboardlaw11.SampleStays", spec := "sampleStays", unfollowed := true, recurses := true, apart := false, narrowed := true }
def SampleStaysUptoSaid : Prop := sampleStaysUptoRow.holds Try.pinned (OpenSpec.upto sampleStaysSpec)

/-- 'garboardlaw08.VecStays', WHERE WHAT IT READS IS OF BULK AT MOST 1048576: true; the input reads as it did. -/
def vecStaysUptoRow : OpenClaim := { program := "ytgedmelohiajjaa", sum := "2db4beaa9d7d1a1e1a4474ac036425ed682bfe258a8551784f3c40800614aed8", func := "garboard/garboardlaw08.VecStays", spec := "vecStays", unfollowed := true, recurses := true, apart := false, narrowed := true }
def VecStaysUptoSaid : Prop := vecStaysUptoRow.holds Try.pinned (OpenSpec.upto vecStaysSpec)

/-- 'garboardlaw11.SampleMarks', WHERE WHAT IT READS IS OF BULK AT MOST 1048576: true; the input reads as it did. -/
def sampleMarksUptoRow : OpenClaim := { program := "ytgedmelohiajjaa", sum := "2db4beaa9d7d1a1e1a4474ac036425ed682bfe258a8551784f3c40800614aed8", func := "garboard/garboardlaw11.SampleMarks", spec := "sampleMarks", unfollowed := true, recurses := true, apart := false, narrowed := true }
def SampleMarksUptoSaid : Prop := sampleMarksUptoRow.holds Try.pinned (OpenSpec.upto sampleMarksSpec)

end Rows
end Go.Proofs.Ytgedmelohiajjaa
