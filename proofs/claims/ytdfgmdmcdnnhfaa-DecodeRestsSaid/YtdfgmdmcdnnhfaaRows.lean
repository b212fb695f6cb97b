/-
  No cell of these rows narrows 'for every input' (looked for: loops, veiled, ifaces, maps, wideKeys, modest, calm, conditions, laid).
  DERIVED. THE GIVEN ROWS OF THIS SEAT. 9 by the template 'for every input the law returns true; each argument reads behind the call as it read before'; 0 by the template 'total and deterministic' (their statements: YtdfgmdmcdnnhfaaTotals.lean).
  GIVEN WITH THE SEED: the statements are not yours to turn. If you find one false, say at which input.
  Laid BY PROGRAM, IN A SANDBOX (cutbox-rows.mjs): the forced cells as the released guide's own fill.sh prints them over the translation 373f4ae1dc988f07… (all of the seat's roots in one cut). By AI agents, Wed Nov 11 2026. No macro, syntax, notation, axiom, sorry.
-/
import Derived.Test.YtdfgmdmcdnnhfaaChecked
import GoSem.Claim
import GoSem.ClaimJoined
import GoSem.ClaimMapViews
import Derived.JoinedTies
import Derived.KernelRfl
namespace Go.Proofs.Ytdfgmdmcdnnhfaa
/- THE CELL 'sum', in the pinned program and in every row, IS THE sha256 OF THE DUMP (.gsa) THAT YtdfgmdmcdnnhfaaProg.lean LOADS. Nothing in Lean hashes anything: it is a label: what it is worth is what the hold of that sum in a sandbox is worth. -/
noncomputable def Try.pinned : Pinned := { name := "ytdfgmdmcdnnhfaa", sum := "373f4ae1dc988f07d9d3e8ce15092c97886f132d527810e33e85572e399b8617", checked := Try.checked }
namespace Rows
def none {H : Type} : Left H := { results := [], args := [] }

/-- 'garboardlaw11.SampleMarks': WHATEVER THE INPUT: true; the input reads as it did. -/
def sampleMarksSpec : ChangeSpec := { name := "sampleMarks", fn := fun _ => fun
  | [d1, d2, d3] => { results := [.lit (.bool true)], args := [d1, d2, d3] }
  | _ => none }
def sampleMarksRow : OpenClaim := { program := "ytdfgmdmcdnnhfaa", sum := "373f4ae1dc988f07d9d3e8ce15092c97886f132d527810e33e85572e399b8617", func := "garboard/garboardlaw11.SampleMarks", spec := "sampleMarks", unfollowed := true, recurses := true, apart := false }
def SampleMarksSaid : Prop := sampleMarksRow.holds Try.pinned (OpenSpec.ofChange sampleMarksSpec)

/-- ITS FALSE NEIGHBOUR: 'it returns false'. Refute it at one input. -/
def sampleMarksWrong : ChangeSpec := { name := "sampleMarks", fn := fun _ => fun
  | [d1, d2, d3] => { results := [.lit (.bool false)], args := [d1, d2, d3] }
  | _ => none }
def SampleMarksWrongFalsely : Prop := sampleMarksRow.holds Try.pinned (OpenSpec.ofChange sampleMarksWrong)

/-- 'garboardlaw10.AttnSteps': WHATEVER THE INPUT: true; the input reads as it did. -/
def attnStepsSpec : ChangeSpec := { name := "attnSteps", fn := fun _ => fun
  | [d] => { results := [.lit (.bool true)], args := [d] }
  | _ => none }
def attnStepsRow : OpenClaim := { program := "ytdfgmdmcdnnhfaa", sum := "373f4ae1dc988f07d9d3e8ce15092c97886f132d527810e33e85572e399b8617", func := "garboard/garboardlaw10.AttnSteps", spec := "attnSteps", unfollowed := true, recurses := true, apart := false }
def AttnStepsSaid : Prop := attnStepsRow.holds Try.pinned (OpenSpec.ofChange attnStepsSpec)

/-- ITS FALSE NEIGHBOUR: 'it returns false'. Refute it at one input. -/
def attnStepsWrong : ChangeSpec := { name := "attnSteps", fn := fun _ => fun
  | [d] => { results := [.lit (.bool false)], args := [d] }
  | _ => none }
def AttnStepsWrongFalsely : Prop := attnStepsRow.holds Try.pinned (OpenSpec.ofChange attnStepsWrong)

/-- 'garboardlaw10.AttnThrough': WHATEVER THE INPUT: true; the input reads as it did. -/
def attnThroughSpec : ChangeSpec := { name := "attnThrough", fn := fun _ => fun
  | [d1, d2] => { results := [.lit (.bool true)], args := [d1, d2] }
  | _ => none }
def attnThroughRow : OpenClaim := { program := "ytdfgmdmcdnnhfaa", sum := "373f4ae1dc988f07d9d3e8ce15092c97886f132d527810e33e85572e399b8617", func := "garboard/garboardlaw10.AttnThrough", spec := "attnThrough", unfollowed := true, recurses := true, apart := false }
def AttnThroughSaid : Prop := attnThroughRow.holds Try.pinned (OpenSpec.ofChange attnThroughSpec)

/-- ITS FALSE NEIGHBOUR: 'it returns false'. Refute it at one input. -/
def attnThroughWrong : ChangeSpec := { name := "attnThrough", fn := fun _ => fun
  | [d1, d2] => { results := [.lit (.bool false)], args := [d1, d2] }
  | _ => none }
def AttnThroughWrongFalsely : Prop := attnThroughRow.holds Try.pinned (OpenSpec.ofChange attnThroughWrong)

/-- 'garboardlaw10.AttnCuts': WHATEVER THE INPUT: true; the input reads as it did. -/
def attnCutsSpec : ChangeSpec := { name := "attnCuts", fn := fun _ => fun
  | [d1, d2, d3] => { results := [.lit (.bool true)], args := [d1, d2, d3] }
  | _ => none }
def attnCutsRow : OpenClaim := { program := "ytdfgmdmcdnnhfaa", sum := "373f4ae1dc988f07d9d3e8ce15092c97886f132d527810e33e85572e399b8617", func := "garboard/garboardlaw10.AttnCuts", spec := "attnCuts", unfollowed := true, recurses := true, apart := false }
def AttnCutsSaid : Prop := attnCutsRow.holds Try.pinned (OpenSpec.ofChange attnCutsSpec)

/-- ITS FALSE NEIGHBOUR: 'it returns false'. Refute it at one input. -/
def attnCutsWrong : ChangeSpec := { name := "attnCuts", fn := fun _ => fun
  | [d1, d2, d3] => { results := [.lit (.bool false)], args := [d1, d2, d3] }
  | _ => none }
def AttnCutsWrongFalsely : Prop := attnCutsRow.holds Try.pinned (OpenSpec.ofChange attnCutsWrong)

/-- 'garboardlaw10.AttnNobody': WHATEVER THE INPUT: true; the input reads as it did. -/
def attnNobodySpec : ChangeSpec := { name := "attnNobody", fn := fun _ => fun
  | [d1, d2, d3] => { results := [.lit (.bool true)], args := [d1, d2, d3] }
  | _ => none }
def attnNobodyRow : OpenClaim := { program := "ytdfgmdmcdnnhfaa", sum := "373f4ae1dc988f07d9d3e8ce15092c97886f132d527810e33e85572e399b8617", func := "garboard/garboardlaw10.AttnNobody", spec := "attnNobody", unfollowed := true, recurses := true, apart := false }
def AttnNobodySaid : Prop := attnNobodyRow.holds Try.pinned (OpenSpec.ofChange attnNobodySpec)

/-- ITS FALSE NEIGHBOUR: 'it returns false'. Refute it at one input. -/
def attnNobodyWrong : ChangeSpec := { name := "attnNobody", fn := fun _ => fun
  | [d1, d2, d3] => { results := [.lit (.bool false)], args := [d1, d2, d3] }
  | _ => none }
def AttnNobodyWrongFalsely : Prop := attnNobodyRow.holds Try.pinned (OpenSpec.ofChange attnNobodyWrong)

/-- 'garboardlaw12.DecodeRests': WHATEVER THE INPUT: true; the input reads as it did. -/
def decodeRestsSpec : ChangeSpec := { name := "decodeRests", fn := fun _ => fun
  | [d1, d2, d3] => { results := [.lit (.bool true)], args := [d1, d2, d3] }
  | _ => none }
def decodeRestsRow : OpenClaim := { program := "ytdfgmdmcdnnhfaa", sum := "373f4ae1dc988f07d9d3e8ce15092c97886f132d527810e33e85572e399b8617", func := "garboard/garboardlaw12.DecodeRests", spec := "decodeRests", unfollowed := true, recurses := true, apart := false }
def DecodeRestsSaid : Prop := decodeRestsRow.holds Try.pinned (OpenSpec.ofChange decodeRestsSpec)

/-- ITS FALSE NEIGHBOUR: 'it returns false'. Refute it at one input. -/
def decodeRestsWrong : ChangeSpec := { name := "decodeRests", fn := fun _ => fun
  | [d1, d2, d3] => { results := [.lit (.bool false)], args := [d1, d2, d3] }
  | _ => none }
def DecodeRestsWrongFalsely : Prop := decodeRestsRow.holds Try.pinned (OpenSpec.ofChange decodeRestsWrong)

/-- 'garboardlaw12.DecodeLess': WHATEVER THE INPUT: true; the input reads as it did. -/
def decodeLessSpec : ChangeSpec := { name := "decodeLess", fn := fun _ => fun
  | [d1, d2, d3] => { results := [.lit (.bool true)], args := [d1, d2, d3] }
  | _ => none }
def decodeLessRow : OpenClaim := { program := "ytdfgmdmcdnnhfaa", sum := "373f4ae1dc988f07d9d3e8ce15092c97886f132d527810e33e85572e399b8617", func := "garboard/garboardlaw12.DecodeLess", spec := "decodeLess", unfollowed := true, recurses := true, apart := false }
def DecodeLessSaid : Prop := decodeLessRow.holds Try.pinned (OpenSpec.ofChange decodeLessSpec)

/-- ITS FALSE NEIGHBOUR: 'it returns false'. Refute it at one input. -/
def decodeLessWrong : ChangeSpec := { name := "decodeLess", fn := fun _ => fun
  | [d1, d2, d3] => { results := [.lit (.bool false)], args := [d1, d2, d3] }
  | _ => none }
def DecodeLessWrongFalsely : Prop := decodeLessRow.holds Try.pinned (OpenSpec.ofChange decodeLessWrong)

/-- 'garboardlaw12.DecodeCuts': WHATEVER THE INPUT: true; the input reads as it did. -/
def decodeCutsSpec : ChangeSpec := { name := "decodeCuts", fn := fun _ => fun
  | [d1, d2, d3] => { results := [.lit (.bool true)], args := [d1, d2, d3] }
  | _ => none }
def decodeCutsRow : OpenClaim := { program := "ytdfgmdmcdnnhfaa", sum := "373f4ae1dc988f07d9d3e8ce15092c97886f132d527810e33e85572e399b8617", func := "garboard/garboardlaw12.DecodeCuts", spec := "decodeCuts", unfollowed := true, recurses := true, apart := false }
def DecodeCutsSaid : Prop := decodeCutsRow.holds Try.pinned (OpenSpec.ofChange decodeCutsSpec)

/-- ITS FALSE NEIGHBOUR: 'it returns false'. Refute it at one input. -/
def decodeCutsWrong : ChangeSpec := { name := "decodeCuts", fn := fun _ => fun
  | [d1, d2, d3] => { results := [.lit (.bool false)], args := [d1, d2, d3] }
  | _ => none }
def DecodeCutsWrongFalsely : Prop := decodeCutsRow.holds Try.pinned (OpenSpec.ofChange decodeCutsWrong)

/-- 'garboardlaw12.DecodeNobody': WHATEVER THE INPUT: true; the input reads as it did. -/
def decodeNobodySpec : ChangeSpec := { name := "decodeNobody", fn := fun _ => fun
  | [d1, d2, d3] => { results := [.lit (.bool true)], args := [d1, d2, d3] }
  | _ => none }
def decodeNobodyRow : OpenClaim := { program := "ytdfgmdmcdnnhfaa", sum := "373f4ae1dc988f07d9d3e8ce15092c97886f132d527810e33e85572e399b8617", func := "garboard/garboardlaw12.DecodeNobody", spec := "decodeNobody", unfollowed := true, recurses := true, apart := false }
def DecodeNobodySaid : Prop := decodeNobodyRow.holds Try.pinned (OpenSpec.ofChange decodeNobodySpec)

/-- ITS FALSE NEIGHBOUR: 'it returns false'. Refute it at one input. -/
def decodeNobodyWrong : ChangeSpec := { name := "decodeNobody", fn := fun _ => fun
  | [d1, d2, d3] => { results := [.lit (.bool false)], args := [d1, d2, d3] }
  | _ => none }
def DecodeNobodyWrongFalsely : Prop := decodeNobodyRow.holds Try.pinned (OpenSpec.ofChange decodeNobodyWrong)

/- THE SECOND FORM. 'bulk': how many values and letters a reading holds, each counted each time it is reached (what is shared counts as often as it is met; a slice's spare places count too). A statement '..UptoSaid' is the law's where the arguments, and the package variables that the reading takes, are together of bulk at most 1048576: NARROWER than '..Said'. Prove '..Said' where nothing that the law and all that it calls make is longer than what came in: it says more and counts as full. Else prove '..UptoSaid'. A law counts once. -/
mutual
def uptoBulk {H : Type} : DataW H → Nat
  | .lit (.string bytes) => bytes.length + 1
  | .lit _ => 1
  | .nil => 1
  | .ptr d => uptoBulk d + 1
  | .slice elems spare => uptoBulkAll elems + uptoBulkAll spare + 1
  | .agg parts => uptoBulkAll parts + 1
  | .iface _ d => uptoBulk d + 1
  | .map entries => uptoBulkEntries entries + 1
  | .held _ => 1
def uptoBulkAll {H : Type} : List (DataW H) → Nat
  | [] => 0
  | d :: r => uptoBulk d + uptoBulkAll r
def uptoBulkEntries {H : Type} : List (Lit × DataW H) → Nat
  | [] => 0
  | x :: r => uptoBulkEntry x + uptoBulkEntries r
def uptoBulkEntry {H : Type} : Lit × DataW H → Nat
  | (.string bytes, d) => bytes.length + uptoBulk d + 1
  | (_, d) => uptoBulk d + 1
 end
def uptoSmall : (H : Type) → List (DataW H) → Bool := fun _ ds => decide (uptoBulkAll ds ≤ 1048576)
def OpenSpec.upto (s : _root_.Go.ChangeSpec) : _root_.Go.OpenSpec := { _root_.Go.OpenSpec.ofChange s with cond := some uptoSmall }

/-- 'garboardlaw11.SampleMarks', WHERE WHAT IT READS IS OF BULK AT MOST 1048576: true; the input reads as it did. -/
def sampleMarksUptoRow : OpenClaim := { program := "ytdfgmdmcdnnhfaa", sum := "373f4ae1dc988f07d9d3e8ce15092c97886f132d527810e33e85572e399b8617", func := "garboard/garboardlaw11.SampleMarks", spec := "sampleMarks", unfollowed := true, recurses := true, apart := false, narrowed := true }
def SampleMarksUptoSaid : Prop := sampleMarksUptoRow.holds Try.pinned (OpenSpec.upto sampleMarksSpec)

/-- 'garboardlaw10.AttnSteps', WHERE WHAT IT READS IS OF BULK AT MOST 1048576: true; the input reads as it did. -/
def attnStepsUptoRow : OpenClaim := { program := "ytdfgmdmcdnnhfaa", sum := "373f4ae1dc988f07d9d3e8ce15092c97886f132d527810e33e85572e399b8617", func := "garboard/garboardlaw10.AttnSteps", spec := "attnSteps", unfollowed := true, recurses := true, apart := false, narrowed := true }
def AttnStepsUptoSaid : Prop := attnStepsUptoRow.holds Try.pinned (OpenSpec.upto attnStepsSpec)

/-- 'garboardlaw10.AttnThrough', WHERE WHAT IT READS IS OF BULK AT MOST 1048576: true; the input reads as it did. -/
def attnThroughUptoRow : OpenClaim := { program := "ytdfgmdmcdnnhfaa", sum := "373f4ae1dc988f07d9d3e8ce15092c97886f132d527810e33e85572e399b8617", func := "garboard/garboardlaw10.AttnThrough", spec := "attnThrough", unfollowed := true, recurses := true, apart := false, narrowed := true }
def AttnThroughUptoSaid : Prop := attnThroughUptoRow.holds Try.pinned (OpenSpec.upto attnThroughSpec)

/-- 'garboardlaw10.AttnCuts', WHERE WHAT IT READS IS OF BULK AT MOST 1048576: true; the input reads as it did. -/
def attnCutsUptoRow : OpenClaim := { program := "ytdfgmdmcdnnhfaa", sum := "373f4ae1dc988f07d9d3e8ce15092c97886f132d527810e33e85572e399b8617", func := "garboard/garboardlaw10.AttnCuts", spec := "attnCuts", unfollowed := true, recurses := true, apart := false, narrowed := true }
def AttnCutsUptoSaid : Prop := attnCutsUptoRow.holds Try.pinned (OpenSpec.upto attnCutsSpec)

/-- 'garboardlaw10.AttnNobody', WHERE WHAT IT READS IS OF BULK AT MOST 1048576: true; the input reads as it did. -/
def attnNobodyUptoRow : OpenClaim := { program := "ytdfgmdmcdnnhfaa", sum := "373f4ae1dc988f07d9d3e8ce15092c97886f132d527810e33e85572e399b8617", func := "garboard/garboardlaw10.AttnNobody", spec := "attnNobody", unfollowed := true, recurses := true, apart := false, narrowed := true }
def AttnNobodyUptoSaid : Prop := attnNobodyUptoRow.holds Try.pinned (OpenSpec.upto attnNobodySpec)

/-- 'garboardlaw12.DecodeRests', WHERE WHAT IT READS IS OF BULK AT MOST 1048576: true; the input reads as it did. -/
def decodeRestsUptoRow : OpenClaim := { program := "ytdfgmdmcdnnhfaa", sum := "373f4ae1dc988f07d9d3e8ce15092c97886f132d527810e33e85572e399b8617", func := "garboard/garboardlaw12.DecodeRests", spec := "decodeRests", unfollowed := true, recurses := true, apart := false, narrowed := true }
def DecodeRestsUptoSaid : Prop := decodeRestsUptoRow.holds Try.pinned (OpenSpec.upto decodeRestsSpec)

/-- 'garboardlaw12.DecodeLess', WHERE WHAT IT READS IS OF BULK AT MOST 1048576: true; the input reads as it did. -/
def decodeLessUptoRow : OpenClaim := { program := "ytdfgmdmcdnnhfaa", sum := "373f4ae1dc988f07d9d3e8ce15092c97886f132d527810e33e85572e399b8617", func := "garboard/garboardlaw12.DecodeLess", spec := "decodeLess", unfollowed := true, recurses := true, apart := false, narrowed := true }
def DecodeLessUptoSaid : Prop := decodeLessUptoRow.holds Try.pinned (OpenSpec.upto decodeLessSpec)

/-- 'garboardlaw12.DecodeCuts', WHERE WHAT IT READS IS OF BULK AT MOST 1048576: true; the input reads as it did. -/
def decodeCutsUptoRow : OpenClaim := { program := "ytdfgmdmcdnnhfaa", sum := "373f4ae1dc988f07d9d3e8ce15092c97886f132d527810e33e85572e399b8617", func := "garboard/garboardlaw12.DecodeCuts", spec := "decodeCuts", unfollowed := true, recurses := true, apart := false, narrowed := true }
def DecodeCutsUptoSaid : Prop := decodeCutsUptoRow.holds Try.pinned (OpenSpec.upto decodeCutsSpec)

/-- 'garboardlaw12.DecodeNobody', WHERE WHAT IT READS IS OF BULK AT MOST 1048576: true; the input reads as it did. -/
def decodeNobodyUptoRow : OpenClaim := { program := "ytdfgmdmcdnnhfaa", sum := "373f4ae1dc988f07d9d3e8ce15092c97886f132d527810e33e85572e399b8617", func := "garboard/garboardlaw12.DecodeNobody", spec := "decodeNobody", unfollowed := true, recurses := true, apart := false, narrowed := true }
def DecodeNobodyUptoSaid : Prop := decodeNobodyUptoRow.holds Try.pinned (OpenSpec.upto decodeNobodySpec)

end Rows
end Go.Proofs.Ytdfgmdmcdnnhfaa
