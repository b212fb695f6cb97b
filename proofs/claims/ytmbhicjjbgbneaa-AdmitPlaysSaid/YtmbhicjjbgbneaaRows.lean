/-
  No cell of these rows narrows 'for every input' (looked for: loops, veiled, ifaces, maps, wideKeys, modest, calm, conditions, laid).
  DERIVED. THE GIVEN ROWS OF THIS SEAT. 6 by the template 'for every input the law returns true; each argument reads behind the call as it read before'; 0 by the template 'total and deterministic' (their statements: YtmbhicjjbgbneaaTotals.lean).
  GIVEN WITH THE SEED: the statements are not yours to turn. If you find one false, say at which input.
  Laid BY PROGRAM, IN A SANDBOX (cutbox-rows.mjs): the forced cells as the released guide's own fill.sh prints them over the translation 3a8ea7cd7e1bd938… (all of the seat's roots in one cut). By AI agents, Wed Nov 11 2026. No macro, syntax, notation, axiom, sorry.
-/
import Derived.Test.YtmbhicjjbgbneaaChecked
import GoSem.Claim
import GoSem.ClaimJoined
import GoSem.ClaimMapViews
import Derived.JoinedTies
import Derived.KernelRfl
namespace Go.Proofs.Ytmbhicjjbgbneaa
/- THE CELL 'sum', in the pinned program and in every row, IS THE sha256 OF THE DUMP (.gsa) THAT YtmbhicjjbgbneaaProg.lean LOADS. Nothing in Lean hashes anything: it is a label: what it is worth is what the hold of that sum in a sandbox is worth. -/
noncomputable def Try.pinned : Pinned := { name := "ytmbhicjjbgbneaa", sum := "3a8ea7cd7e1bd9384d3a37965476252aea665d95c695193446e99a9aaf4cd09e", checked := Try.checked }
namespace Rows
def none {H : Type} : Left H := { results := [], args := [] }

/-- 'garboardlaw26.AdmitPlays': WHATEVER THE INPUT: true; the input reads as it did. -/
def admitPlaysSpec : ChangeSpec := { name := "admitPlays", fn := fun _ => fun
  | [d1, d2] => { results := [.lit (.bool true)], args := [d1, d2] }
  | _ => none }
def admitPlaysRow : OpenClaim := { program := "ytmbhicjjbgbneaa", sum := "3a8ea7cd7e1bd9384d3a37965476252aea665d95c695193446e99a9aaf4cd09e", func := "garboard/garboardlaw26.AdmitPlays", spec := "admitPlays", unfollowed := true, recurses := true, apart := false }
def AdmitPlaysSaid : Prop := admitPlaysRow.holds Try.pinned (OpenSpec.ofChange admitPlaysSpec)

/-- ITS FALSE NEIGHBOUR: 'it returns false'. Refute it at one input. -/
def admitPlaysWrong : ChangeSpec := { name := "admitPlays", fn := fun _ => fun
  | [d1, d2] => { results := [.lit (.bool false)], args := [d1, d2] }
  | _ => none }
def AdmitPlaysWrongFalsely : Prop := admitPlaysRow.holds Try.pinned (OpenSpec.ofChange admitPlaysWrong)

/-- 'garboardlaw26.AdmitRooms': WHATEVER THE INPUT: true; the input reads as it did. -/
def admitRoomsSpec : ChangeSpec := { name := "admitRooms", fn := fun _ => fun
  | [d1, d2] => { results := [.lit (.bool true)], args := [d1, d2] }
  | _ => none }
def admitRoomsRow : OpenClaim := { program := "ytmbhicjjbgbneaa", sum := "3a8ea7cd7e1bd9384d3a37965476252aea665d95c695193446e99a9aaf4cd09e", func := "garboard/garboardlaw26.AdmitRooms", spec := "admitRooms", unfollowed := true, recurses := true, apart := false }
def AdmitRoomsSaid : Prop := admitRoomsRow.holds Try.pinned (OpenSpec.ofChange admitRoomsSpec)

/-- ITS FALSE NEIGHBOUR: 'it returns false'. Refute it at one input. -/
def admitRoomsWrong : ChangeSpec := { name := "admitRooms", fn := fun _ => fun
  | [d1, d2] => { results := [.lit (.bool false)], args := [d1, d2] }
  | _ => none }
def AdmitRoomsWrongFalsely : Prop := admitRoomsRow.holds Try.pinned (OpenSpec.ofChange admitRoomsWrong)

/-- 'garboardlaw26.AdmitNobody': WHATEVER THE INPUT: true; the input reads as it did. -/
def admitNobodySpec : ChangeSpec := { name := "admitNobody", fn := fun _ => fun
  | [d] => { results := [.lit (.bool true)], args := [d] }
  | _ => none }
def admitNobodyRow : OpenClaim := { program := "ytmbhicjjbgbneaa", sum := "3a8ea7cd7e1bd9384d3a37965476252aea665d95c695193446e99a9aaf4cd09e", func := "garboard/garboardlaw26.AdmitNobody", spec := "admitNobody", unfollowed := true, recurses := true, apart := false }
def AdmitNobodySaid : Prop := admitNobodyRow.holds Try.pinned (OpenSpec.ofChange admitNobodySpec)

/-- ITS FALSE NEIGHBOUR: 'it returns false'. Refute it at one input. -/
def admitNobodyWrong : ChangeSpec := { name := "admitNobody", fn := fun _ => fun
  | [d] => { results := [.lit (.bool false)], args := [d] }
  | _ => none }
def AdmitNobodyWrongFalsely : Prop := admitNobodyRow.holds Try.pinned (OpenSpec.ofChange admitNobodyWrong)

/-- 'garboardlaw24.MemberEdges': WHATEVER THE INPUT: true; the input reads as it did. -/
def memberEdgesSpec : ChangeSpec := { name := "memberEdges", fn := fun _ => fun
  | [d] => { results := [.lit (.bool true)], args := [d] }
  | _ => none }
def memberEdgesRow : OpenClaim := { program := "ytmbhicjjbgbneaa", sum := "3a8ea7cd7e1bd9384d3a37965476252aea665d95c695193446e99a9aaf4cd09e", func := "garboard/garboardlaw24.MemberEdges", spec := "memberEdges", unfollowed := true, recurses := true, apart := false }
def MemberEdgesSaid : Prop := memberEdgesRow.holds Try.pinned (OpenSpec.ofChange memberEdgesSpec)

/-- ITS FALSE NEIGHBOUR: 'it returns false'. Refute it at one input. -/
def memberEdgesWrong : ChangeSpec := { name := "memberEdges", fn := fun _ => fun
  | [d] => { results := [.lit (.bool false)], args := [d] }
  | _ => none }
def MemberEdgesWrongFalsely : Prop := memberEdgesRow.holds Try.pinned (OpenSpec.ofChange memberEdgesWrong)

/-- 'garboardlaw24.MemberPlays': WHATEVER THE INPUT: true; the input reads as it did. -/
def memberPlaysSpec : ChangeSpec := { name := "memberPlays", fn := fun _ => fun
  | [d] => { results := [.lit (.bool true)], args := [d] }
  | _ => none }
def memberPlaysRow : OpenClaim := { program := "ytmbhicjjbgbneaa", sum := "3a8ea7cd7e1bd9384d3a37965476252aea665d95c695193446e99a9aaf4cd09e", func := "garboard/garboardlaw24.MemberPlays", spec := "memberPlays", unfollowed := true, recurses := true, apart := false }
def MemberPlaysSaid : Prop := memberPlaysRow.holds Try.pinned (OpenSpec.ofChange memberPlaysSpec)

/-- ITS FALSE NEIGHBOUR: 'it returns false'. Refute it at one input. -/
def memberPlaysWrong : ChangeSpec := { name := "memberPlays", fn := fun _ => fun
  | [d] => { results := [.lit (.bool false)], args := [d] }
  | _ => none }
def MemberPlaysWrongFalsely : Prop := memberPlaysRow.holds Try.pinned (OpenSpec.ofChange memberPlaysWrong)

/-- 'garboardlaw24.MemberNobody': WHATEVER THE INPUT: true; the input reads as it did. -/
def memberNobodySpec : ChangeSpec := { name := "memberNobody", fn := fun _ => fun
  | [d] => { results := [.lit (.bool true)], args := [d] }
  | _ => none }
def memberNobodyRow : OpenClaim := { program := "ytmbhicjjbgbneaa", sum := "3a8ea7cd7e1bd9384d3a37965476252aea665d95c695193446e99a9aaf4cd09e", func := "garboard/garboardlaw24.MemberNobody", spec := "memberNobody", unfollowed := true, recurses := true, apart := false }
def MemberNobodySaid : Prop := memberNobodyRow.holds Try.pinned (OpenSpec.ofChange memberNobodySpec)

/-- ITS FALSE NEIGHBOUR: 'it returns false'. Refute it at one input. -/
def memberNobodyWrong : ChangeSpec := { name := "memberNobody", fn := fun _ => fun
  | [d] => { results := [.lit (.bool false)], args := [d] }
  | _ => none }
def MemberNobodyWrongFalsely : Prop := memberNobodyRow.holds Try.pinned (OpenSpec.ofChange memberNobodyWrong)

/- THE SECOND FORM. 'bulk': how many values and letters a reading holds, each counted each time it is reached (what is shared counts as often as it is met; a slice's spare places count too). A statement '..UptoSaid' is the law's where the arguments, and the package variables that the reading takes, are together of bulk at most 1048576: NARROWER than '..Said'. Prove '..Said' where nothing that the law and all that it calls make is longer than what came in: it says more and counts as full. Else prove '..UptoSaid'. A law counts once. -/
mutual
def uptoBulk {H : Type} : DataW H → Nat
  | .lit (.string bytes) => bytes.length + 1
  | .lit _ => 1
  | .nil => 1
  | .ptr d => uptoBulk d + 1
  | .slice elems spare => uptoBulkAll elems + uptoBulkAll spare + 1
  | .agg parts => uptoBulkAll parts + 1
  | .iface _ d => uptoBulk d + 1
  | .map entries => uptoBulkEntries entries + 1
  | .held _ => 1
def uptoBulkAll {H : Type} : List (DataW H) → Nat
  | [] => 0
  | d :: r => uptoBulk d + uptoBulkAll r
def uptoBulkEntries {H : Type} : List (Lit × DataW H) → Nat
  | [] => 0
  | x :: r => uptoBulkEntry x + uptoBulkEntries r
def uptoBulkEntry {H : Type} : Lit × DataW H → Nat
  | (.string bytes, d) => bytes.length + uptoBulk d + 1
  | (_, d) => uptoBulk d + 1
 end
def uptoSmall : (H : Type) → List (DataW H) → Bool := fun _ ds => decide (uptoBulkAll ds ≤ 1048576)
def OpenSpec.upto (s : _root_.Go.ChangeSpec) : _root_.Go.OpenSpec := { _root_.Go.OpenSpec.ofChange s with cond := some uptoSmall }

/-- 'garboardlaw26.AdmitPlays', WHERE WHAT IT READS IS OF BULK AT MOST 1048576: true; the input reads as it did. -/
def admitPlaysUptoRow : OpenClaim := { program := "ytmbhicjjbgbneaa", sum := "3a8ea7cd7e1bd9384d3a37965476252aea665d95c695193446e99a9aaf4cd09e", func := "garboard/garboardlaw26.AdmitPlays", spec := "admitPlays", unfollowed := true, recurses := true, apart := false, narrowed := true }
def AdmitPlaysUptoSaid : Prop := admitPlaysUptoRow.holds Try.pinned (OpenSpec.upto admitPlaysSpec)

/-- 'garboardlaw26.AdmitRooms', WHERE WHAT IT READS IS OF BULK AT MOST 1048576: true; the input reads as it did. -/
def admitRoomsUptoRow : OpenClaim := { program := "ytmbhicjjbgbneaa", sum := "3a8ea7cd7e1bd9384d3a37965476252aea665d95c695193446e99a9aaf4cd09e", func := "garboard/garboardlaw26.AdmitRooms", spec := "admitRooms", unfollowed := true, recurses := true, apart := false, narrowed := true }
def AdmitRoomsUptoSaid : Prop := admitRoomsUptoRow.holds Try.pinned (OpenSpec.upto admitRoomsSpec)

/-- 'garboardlaw26.AdmitNobody', WHERE WHAT IT READS IS OF BULK AT MOST 1048576: true; the input reads as it did. -/
def admitNobodyUptoRow : OpenClaim := { program := "ytmbhicjjbgbneaa", sum := "3a8ea7cd7e1bd9384d3a37965476252aea665d95c695193446e99a9aaf4cd09e", func := "garboard/garboardlaw26.AdmitNobody", spec := "admitNobody", unfollowed := true, recurses := true, apart := false, narrowed := true }
def AdmitNobodyUptoSaid : Prop := admitNobodyUptoRow.holds Try.pinned (OpenSpec.upto admitNobodySpec)

/-- 'garboardlaw24.MemberEdges', WHERE WHAT IT READS IS OF BULK AT MOST 1048576: true; the input reads as it did. -/
def memberEdgesUptoRow : OpenClaim := { program := "ytmbhicjjbgbneaa", sum := "3a8ea7cd7e1bd9384d3a37965476252aea665d95c695193446e99a9aaf4cd09e", func := "garboard/garboardlaw24.MemberEdges", spec := "memberEdges", unfollowed := true, recurses := true, apart := false, narrowed := true }
def MemberEdgesUptoSaid : Prop := memberEdgesUptoRow.holds Try.pinned (OpenSpec.upto memberEdgesSpec)

/-- 'garboardlaw24.MemberPlays', WHERE WHAT IT READS IS OF BULK AT MOST 1048576: true; the input reads as it did. -/
def memberPlaysUptoRow : OpenClaim := { program := "ytmbhicjjbgbneaa", sum := "3a8ea7cd7e1bd9384d3a37965476252aea665d95c695193446e99a9aaf4cd09e", func := "garboard/garboardlaw24.MemberPlays", spec := "memberPlays", unfollowed := true, recurses := true, apart := false, narrowed := true }
def MemberPlaysUptoSaid : Prop := memberPlaysUptoRow.holds Try.pinned (OpenSpec.upto memberPlaysSpec)

/-- 'garboardlaw24.MemberNobody', WHERE WHAT IT READS IS OF BULK AT MOST 1048576: true; the input reads as it did. -/
def memberNobodyUptoRow : OpenClaim := { program := "ytmbhicjjbgbneaa", sum := "3a8ea7cd7e1bd9384d3a37965476252aea665d95c695193446e99a9aaf4cd09e", func := "garboard/garboardlaw24.MemberNobody", spec := "memberNobody", unfollowed := true, recurses := true, apart := false, narrowed := true }
def MemberNobodyUptoSaid : Prop := memberNobodyUptoRow.holds Try.pinned (OpenSpec.upto memberNobodySpec)

end Rows
end Go.Proofs.Ytmbhicjjbgbneaa
