/-
  No cell of these rows narrows 'for every input' (looked for: loops, veiled, ifaces, maps, wideKeys, modest, calm, conditions, laid).
  DERIVED. THE GIVEN ROWS OF THIS SEAT. 7 by the template 'for every input the law returns true; each argument reads behind the call as it read before'; 0 by the template 'total and deterministic' (their statements: YtcelhendfjiicaaTotals.lean).
  GIVEN WITH THE SEED: the statements are not yours to turn. If you find one false, say at which input.
  Laid BY PROGRAM, IN A SANDBOX (cutbox-rows.mjs): the forced cells as the released guide's own fill.sh prints them over the translation 83fe38abfe9f7028… (all of the seat's roots in one cut). By AI agents, Wed Nov 11 2026. No macro, syntax, notation, axiom, sorry.
-/
import Derived.Test.YtcelhendfjiicaaChecked
import GoSem.Claim
import GoSem.ClaimJoined
import GoSem.ClaimMapViews
import Derived.JoinedTies
import Derived.KernelRfl
namespace Go.Proofs.Ytcelhendfjiicaa
/- THE CELL 'sum', in the pinned program and in every row, IS THE sha256 OF THE DUMP (.gsa) THAT YtcelhendfjiicaaProg.lean LOADS. Nothing in Lean hashes anything: it is a label: what it is worth is what the hold of that sum in a sandbox is worth. -/
noncomputable def Try.pinned : Pinned := { name := "ytcelhendfjiicaa", sum := "83fe38abfe9f7028f73f4df8941a920ee1614000e368fa7b90a9aae3f68e07a2", checked := Try.checked }
namespace Rows
def none {H : Type} : Left H := { results := [], args := [] }

/-- 'garboardlaw21.LinkOrder': WHATEVER THE INPUT: true; the input reads as it did. -/
def linkOrderSpec : ChangeSpec := { name := "linkOrder", fn := fun _ => fun
  | [d1, d2] => { results := [.lit (.bool true)], args := [d1, d2] }
  | _ => none }
def linkOrderRow : OpenClaim := { program := "ytcelhendfjiicaa", sum := "83fe38abfe9f7028f73f4df8941a920ee1614000e368fa7b90a9aae3f68e07a2", func := "garboard/garboardlaw21.LinkOrder", spec := "linkOrder", unfollowed := true, recurses := true, apart := false }
def LinkOrderSaid : Prop := linkOrderRow.holds Try.pinned (OpenSpec.ofChange linkOrderSpec)

/-- ITS FALSE NEIGHBOUR: 'it returns false'. Refute it at one input. -/
def linkOrderWrong : ChangeSpec := { name := "linkOrder", fn := fun _ => fun
  | [d1, d2] => { results := [.lit (.bool false)], args := [d1, d2] }
  | _ => none }
def LinkOrderWrongFalsely : Prop := linkOrderRow.holds Try.pinned (OpenSpec.ofChange linkOrderWrong)

/-- 'garboardlaw35.FairShares': WHATEVER THE INPUT: true; the input reads as it did. -/
def fairSharesSpec : ChangeSpec := { name := "fairShares", fn := fun _ => fun
  | [d1, d2, d3] => { results := [.lit (.bool true)], args := [d1, d2, d3] }
  | _ => none }
def fairSharesRow : OpenClaim := { program := "ytcelhendfjiicaa", sum := "83fe38abfe9f7028f73f4df8941a920ee1614000e368fa7b90a9aae3f68e07a2", func := "garboard/garboardlaw35.FairShares", spec := "fairShares", apart := false }
def FairSharesSaid : Prop := fairSharesRow.holds Try.pinned (OpenSpec.ofChange fairSharesSpec)

/-- ITS FALSE NEIGHBOUR: 'it returns false'. Refute it at one input. -/
def fairSharesWrong : ChangeSpec := { name := "fairShares", fn := fun _ => fun
  | [d1, d2, d3] => { results := [.lit (.bool false)], args := [d1, d2, d3] }
  | _ => none }
def FairSharesWrongFalsely : Prop := fairSharesRow.holds Try.pinned (OpenSpec.ofChange fairSharesWrong)

/-- 'garboardlaw21.LinkSent': WHATEVER THE INPUT: true; the input reads as it did. -/
def linkSentSpec : ChangeSpec := { name := "linkSent", fn := fun _ => fun
  | [d1, d2] => { results := [.lit (.bool true)], args := [d1, d2] }
  | _ => none }
def linkSentRow : OpenClaim := { program := "ytcelhendfjiicaa", sum := "83fe38abfe9f7028f73f4df8941a920ee1614000e368fa7b90a9aae3f68e07a2", func := "garboard/garboardlaw21.LinkSent", spec := "linkSent", unfollowed := true, recurses := true, apart := false }
def LinkSentSaid : Prop := linkSentRow.holds Try.pinned (OpenSpec.ofChange linkSentSpec)

/-- ITS FALSE NEIGHBOUR: 'it returns false'. Refute it at one input. -/
def linkSentWrong : ChangeSpec := { name := "linkSent", fn := fun _ => fun
  | [d1, d2] => { results := [.lit (.bool false)], args := [d1, d2] }
  | _ => none }
def LinkSentWrongFalsely : Prop := linkSentRow.holds Try.pinned (OpenSpec.ofChange linkSentWrong)

/-- 'garboardlaw35.FairOrder': WHATEVER THE INPUT: true; the input reads as it did. -/
def fairOrderSpec : ChangeSpec := { name := "fairOrder", fn := fun _ => fun
  | [d1, d2] => { results := [.lit (.bool true)], args := [d1, d2] }
  | _ => none }
def fairOrderRow : OpenClaim := { program := "ytcelhendfjiicaa", sum := "83fe38abfe9f7028f73f4df8941a920ee1614000e368fa7b90a9aae3f68e07a2", func := "garboard/garboardlaw35.FairOrder", spec := "fairOrder", unfollowed := true, recurses := true, apart := false }
def FairOrderSaid : Prop := fairOrderRow.holds Try.pinned (OpenSpec.ofChange fairOrderSpec)

/-- ITS FALSE NEIGHBOUR: 'it returns false'. Refute it at one input. -/
def fairOrderWrong : ChangeSpec := { name := "fairOrder", fn := fun _ => fun
  | [d1, d2] => { results := [.lit (.bool false)], args := [d1, d2] }
  | _ => none }
def FairOrderWrongFalsely : Prop := fairOrderRow.holds Try.pinned (OpenSpec.ofChange fairOrderWrong)

/-- 'garboardlaw21.LinkPlays': WHATEVER THE INPUT: true; the input reads as it did. -/
def linkPlaysSpec : ChangeSpec := { name := "linkPlays", fn := fun _ => fun
  | [d1, d2] => { results := [.lit (.bool true)], args := [d1, d2] }
  | _ => none }
def linkPlaysRow : OpenClaim := { program := "ytcelhendfjiicaa", sum := "83fe38abfe9f7028f73f4df8941a920ee1614000e368fa7b90a9aae3f68e07a2", func := "garboard/garboardlaw21.LinkPlays", spec := "linkPlays", unfollowed := true, recurses := true, apart := false }
def LinkPlaysSaid : Prop := linkPlaysRow.holds Try.pinned (OpenSpec.ofChange linkPlaysSpec)

/-- ITS FALSE NEIGHBOUR: 'it returns false'. Refute it at one input. -/
def linkPlaysWrong : ChangeSpec := { name := "linkPlays", fn := fun _ => fun
  | [d1, d2] => { results := [.lit (.bool false)], args := [d1, d2] }
  | _ => none }
def LinkPlaysWrongFalsely : Prop := linkPlaysRow.holds Try.pinned (OpenSpec.ofChange linkPlaysWrong)

/-- 'garboardlaw21.LinkOwn': WHATEVER THE INPUT: true; the input reads as it did. -/
def linkOwnSpec : ChangeSpec := { name := "linkOwn", fn := fun _ => fun
  | [d] => { results := [.lit (.bool true)], args := [d] }
  | _ => none }
def linkOwnRow : OpenClaim := { program := "ytcelhendfjiicaa", sum := "83fe38abfe9f7028f73f4df8941a920ee1614000e368fa7b90a9aae3f68e07a2", func := "garboard/garboardlaw21.LinkOwn", spec := "linkOwn", unfollowed := true, recurses := true, apart := false }
def LinkOwnSaid : Prop := linkOwnRow.holds Try.pinned (OpenSpec.ofChange linkOwnSpec)

/-- ITS FALSE NEIGHBOUR: 'it returns false'. Refute it at one input. -/
def linkOwnWrong : ChangeSpec := { name := "linkOwn", fn := fun _ => fun
  | [d] => { results := [.lit (.bool false)], args := [d] }
  | _ => none }
def LinkOwnWrongFalsely : Prop := linkOwnRow.holds Try.pinned (OpenSpec.ofChange linkOwnWrong)

/-- 'garboardlaw35.FairNobody': WHATEVER THE INPUT: true; the input reads as it did. -/
def fairNobodySpec : ChangeSpec := { name := "fairNobody", fn := fun _ => fun
  | [d1, d2] => { results := [.lit (.bool true)], args := [d1, d2] }
  | _ => none }
def fairNobodyRow : OpenClaim := { program := "ytcelhendfjiicaa", sum := "83fe38abfe9f7028f73f4df8941a920ee1614000e368fa7b90a9aae3f68e07a2", func := "garboard/garboardlaw35.FairNobody", spec := "fairNobody", apart := false }
def FairNobodySaid : Prop := fairNobodyRow.holds Try.pinned (OpenSpec.ofChange fairNobodySpec)

/-- ITS FALSE NEIGHBOUR: 'it returns false'. Refute it at one input. -/
def fairNobodyWrong : ChangeSpec := { name := "fairNobody", fn := fun _ => fun
  | [d1, d2] => { results := [.lit (.bool false)], args := [d1, d2] }
  | _ => none }
def FairNobodyWrongFalsely : Prop := fairNobodyRow.holds Try.pinned (OpenSpec.ofChange fairNobodyWrong)

/- THE SECOND FORM. 'bulk': how many values and letters a reading holds, each counted each time it is reached (what is shared counts as often as it is met; a slice's spare places count too). A statement '..UptoSaid' is the law's where the arguments, and the package variables that the reading takes, are together of bulk at most 1048576: NARROWER than '..Said'. Prove '..Said' where nothing that the law and all that it calls make is longer than what came in: it says more and counts as full. Else prove '..UptoSaid'. A law counts once. -/
mutual
def uptoBulk {H : Type} : DataW H → Nat
  | .lit (.string bytes) => bytes.length + 1
  | .lit _ => 1
  | .nil => 1
  | .ptr d => uptoBulk d + 1
  | .slice elems spare => uptoBulkAll elems + uptoBulkAll spare + 1
  | .agg parts => uptoBulkAll parts + 1
  | .iface _ d => uptoBulk d + 1
  | .map entries => uptoBulkEntries entries + 1
  | .held _ => 1
def uptoBulkAll {H : Type} : List (DataW H) → Nat
  | [] => 0
  | d :: r => uptoBulk d + uptoBulkAll r
def uptoBulkEntries {H : Type} : List (Lit × DataW H) → Nat
  | [] => 0
  | x :: r => uptoBulkEntry x + uptoBulkEntries r
def uptoBulkEntry {H : Type} : Lit × DataW H → Nat
  | (.string bytes, d) => bytes.length + uptoBulk d + 1
  | (_, d) => uptoBulk d + 1
 end
def uptoSmall : (H : Type) → List (DataW H) → Bool := fun _ ds => decide (uptoBulkAll ds ≤ 1048576)
def OpenSpec.upto (s : _root_.Go.ChangeSpec) : _root_.Go.OpenSpec := { _root_.Go.OpenSpec.ofChange s with cond := some uptoSmall }

/-- 'garboardlaw21.LinkOrder', WHERE WHAT IT READS IS OF BULK AT MOST 1048576: true; the input reads as it did. -/
def linkOrderUptoRow : OpenClaim := { program := "ytcelhendfjiicaa", sum := "83fe38abfe9f7028f73f4df8941a920ee1614000e368fa7b90a9aae3f68e07a2", func := "garboard/garboardlaw21.LinkOrder", spec := "linkOrder", unfollowed := true, recurses := true, apart := false, narrowed := true }
def LinkOrderUptoSaid : Prop := linkOrderUptoRow.holds Try.pinned (OpenSpec.upto linkOrderSpec)

/-- 'garboardlaw35.FairShares', WHERE WHAT IT READS IS OF BULK AT MOST 1048576: true; the input reads as it did. -/
def fairSharesUptoRow : OpenClaim := { program := "ytcelhendfjiicaa", sum := "83fe38abfe9f7028f73f4df8941a920ee1614000e368fa7b90a9aae3f68e07a2", func := "garboard/garboardlaw35.FairShares", spec := "fairShares", apart := false, narrowed := true }
def FairSharesUptoSaid : Prop := fairSharesUptoRow.holds Try.pinned (OpenSpec.upto fairSharesSpec)

/-- 'garboardlaw21.LinkSent', WHERE WHAT IT READS IS OF BULK AT MOST 1048576: true; the input reads as it did. -/
def linkSentUptoRow : OpenClaim := { program := "ytcelhendfjiicaa", sum := "83fe38abfe9f7028f73f4df8941a920ee1614000e368fa7b90a9aae3f68e07a2", func := "garboard/garboardlaw21.LinkSent", spec := "linkSent", unfollowed := true, recurses := true, apart := false, narrowed := true }
def LinkSentUptoSaid : Prop := linkSentUptoRow.holds Try.pinned (OpenSpec.upto linkSentSpec)

/-- 'garboardlaw35.FairOrder', WHERE WHAT IT READS IS OF BULK AT MOST 1048576: true; the input reads as it did. -/
def fairOrderUptoRow : OpenClaim := { program := "ytcelhendfjiicaa", sum := "83fe38abfe9f7028f73f4df8941a920ee1614000e368fa7b90a9aae3f68e07a2", func := "garboard/garboardlaw35.FairOrder", spec := "fairOrder", unfollowed := true, recurses := true, apart := false, narrowed := true }
def FairOrderUptoSaid : Prop := fairOrderUptoRow.holds Try.pinned (OpenSpec.upto fairOrderSpec)

/-- 'garboardlaw21.LinkPlays', WHERE WHAT IT READS IS OF BULK AT MOST 1048576: true; the input reads as it did. -/
def linkPlaysUptoRow : OpenClaim := { program := "ytcelhendfjiicaa", sum := "83fe38abfe9f7028f73f4df8941a920ee1614000e368fa7b90a9aae3f68e07a2", func := "garboard/garboardlaw21.LinkPlays", spec := "linkPlays", unfollowed := true, recurses := true, apart := false, narrowed := true }
def LinkPlaysUptoSaid : Prop := linkPlaysUptoRow.holds Try.pinned (OpenSpec.upto linkPlaysSpec)

/-- 'garboardlaw21.LinkOwn', WHERE WHAT IT READS IS OF BULK AT MOST 1048576: true; the input reads as it did. -/
def linkOwnUptoRow : OpenClaim := { program := "ytcelhendfjiicaa", sum := "83fe38abfe9f7028f73f4df8941a920ee1614000e368fa7b90a9aae3f68e07a2", func := "garboard/garboardlaw21.LinkOwn", spec := "linkOwn", unfollowed := true, recurses := true, apart := false, narrowed := true }
def LinkOwnUptoSaid : Prop := linkOwnUptoRow.holds Try.pinned (OpenSpec.upto linkOwnSpec)

/-- 'garboardlaw35.FairNobody', WHERE WHAT IT READS IS OF BULK AT MOST 1048576: true; the input reads as it did. -/
def fairNobodyUptoRow : OpenClaim := { program := "ytcelhendfjiicaa", sum := "83fe38abfe9f7028f73f4df8941a920ee1614000e368fa7b90a9aae3f68e07a2", func := "garboard/garboardlaw35.FairNobody", spec := "fairNobody", apart := false, narrowed := true }
def FairNobodyUptoSaid : Prop := fairNobodyUptoRow.holds Try.pinned (OpenSpec.upto fairNobodySpec)

end Rows
end Go.Proofs.Ytcelhendfjiicaa
