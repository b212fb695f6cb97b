/- A step of the statements on member lists, as it comes in. -/
import Derived.Test.YtmbhicjjbgbneaaMbE
import Derived.Test.YtmbhicjjbgbneaaOpn
namespace Go.Proofs.Ytmbhicjjbgbneaa
open Go.RowKit Go.Shelf Go.Proofs.YtmbhicjjbgbneaaW.PrintWords Go.Proofs.YtmbhicjjbgbneaaW.PrintLast Go.Proofs.YtmbhicjjbgbneaaW.PrintMore
set_option linter.unusedVariables false
set_option linter.unusedSimpArgs false
set_option maxRecDepth 100000
abbrev MStepV := Int × Int × Int × Int × Int × Int
abbrev KMStep : Kd MStepV := Kd.pair (Kd.int .u8) (Kd.pair (Kd.int .i64) (Kd.pair (Kd.int .u64) (Kd.pair (Kd.int .u64) (Kd.pair (Kd.int .i64) (Kd.int .i64)))))
def MStepG (x : MStepV) : Prop := (Lit.int .u8 x.1).wf = true ∧ (Lit.int .i64 x.2.1).wf = true ∧ (Lit.int .u64 x.2.2.1).wf = true ∧ (Lit.int .u64 x.2.2.2.1).wf = true ∧ (Lit.int .i64 x.2.2.2.2.1).wf = true ∧ (Lit.int .i64 x.2.2.2.2.2).wf = true
theorem op_mstep : Opens Try.prog 64 KMStep MStepG := by
  have h := Opens.struct Try.underlying64 (by kernel_rfl)
    (OpensFs.cons rfl (by kernel_rfl) (Opens.int Try.underlying5) (OpensFs.cons rfl (by kernel_rfl) (Opens.int Try.underlying2)
      (OpensFs.cons rfl (by kernel_rfl) (Opens.int Try.underlying22) (OpensFs.cons rfl (by kernel_rfl) (Opens.int Try.underlying22)
        (OpensFs.cons rfl (by kernel_rfl) (Opens.int Try.underlying2) (OpensFs.one rfl (by kernel_rfl) (Opens.int Try.underlying3)))))))
  exact h
theorem mstep_cells {w : World} {x : MStepV} {cs : Array Value} (h : KMStep.K w x cs.toList) : cs = #[.int .u8 x.1, .int .i64 x.2.1, .int .u64 x.2.2.1, .int .u64 x.2.2.2.1, .int .i64 x.2.2.2.2.1, .int .i64 x.2.2.2.2.2] := by
  obtain ⟨c0, r, e, h0, ⟨c1, r1, e1, h1, ⟨c2, r2, e2, h2, ⟨c3, r3, e3, h3, ⟨c4, r4, e4, h4, h5⟩⟩⟩⟩⟩ := h
  subst e4 e3 e2 e1
  have h0' : c0 = [.int .u8 x.1] := h0
  have h1' : c1 = [.int .i64 x.2.1] := h1
  have h2' : c2 = [.int .u64 x.2.2.1] := h2
  have h3' : c3 = [.int .u64 x.2.2.2.1] := h3
  have h4' : c4 = [.int .i64 x.2.2.2.2.1] := h4
  have h5' : r4 = [.int .i64 x.2.2.2.2.2] := h5
  subst h0' h1' h2' h3' h4' h5'
  exact Array.toList_inj.1 e
end Go.Proofs.Ytmbhicjjbgbneaa
