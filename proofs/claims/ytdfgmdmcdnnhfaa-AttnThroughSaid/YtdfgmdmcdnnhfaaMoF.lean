/- Fields of structs that are no cells. -/
import Derived.Test.YtdfgmdmcdnnhfaaProg
import Derived.WalkKit
import Derived.KernelRfl
import Derived.Tactics
namespace Go.Proofs.Ytdfgmdmcdnnhfaa
open Go.RowKit
set_option linter.unusedVariables false
set_option linter.unusedSimpArgs false
set_option maxRecDepth 100000

/-- A field of a configuration that is no cell. -/
theorem run_cfg1 (s v d l t h : Value) (w : World) : (Instr.field 24 (.agg #[s, v, d, l, t, h]) 1).run Try.prog w = .ok v w := by
  simp [Instr.field, run_underlying Try.underlying24, part, isAgg, run_underlying Try.underlying3, asAgg]
theorem run_cfg2 (s v d l t h : Value) (w : World) : (Instr.field 24 (.agg #[s, v, d, l, t, h]) 2).run Try.prog w = .ok d w := by
  simp [Instr.field, run_underlying Try.underlying24, part, isAgg, run_underlying Try.underlying3, asAgg]
theorem run_cfg3 (s v d l t h : Value) (w : World) : (Instr.field 24 (.agg #[s, v, d, l, t, h]) 3).run Try.prog w = .ok l w := by
  simp [Instr.field, run_underlying Try.underlying24, part, isAgg, run_underlying Try.underlying3, asAgg]

end Go.Proofs.Ytdfgmdmcdnnhfaa
