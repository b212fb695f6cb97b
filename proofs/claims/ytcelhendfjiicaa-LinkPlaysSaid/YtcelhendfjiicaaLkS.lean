/- Contracts of sat.Counter. -/
import Derived.Test.YtcelhendfjiicaaLkD
import Derived.Test.YtcelhendfjiicaaGbB
namespace Go.Proofs.Ytcelhendfjiicaa
open Go.RowKit Go.Shelf Go.Proofs.YtcelhendfjiicaaW.PrintWords Go.Proofs.YtcelhendfjiicaaW.PrintLast Go.Proofs.YtcelhendfjiicaaW.PrintMore
set_option linter.unusedVariables false
set_option linter.unusedSimpArgs false
set_option maxRecDepth 100000

/-- A counter that counts to 2^32 - 1. -/
def ctr (n : Int) : Value := .agg #[.int .u32 n, .int .u32 4294967295]
def up (n k : Int) : Int := n + min k (4294967295 - n)
attribute [local go_sem] gb_max2 gb_min2 gb_max_two gb_min_two gb_max_three gb_min_three

theorem newc_any (w : World) :
    Calls Try.prog 41 #[.int .u32 4294967295] w fun e w' => e = .returned (ctr 0) ∧ Below w.heap.size w w' := by
  go_enter Try.func41, Try.ntmps41
  go_wp2_with fail
  refine bodyPost_ret (results_cell_row rfl _ _ w.heap.size 81 #[.int .u32 0, .int .u32 4294967295] (0, 0) _ rfl (heap_alloc_new _ _) Try.underlying81 rfl (by kernel_rfl)) rfl ?_
  exact ⟨rfl, below_alloc (Below.refl _ w) _⟩

theorem up_any (n k : Int) (w : World) (h0 : 0 ≤ n) (h1 : n ≤ 4294967295) (k0 : 0 ≤ k) (k1 : k ≤ 4294967295) :
    Calls Try.prog 43 #[ctr n, .int .u32 k] w fun e w' => e = .returned (ctr (up n k)) ∧ Below w.heap.size w w' := by
  unfold ctr
  go_enter Try.func43, Try.ntmps43
  go_wp2_with fail
  refine bodyPost_ret (results_cell_row rfl _ _ (w.heap.size + 1) 81 #[.int .u32 (n + min k (4294967295 - n)), .int .u32 4294967295] (0, 0) _ rfl (heap_alloc2_new _ _ _) Try.underlying81 rfl (by kernel_rfl)) rfl ?_
  exact ⟨rfl, below_alloc (below_alloc (Below.refl _ w) _) _⟩

theorem n_any (n : Int) (w : World) :
    Calls Try.prog 57 #[ctr n] w fun e w' => e = .returned (.int .u32 n) ∧ Below w.heap.size w w' := by
  unfold ctr
  go_enter Try.func57, Try.ntmps57
  go_wp2_with fail
  go_ret
  exact ⟨rfl, below_alloc (Below.refl _ w) _⟩

end Go.Proofs.Ytcelhendfjiicaa
