/- Sorting whole numbers of 64 bits: partitionEqual. -/
import Derived.Test.YtmbhicjjbgbneaaSuF
namespace Go.Proofs.Ytmbhicjjbgbneaa
open Go.RowKit Go.Shelf Go.Proofs.YtmbhicjjbgbneaaW.PrintWords Go.Proofs.YtmbhicjjbgbneaaW.PrintLast Go.Proofs.YtmbhicjjbgbneaaW.PrintMore
set_option linter.unusedVariables false
set_option linter.unusedSimpArgs false
set_option maxRecDepth 100000
section
variable {W W' : World} {g n c : Nat} {d : Array Int}
theorem scanUp_step (p : Int → Bool) (d : Array Int) (j i : Nat) : Sort.scanUp p d j i = if i ≤ j ∧ p d[i]! = true then Sort.scanUp p d j (i + 1) else i := by
  rw [Sort.scanUp]
  by_cases h : i ≤ j ∧ p d[i]! = true
  · rw [if_pos (by simpa using h), if_pos h]
  · rw [if_neg (by simpa using h), if_neg h]
theorem scanUp_ge (p : Int → Bool) (d : Array Int) (j i : Nat) : i ≤ Sort.scanUp p d j i ∧ (i ≤ j + 1 → Sort.scanUp p d j i ≤ j + 1) := by
  fun_induction Sort.scanUp p d j i with
  | case1 i h ih => simp_all; omega
  | case2 i h => exact ⟨Nat.le_refl _, fun h => h⟩
theorem scanDown_le (p : Int → Bool) (d : Array Int) (i j : Nat) : Sort.scanDown p d i j ≤ j ∧ (1 ≤ i → i ≤ j + 1 → i ≤ Sort.scanDown p d i j + 1) := by
  induction j with
  | zero => exact ⟨Nat.le_refl _, fun h1 h2 => by unfold Sort.scanDown; omega⟩
  | succ j ih =>
    unfold Sort.scanDown
    split
    · rename_i h
      simp at h
      exact ⟨by omega, fun h1 h2 => ih.2 h1 (by omega)⟩
    · exact ⟨Nat.le_refl _, fun h1 h2 => h2⟩
end
end Go.Proofs.Ytmbhicjjbgbneaa
