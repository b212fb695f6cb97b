/- Plain laws of the layer vec. -/
import Derived.Test.YtgedmelohiajjaaGbN
namespace Go.Proofs.Ytgedmelohiajjaa
set_option linter.unusedVariables false
set_option linter.unusedSimpArgs false

theorem far2 (xs ys : List Int) (h : farB [xs, ys] = false) : xs.length ≤ 300 ∧ ys.length ≤ 300 := by
  unfold farB at h
  rw [Bool.or_eq_false_iff] at h
  have := of_decide_eq_false h.1
  simp at this
  omega
theorem far1 (xs : List Int) (h : farB [xs] = false) : xs.length ≤ 300 := by
  unfold farB at h
  rw [Bool.or_eq_false_iff] at h
  have := of_decide_eq_false h.1
  simp at this
  omega
theorem fmul_comm (a b : Int) : fmul a b = fmul b a := by unfold fmul; rw [Int.mul_comm]
theorem fadd_comm (a b : Int) : fadd a b = fadd b a := by unfold fadd; rw [Int.add_comm]
theorem dotTo_comm (xs ys : List Int) (n : Nat) : dotTo xs ys n = dotTo ys xs n := by
  induction n with
  | zero => rfl
  | succ n ih => simp only [dotTo]; rw [ih, fmul_comm]
theorem vdot_comm (xs ys : List Int) : vdot xs ys = vdot ys xs := by unfold vdot; rw [dotTo_comm, Nat.min_comm]
theorem vadd_comm (xs ys : List Int) : vadd xs ys = vadd ys xs := by
  unfold vadd; rw [Nat.min_comm]
  exact tab_congr _ _ _ fun i _ => fadd_comm _ _
theorem vadd_len (xs ys : List Int) : (vadd xs ys).length ≤ xs.length := by unfold vadd; rw [tab_len]; omega

end Go.Proofs.Ytgedmelohiajjaa
