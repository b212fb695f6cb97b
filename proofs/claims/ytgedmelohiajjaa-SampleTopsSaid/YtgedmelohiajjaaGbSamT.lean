/- Plain laws of sample.Draw. -/
import Derived.Test.YtgedmelohiajjaaGbSam
namespace Go.Proofs.Ytgedmelohiajjaa
set_option linter.unusedVariables false
set_option linter.unusedSimpArgs false

theorem vdraw_cold (xs : List Int) (top heat seed place : Int) (h : heat < 1) : vdraw xs top heat seed place = vbest xs := by unfold vdraw; rw [if_pos (.inl h)]
theorem vdraw_nil (xs : List Int) (top heat seed place : Int) (h : xs.length = 0) : vdraw xs top heat seed place = -1 := by unfold vdraw; rw [if_pos (.inr h)]; unfold vbest; rw [if_pos h]
theorem vdraw_one (xs : List Int) (heat seed place : Int) (h : 0 < xs.length) : vdraw xs 1 heat seed place = vbest xs := by
  unfold vdraw
  by_cases h1 : heat < 1 ∨ xs.length = 0
  · rw [if_pos h1]
  · rw [if_neg h1]
    have hl : (vtop xs (max 1 1)).length = 1 := by rw [vtop_len]; omega
    have := vpk_lt (vwts xs 1 heat) (vleft xs 1 heat seed place) 1 (by omega)
    rw [hl, show vpk (vwts xs 1 heat) (vleft xs 1 heat seed place) 1 = 0 by omega]
    unfold vbest
    rw [if_neg (by omega)]
    rfl
theorem vdraw_mem (xs : List Int) (top heat seed place : Int) (h : 0 < xs.length) (h1 : ¬ heat < 1) : ∃ j, j < (vtop xs (max top 1)).length ∧ (vtop xs (max top 1)).getD j 0 = vdraw xs top heat seed place := by
  have hl : 0 < (vtop xs (max top 1)).length := by rw [vtop_len]; omega
  refine ⟨_, vpk_lt (vwts xs top heat) (vleft xs top heat seed place) _ hl, ?_⟩
  unfold vdraw
  rw [if_neg (by omega)]

end Go.Proofs.Ytgedmelohiajjaa
