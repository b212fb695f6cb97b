/- Plain functions of the layer sample; Plain laws of sample.Draw. -/
import Derived.Test.YtdfgmdmcdnnhfaaGreatGbHh
import Derived.Test.YtdfgmdmcdnnhfaaGreatGbMx
namespace Go.Proofs.YtdfgmdmcdnnhfaaGreat
set_option linter.unusedVariables false
set_option linter.unusedSimpArgs false
set_option maxRecDepth 100000

def vbest (xs : List Int) : Int := if xs.length = 0 then -1 else (vtop xs 1).getD 0 0
def vheat (xs : List Int) (heat t : Int) : Int := fdiv (fmul (xs.getD t.toNat 0) (fint 4)) (fint heat)
def vsome (xs : List Int) (top heat : Int) : List Int := (vtop xs (max top 1)).map (vheat xs heat)
def wsum (ws : List Int) (i : Nat) : Int := sumTo (fun j => ws.getD j 0) i
def vpk (ws : List Int) (d : Int) (n : Nat) : Nat := ((List.range n).find? fun i => decide (d < wsum ws (i + 1))).getD (n - 1)
def vwts (xs : List Int) (top heat : Int) : List Int := vsoft (vsome xs top heat)
def vleft (xs : List Int) (top heat seed place : Int) : Int := rbelow seed place (wsum (vwts xs top heat) (vtop xs (max top 1)).length)
def vdraw (xs : List Int) (top heat seed place : Int) : Int :=
  if heat < 1 ∨ xs.length = 0 then vbest xs
  else (vtop xs (max top 1)).getD (vpk (vwts xs top heat) (vleft xs top heat seed place) (vtop xs (max top 1)).length) 0

theorem vtop_len (xs : List Int) (k : Int) : (vtop xs k).length = min xs.length (max k 0).toNat := by
  obtain ⟨T, h1, h2, -⟩ := vtop_tops xs k
  rw [h1, List.length_map, h2]
theorem vtop_in (xs : List Int) (k : Int) (j : Nat) (hj : j < (vtop xs k).length) : ∃ p : Nat, p < xs.length ∧ (vtop xs k).getD j 0 = p := by
  obtain ⟨T, h1, h2, R, h3, -⟩ := vtop_tops xs k
  rw [h1] at hj ⊢
  have hj2 : j < T.length := by simpa using hj
  have hm : T[j] ∈ pl xs xs.length := h3.symm.subset (List.mem_append_left _ (List.getElem_mem hj2))
  unfold pl at hm
  obtain ⟨p, hp, he⟩ := List.mem_map.1 hm
  refine ⟨p, by simpa using hp, ?_⟩
  rw [List.getD_eq_getElem?_getD, List.getElem?_map, List.getElem?_eq_getElem hj2, ← he]; rfl
theorem vpk_hit (ws : List Int) (d : Int) (n k : Nat) (hk : k < n) (h : ∀ j, j < k → wsum ws (j + 1) ≤ d) (hd : d < wsum ws (k + 1)) : vpk ws d n = k := by
  unfold vpk
  have : (List.range n).find? (fun i => decide (d < wsum ws (i + 1))) = some k := by
    rw [List.find?_eq_some_iff_append]
    refine ⟨by simpa using hd, List.range k, (List.range' (k + 1) (n - (k + 1))), ?_, fun j hj => ?_⟩
    · rw [List.range_eq_range', List.range_eq_range', show n = k + (1 + (n - (k + 1))) by omega, ← List.range'_append_1, ← List.range'_append_1]
      simp; omega
    · have := h j (by simpa using hj)
      simp; omega
  rw [this]; rfl
theorem vpk_none (ws : List Int) (d : Int) (n : Nat) (h : ∀ j, j < n → wsum ws (j + 1) ≤ d) : vpk ws d n = n - 1 := by
  unfold vpk
  have : (List.range n).find? (fun i => decide (d < wsum ws (i + 1))) = none := by
    rw [List.find?_eq_none]
    intro j hj
    have := h j (by simpa using hj)
    simp; omega
  rw [this]; rfl
theorem vpk_lt (ws : List Int) (d : Int) (n : Nat) (hn : 0 < n) : vpk ws d n < n := by
  unfold vpk
  cases h : (List.range n).find? (fun i => decide (d < wsum ws (i + 1))) with
  | none => simp; omega
  | some k => simpa using List.mem_range.1 (List.mem_of_find?_eq_some h)
theorem vsome_len (xs : List Int) (top heat : Int) : (vsome xs top heat).length = (vtop xs (max top 1)).length := by unfold vsome; rw [List.length_map]
theorem vsoft_len (ys : List Int) : (vsoft ys).length = ys.length := by unfold vsoft; rw [tab_len]
/-- Sums of weights are plain. -/
theorem wsum_is (ys : List Int) (hn : ys.length ≤ 4096) (i : Nat) (hi : i ≤ ys.length) : 0 ≤ wsum (vsoft ys) i ∧ wsum (vsoft ys) i ≤ 268435456 ∧ (i < ys.length → wsum (vsoft ys) (i + 1) = wsum (vsoft ys) i + (vsoft ys).getD i 0 ∧ 0 ≤ (vsoft ys).getD i 0 ∧ (vsoft ys).getD i 0 ≤ 65536) := by
  have h := sumTo_is (fun j => (vsoft ys).getD j 0) i (by omega) (fun j hj => ⟨(vsoft_law ys hn j (by omega)).1, (vsoft_law ys hn j (by omega)).2.1⟩)
  unfold wsum
  refine ⟨h.1, by omega, fun hl => ?_⟩
  have h2 := vsoft_law ys hn i hl
  refine ⟨?_, h2.1, h2.2.1⟩
  show fadd (sumTo (fun j => (vsoft ys).getD j 0) i) ((vsoft ys).getD i 0) = sumTo (fun j => (vsoft ys).getD j 0) i + (vsoft ys).getD i 0
  have h3 := h.1
  have h4 := h.2.1
  have h5 := h2.1
  have h6 := h2.2.1
  obtain ⟨a, ha⟩ : ∃ a, sumTo (fun j => (vsoft ys).getD j 0) i = a := ⟨_, rfl⟩
  obtain ⟨b, hb⟩ : ∃ b, (vsoft ys).getD i 0 = b := ⟨_, rfl⟩
  rw [ha] at h3 h4 ⊢
  rw [hb] at h5 h6 ⊢
  unfold fadd
  rw [wi_id a (by omega) (by omega), wi_id b (by omega) (by omega), wi_id (a + b) (by omega) (by omega)]
theorem rbelow_range (s n t : Int) (h0 : 0 ≤ t) (h1 : t ≤ 268435456) : 0 ≤ rbelow s n t ∧ rbelow s n t ≤ 268435456 := by
  unfold rbelow mhi
  have h := rat_range s n
  have h2 := Int.mul_nonneg h.1 h0
  have h3 : rat s n * t ≤ 18446744073709551615 * 268435456 := Int.le_trans (Int.mul_le_mul_of_nonneg_right h.2 h0) (Int.mul_le_mul_of_nonneg_left h1 (by omega))
  omega

end Go.Proofs.YtdfgmdmcdnnhfaaGreat

namespace Go.Proofs.YtdfgmdmcdnnhfaaGreat
set_option linter.unusedVariables false
set_option linter.unusedSimpArgs false
set_option maxRecDepth 100000

theorem vdraw_cold (xs : List Int) (top heat seed place : Int) (h : heat < 1) : vdraw xs top heat seed place = vbest xs := by unfold vdraw; rw [if_pos (.inl h)]
theorem vdraw_nil (xs : List Int) (top heat seed place : Int) (h : xs.length = 0) : vdraw xs top heat seed place = -1 := by unfold vdraw; rw [if_pos (.inr h)]; unfold vbest; rw [if_pos h]
theorem vdraw_one (xs : List Int) (heat seed place : Int) (h : 0 < xs.length) : vdraw xs 1 heat seed place = vbest xs := by
  unfold vdraw
  by_cases h1 : heat < 1 ∨ xs.length = 0
  · rw [if_pos h1]
  · rw [if_neg h1]
    have hl : (vtop xs (max 1 1)).length = 1 := by rw [vtop_len]; omega
    have := vpk_lt (vwts xs 1 heat) (vleft xs 1 heat seed place) 1 (by omega)
    rw [hl, show vpk (vwts xs 1 heat) (vleft xs 1 heat seed place) 1 = 0 by omega]
    unfold vbest
    rw [if_neg (by omega)]
    rfl
theorem vdraw_mem (xs : List Int) (top heat seed place : Int) (h : 0 < xs.length) (h1 : ¬ heat < 1) : ∃ j, j < (vtop xs (max top 1)).length ∧ (vtop xs (max top 1)).getD j 0 = vdraw xs top heat seed place := by
  have hl : 0 < (vtop xs (max top 1)).length := by rw [vtop_len]; omega
  refine ⟨_, vpk_lt (vwts xs top heat) (vleft xs top heat seed place) _ hl, ?_⟩
  unfold vdraw
  rw [if_neg (by omega)]

end Go.Proofs.YtdfgmdmcdnnhfaaGreat
