/- Plain laws of vec.Soft. -/
import Derived.Test.YtgedmelohiajjaaGbLaw8
namespace Go.Proofs.Ytgedmelohiajjaa
set_option linter.unusedVariables false
set_option linter.unusedSimpArgs false

theorem fep_mono {f g : Int} (h0 : 0 ≤ f) (h : f ≤ g) (h1 : g ≤ 65535) : fep f ≤ fep g := by
  unfold fep
  have h2 : 43691 + f * 21845 / 65536 ≤ 43691 + g * 21845 / 65536 := by omega
  have h3 : f * (43691 + f * 21845 / 65536) ≤ g * (43691 + g * 21845 / 65536) := Int.mul_le_mul h h2 (by omega) (by omega)
  generalize f * (43691 + f * 21845 / 65536) = a at *
  generalize g * (43691 + g * 21845 / 65536) = b at *
  omega
theorem ediv_anti {p a c : Int} (hp : 0 ≤ p) (hc : 0 < c) (h : c ≤ a) : p / a ≤ p / c := by
  refine Int.le_ediv_of_mul_le hc ?_
  have h1 : p / a * c ≤ p / a * a := Int.mul_le_mul_of_nonneg_left h (Int.ediv_nonneg hp (by omega))
  have h2 : p / a * a ≤ p := Int.ediv_mul_le p (by omega)
  omega
theorem half_le {p q a b : Int} (hb : 0 < b) (ha : 2 * b ≤ a) (hp0 : 0 ≤ p) (hp : p ≤ 131072) (hq : 65536 ≤ q) : p / a ≤ q / b := by
  have h1 : p / a ≤ p / (2 * b) := ediv_anti hp0 (by omega) ha
  have h2 : p / (2 * b) ≤ 131072 / (2 * b) := Int.ediv_le_ediv (by omega) hp
  have h3 : (131072 : Int) / (2 * b) = 65536 / b := by
    rw [show (131072 : Int) = 2 * 65536 from rfl, Int.mul_ediv_mul_of_pos _ _ (by decide)]
  have h4 : 65536 / b ≤ q / b := Int.ediv_le_ediv hb hq
  omega
theorem pow_succ_le (m n : Nat) (h : m < n) : 2 * (2 : Int) ^ m ≤ 2 ^ n := by
  have : (2 : Nat) ^ (m + 1) ≤ 2 ^ n := Nat.pow_le_pow_right (by decide) h
  have h2 : ((2 ^ (m + 1) : Nat) : Int) ≤ ((2 ^ n : Nat) : Int) := by exact_mod_cast this
  rw [Nat.pow_succ] at h2
  push_cast at h2
  omega
theorem pow_pos' (m : Nat) : (0 : Int) < 2 ^ m := Int.pow_pos (by decide)
/-- Exp of what is not above 0. -/
theorem fexp_neg {z : Int} (h : wi z ≤ 0) : 0 ≤ fexp z ∧ fexp z ≤ 65536 := by
  have hl := wi_lo z
  unfold fexp fey
  generalize hy : wi z * 94548 / 65536 = y
  have hy0 : y ≤ 0 := by omega
  have hf := fep_in (y % 65536) (by omega) (by omega)
  rw [if_neg (by omega)]
  by_cases hk : 0 ≤ y / 65536
  · have : y = 0 := by omega
    subst this
    rw [if_pos hk]
    decide
  · rw [if_neg hk]
    have h1 := pow_succ_le 0 (min (-(y / 65536)) 62).toNat (by omega)
    constructor
    · exact Int.ediv_nonneg (by omega) (by omega)
    · have := half_le (p := fep (y % 65536)) (q := 65536) (a := 2 ^ (min (-(y / 65536)) 62).toNat) (b := 1) (by omega) (by simpa using h1) (by omega) (by omega) (by omega)
      simpa using this
theorem fexp_mono {z u : Int} (h : wi z ≤ wi u) (hu : wi u ≤ 0) : fexp z ≤ fexp u := by
  have hz := fexp_neg (z := z) (by omega)
  have hl := wi_lo z
  unfold fexp fey at *
  generalize hy : wi z * 94548 / 65536 = y at *
  generalize hv : wi u * 94548 / 65536 = v at *
  have hyv : y ≤ v := by omega
  have hv0 : v ≤ 0 := by omega
  have hf := fep_in (y % 65536) (by omega) (by omega)
  have hg := fep_in (v % 65536) (by omega) (by omega)
  rw [if_neg (by omega)] at *
  rw [if_neg (by omega : ¬ 16 ≤ v / 65536)]
  by_cases hk : 0 ≤ v / 65536
  · have : v = 0 := by omega
    subst this
    rw [if_pos hk, show wi (fep (0 % 65536) * 2 ^ (0 / 65536 : Int).toNat) = 65536 by decide]
    exact hz.2
  · rw [if_neg hk]
    rw [if_neg (by omega : ¬ 0 ≤ y / 65536)]
    by_cases he : y / 65536 = v / 65536
    · rw [he]
      exact Int.ediv_le_ediv (pow_pos' _) (fep_mono (by omega) (by omega) (by omega))
    · by_cases hbig : 62 ≤ -(v / 65536)
      · rw [show (min (-(y / 65536)) 62).toNat = (min (-(v / 65536)) 62).toNat by omega]
        rw [pow_big _ _ (by omega) (by omega) (by omega), pow_big _ _ (by omega) (by omega) (by omega)]
        exact Int.le_refl _
      · exact half_le (pow_pos' _) (pow_succ_le _ _ (by omega)) (by omega) (by omega) (by omega)
theorem maxTo_ge (xs : List Int) (n : Nat) : ∀ j, j ≤ n → xs.getD j 0 ≤ maxTo xs n := by
  induction n with
  | zero => intro j hj; obtain rfl : j = 0 := by omega
            exact Int.le_refl _
  | succ n ih =>
    intro j hj
    simp only [maxTo]
    by_cases e : j = n + 1
    · subst e; omega
    · have := ih j (by omega); omega
theorem maxTo_is (xs : List Int) (n : Nat) : ∃ j, j ≤ n ∧ xs.getD j 0 = maxTo xs n := by
  induction n with
  | zero => exact ⟨0, by omega, rfl⟩
  | succ n ih =>
    obtain ⟨j, h1, h2⟩ := ih
    simp only [maxTo]
    by_cases c : maxTo xs n ≤ xs.getD (n + 1) 0
    · exact ⟨n + 1, by omega, by omega⟩
    · exact ⟨j, by omega, by omega⟩
theorem vmax_ge (xs : List Int) (j : Nat) (h : j < xs.length) : xs.getD j 0 ≤ vmax xs := maxTo_ge xs _ j (by omega)
theorem vexp_arg (xs : List Int) (j : Nat) (h : j < xs.length) : wi (fadd (xs.getD j 0) (-(wi (vmax xs)))) ≤ 0 := by
  have h1 := wi_mono (vmax_ge xs j h)
  have h2 := wi_lo (vmax xs); have h3 := wi_hi (vmax xs)
  have h4 := wi_lo (xs.getD j 0)
  unfold fadd
  rw [wi_wi]
  generalize wi (vmax xs) = t at *
  generalize wi (xs.getD j 0) = x at *
  unfold wi
  omega
theorem vexp_in (xs : List Int) (j : Nat) (h : j < xs.length) : 0 ≤ vexp xs j ∧ vexp xs j ≤ 65536 := fexp_neg (vexp_arg xs j h)
theorem vexp_mono (xs : List Int) (i k : Nat) (hi : i < xs.length) (hk : k < xs.length) (h : wi (xs.getD i 0) ≤ wi (xs.getD k 0)) : vexp xs i ≤ vexp xs k := by
  refine fexp_mono ?_ (vexp_arg xs k hk)
  unfold fadd
  rw [wi_wi, wi_wi]
  exact wi_mono (by omega)
theorem sumTo_is (f : Nat → Int) (n : Nat) (hn : n ≤ 4096) : (∀ j, j < n → 0 ≤ f j ∧ f j ≤ 65536) → 0 ≤ sumTo f n ∧ sumTo f n ≤ (n : Int) * 65536 ∧ ∀ j, j < n → f j ≤ sumTo f n := by
  induction n with
  | zero => intro _; exact ⟨by simp [sumTo], by simp [sumTo], fun j hj => absurd hj (Nat.not_lt_zero _)⟩
  | succ n ih =>
    intro h
    obtain ⟨h1, h2, h3⟩ := ih (by omega) (fun j hj => h j (by omega))
    have h4 := h n (by omega)
    have e : sumTo f (n + 1) = sumTo f n + f n := by
      simp only [sumTo]
      unfold fadd
      rw [wi_id (sumTo f n) (by omega) (by omega), wi_id (f n) (by omega) (by omega), wi_id _ (by omega) (by omega)]
    rw [e]
    refine ⟨by omega, by push_cast; omega, fun j hj => ?_⟩
    by_cases c : j = n
    · subst c; omega
    · have := h3 j (by omega); omega
theorem vsum_pos (xs : List Int) (hn : xs.length ≤ 4096) (hp : 0 < xs.length) : 0 < sumTo (vexp xs) xs.length := by
  obtain ⟨j, h1, h2⟩ := maxTo_is xs (xs.length - 1)
  have h3 := (sumTo_is (vexp xs) xs.length hn (fun j hj => vexp_in xs j hj)).2.2 j (by omega)
  have h4 : 65534 ≤ vexp xs j := by
    have e : wi (xs.getD j 0) = wi (vmax xs) := by unfold vmax; rw [h2]
    have h5 := wi_lo (vmax xs); have h6 := wi_hi (vmax xs)
    have h7 : wi (fadd (xs.getD j 0) (-(wi (vmax xs)))) = 0 ∨ wi (fadd (xs.getD j 0) (-(wi (vmax xs)))) = -1 := by
      unfold fadd
      rw [wi_wi, e]
      generalize wi (vmax xs) = t at *
      unfold wi; omega
    unfold vexp
    have key : ∀ z : Int, wi z = 0 ∨ wi z = -1 → 65534 ≤ fexp z := by
      intro z hz
      unfold fexp fey
      rcases hz with hz | hz <;> rw [hz] <;> decide
    exact key _ h7
  omega
theorem fdiv_pos {e S : Int} (h0 : 0 ≤ e) (h1 : e ≤ 65536) (hS : 0 < S) (hS1 : S ≤ 2147483647) : fdiv e S = wi (e * 65536 / S) := by
  unfold fdiv
  rw [wi_id S (by omega) (by omega), wi_id e (by omega) (by omega), if_neg (by omega)]
  unfold ffl
  rw [Int.fdiv_eq_ediv_of_nonneg _ (by omega)]
/-- The law of vec.Soft. -/
theorem vsoft_law (xs : List Int) (hn : xs.length ≤ 4096) (i : Nat) (hi : i < xs.length) :
    0 ≤ (vsoft xs).getD i 0 ∧ (vsoft xs).getD i 0 ≤ 65536 ∧ ∀ k, k < xs.length → wi (xs.getD i 0) ≤ wi (xs.getD k 0) → (vsoft xs).getD i 0 ≤ (vsoft xs).getD k 0 := by
  have hs := sumTo_is (vexp xs) xs.length hn (fun j hj => vexp_in xs j hj)
  have hp := vsum_pos xs hn (by omega)
  have hi1 := vexp_in xs i hi
  have hle := hs.2.2 i hi
  unfold vsoft
  rw [tab_get _ _ _ hi, fdiv_pos hi1.1 hi1.2 hp (by omega)]
  have e1 : 0 ≤ vexp xs i * 65536 / sumTo (vexp xs) xs.length := Int.ediv_nonneg (by omega) (by omega)
  have e2 : vexp xs i * 65536 / sumTo (vexp xs) xs.length ≤ 65536 := by
    have : vexp xs i * 65536 / sumTo (vexp xs) xs.length ≤ (65536 * sumTo (vexp xs) xs.length) / sumTo (vexp xs) xs.length := Int.ediv_le_ediv hp (by omega)
    rwa [Int.mul_ediv_cancel _ (by omega)] at this
  refine ⟨by unfold wi; omega, by unfold wi; omega, fun k hk h => ?_⟩
  have hk1 := vexp_in xs k hk
  rw [tab_get _ _ _ hk, fdiv_pos hk1.1 hk1.2 hp (by omega)]
  refine wi_mono (Int.ediv_le_ediv hp ?_)
  have := vexp_mono xs i k hi hk h
  omega

end Go.Proofs.Ytgedmelohiajjaa
