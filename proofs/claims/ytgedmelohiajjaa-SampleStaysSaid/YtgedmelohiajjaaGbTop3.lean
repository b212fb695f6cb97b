/- The document's Top, as a plain function, and that it is the program's. -/
import Derived.Test.YtgedmelohiajjaaGbTop2
namespace Go.Proofs.Ytgedmelohiajjaa
set_option linter.unusedVariables false
set_option linter.unusedSimpArgs false

/-- The greatest one that is left, among the first i. -/
def rbest (xs : List Int) (met : List Bool) : Nat → Int
  | 0 => -1
  | i + 1 => if met.getD i false = false ∧ (rbest xs met i < 0 ∨ wi (xs.getD (rbest xs met i).toNat 0) < wi (xs.getD i 0)) then (i : Int) else rbest xs met i
def rmet (xs : List Int) : Nat → List Bool
  | 0 => List.replicate xs.length false
  | j + 1 => (rmet xs j).set (rbest xs (rmet xs j) xs.length).toNat true
def rout (xs : List Int) (j : Nat) : List Int := tab j fun i => rbest xs (rmet xs i) xs.length
theorem rmet_len (xs : List Int) (j : Nat) : (rmet xs j).length = xs.length := by
  induction j with
  | zero => simp [rmet]
  | succ j ih => simp [rmet, ih]
def plc (xs : List Int) (j : Nat) : Int × Int := ((j : Int), wi (xs.getD j 0))
theorem rbest_spec (xs : List Int) (met : List Bool) (i : Nat) : (rbest xs met i = -1 ∧ ∀ j, j < i → met.getD j false = true) ∨ (∃ b : Nat, rbest xs met i = b ∧ b < i ∧ met.getD b false = false ∧ ∀ j, j < i → met.getD j false = false → bhd (plc xs j) (plc xs b)) := by
  induction i with
  | zero => exact .inl ⟨rfl, fun j hj => absurd hj (Nat.not_lt_zero _)⟩
  | succ i ih =>
    by_cases hm : met.getD i false = false
    · right
      rcases ih with ⟨h1, h2⟩ | ⟨b, h1, h2, h3, h4⟩
      · refine ⟨i, by unfold rbest; rw [if_pos ⟨hm, .inl (by omega)⟩], by omega, hm, fun j hj hj2 => ?_⟩
        by_cases e : j = i
        · subst e; exact bhd_refl _
        · have := h2 j (by omega); rw [hj2] at this; cases this
      · by_cases hc : wi (xs.getD b 0) < wi (xs.getD i 0)
        · refine ⟨i, by unfold rbest; rw [h1, if_pos ⟨hm, .inr (by simpa using hc)⟩], by omega, hm, fun j hj hj2 => ?_⟩
          by_cases e : j = i
          · subst e; exact bhd_refl _
          · refine bhd_trans (h4 j (by omega) hj2) (ahd_asymm ?_)
            rw [ahd_iff]; left; exact hc
        · refine ⟨b, ?_, by omega, h3, fun j hj hj2 => ?_⟩
          · unfold rbest
            rw [h1, if_neg]
            rintro ⟨-, h | h⟩
            · omega
            · exact hc (by simpa using h)
          · by_cases e : j = i
            · subst e
              unfold bhd
              rw [Bool.eq_false_iff]
              intro h
              rw [ahd_iff] at h
              unfold plc at h
              simp only at h
              omega
            · exact h4 j (by omega) hj2
    · have hm' : met.getD i false = true := by simpa using hm
      have he : rbest xs met (i + 1) = rbest xs met i := by
        conv => lhs; unfold rbest
        rw [if_neg (fun h => hm h.1)]
      rw [he]
      rcases ih with ⟨h1, h2⟩ | ⟨b, h1, h2, h3, h4⟩
      · refine .inl ⟨h1, fun j hj => ?_⟩
        by_cases e : j = i
        · subst e; exact hm'
        · exact h2 j (by omega)
      · refine .inr ⟨b, h1, by omega, h3, fun j hj hj2 => ?_⟩
        by_cases e : j = i
        · subst e; rw [hj2] at hm'; cases hm'
        · exact h4 j (by omega) hj2
/-- The places that are left behind j rounds. -/
def lft (xs : List Int) (j : Nat) : List (Int × Int) := ((List.range xs.length).filter fun i => (rmet xs j).getD i false == false).map (plc xs)
theorem getD_setB (L : List Bool) (i j : Nat) (hi : i < L.length) : (L.set i true).getD j false = if i = j then true else L.getD j false := by
  simp only [List.getD_eq_getElem?_getD, List.getElem?_set]
  by_cases h : i = j
  · subst h; simp [hi]
  · simp [h]
theorem filter_out {p q : Nat → Bool} (b : Nat) (hb : p b = true) (hqb : q b = false) (hq : ∀ i, i ≠ b → q i = p i) : ∀ l : List Nat, l.Nodup → b ∈ l → (l.filter p).Perm (b :: l.filter q) := by
  intro l
  induction l with
  | nil => intro _ h; cases h
  | cons a l ih =>
    intro hn hm
    obtain ⟨hn1, hn2⟩ := List.nodup_cons.1 hn
    by_cases e : a = b
    · subst e
      rw [List.filter_cons_of_pos hb, List.filter_cons_of_neg (by simp [hqb])]
      have : l.filter q = l.filter p := List.filter_congr fun i hi => hq i (fun e => hn1 (e ▸ hi))
      rw [this]
    · have hml : b ∈ l := by rcases List.mem_cons.1 hm with h | h; exact absurd h.symm e; exact h
      have := ih hn2 hml
      by_cases hpa : p a = true
      · rw [List.filter_cons_of_pos hpa, List.filter_cons_of_pos (by rw [hq a e]; exact hpa)]
        exact (this.cons a).trans (List.Perm.swap _ _ _)
      · rw [List.filter_cons_of_neg hpa, List.filter_cons_of_neg (by rw [hq a e]; exact hpa)]
        exact this
theorem lft_len_pos (xs : List Int) (j : Nat) (hj : j < xs.length) (hl : (lft xs j).length = xs.length - j) : ∃ b : Nat, rbest xs (rmet xs j) xs.length = b ∧ b < xs.length ∧ (rmet xs j).getD b false = false ∧ (∀ q ∈ lft xs j, bhd q (plc xs b)) ∧ (lft xs j).Perm (plc xs b :: lft xs (j + 1)) := by
  rcases rbest_spec xs (rmet xs j) xs.length with ⟨h1, h2⟩ | ⟨b, h1, h2, h3, h4⟩
  · exfalso
    have : lft xs j = [] := by
      unfold lft
      rw [List.map_eq_nil_iff, List.filter_eq_nil_iff]
      intro i hi
      rw [h2 i (List.mem_range.1 hi)]; simp
    rw [this] at hl
    simp at hl; omega
  · refine ⟨b, h1, h2, h3, ?_, ?_⟩
    · intro q hq
      unfold lft at hq
      obtain ⟨i, hi, rfl⟩ := List.mem_map.1 hq
      obtain ⟨hi1, hi2⟩ := List.mem_filter.1 hi
      exact h4 i (List.mem_range.1 hi1) (by simpa using hi2)
    · unfold lft
      rw [← List.map_cons]
      refine List.Perm.map _ ?_
      have e : rmet xs (j + 1) = (rmet xs j).set b true := by simp only [rmet]; rw [h1]; simp
      rw [e]
      have hb : b < (rmet xs j).length := by rw [rmet_len]; exact h2
      refine filter_out b ?_ ?_ ?_ _ List.nodup_range (List.mem_range.2 h2)
      · simp only [h3]; rfl
      · simp only [getD_setB _ _ _ hb, if_pos rfl]; rfl
      · intro i hi
        have hi2 : b ≠ i := fun e => hi e.symm
        simp only [getD_setB _ _ _ hb, if_neg hi2]
/-- What the document's Top hands back, behind j rounds. -/
theorem rout_inv (xs : List Int) (j : Nat) : j ≤ xs.length → (lft xs j).length = xs.length - j ∧ ∃ T, rout xs j = T.map (·.1) ∧ T.length = j ∧ (pl xs xs.length).Perm (T ++ lft xs j) ∧ T.Pairwise (fun p q => bhd q p) ∧ ∀ p ∈ T, ∀ q ∈ lft xs j, bhd q p := by
  induction j with
  | zero =>
    intro _
    have e : lft xs 0 = pl xs xs.length := by
      unfold lft pl
      rw [List.filter_eq_self.2 (fun i hi => by
        have := List.mem_range.1 hi
        simp [rmet, List.getD_eq_getElem?_getD, this])]
      rfl
    refine ⟨by rw [e]; simp [pl], [], by simp [rout, tab], rfl, by rw [e]; simp, List.Pairwise.nil, by simp⟩
  | succ j ih =>
    intro hj
    obtain ⟨h0, T, h1, h2, h3, h4, h5⟩ := ih (by omega)
    obtain ⟨b, b1, b2, b3, b4, b5⟩ := lft_len_pos xs j (by omega) h0
    refine ⟨by have := b5.length_eq; simp at this; omega, T ++ [plc xs b], ?_, by simp [h2], ?_, ?_, ?_⟩
    · unfold rout at h1 ⊢
      rw [tab_succ, h1, b1]; simp [plc]
    · rw [List.append_assoc]
      exact h3.trans (b5.append_left T)
    · rw [List.pairwise_append]
      refine ⟨h4, List.pairwise_singleton _ _, fun p hp q hq => ?_⟩
      obtain rfl : q = plc xs b := by simpa using hq
      exact h5 p hp _ (b5.mem_iff.2 List.mem_cons_self)
    · intro p hp q hq
      have hq2 : q ∈ lft xs j := b5.mem_iff.2 (List.mem_cons_of_mem _ hq)
      rcases List.mem_append.1 hp with hp | hp
      · exact h5 p hp q hq2
      · obtain rfl : p = plc xs b := by simpa using hp
        exact b4 q hq2
/-- The document's Top is the program's. -/
theorem rtop_vtop (xs : List Int) (k : Int) (j : Nat) (hj : j = min xs.length (max k 0).toNat) : rout xs j = vtop xs k := by
  obtain ⟨-, T, h1, h2, h3, h4, h5⟩ := rout_inv xs j (by omega)
  obtain ⟨T2, g1, g2, g3⟩ := vtop_tops xs k
  rw [h1, g1, tops_unique T T2 _ _ ⟨_, h3, h4, h5⟩ g3 (List.Perm.refl _) (by omega)]

end Go.Proofs.Ytgedmelohiajjaa
