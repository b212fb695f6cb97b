/- Plain law of the heap: what vec.Top hands back. -/
import Derived.Test.YtgedmelohiajjaaGbI
namespace Go.Proofs.Ytgedmelohiajjaa
set_option linter.unusedVariables false
set_option linter.unusedSimpArgs false

/-! The order of places is a strict total order on places with different numbers. -/
theorem ahd_iff (p q : Int × Int) : ahd p q = true ↔ (q.2 < p.2 ∨ (p.2 = q.2 ∧ p.1 < q.1)) := by
  unfold ahd; simp
theorem ahd_irrefl (p : Int × Int) : ahd p p = false := by
  rw [Bool.eq_false_iff]; intro h; rw [ahd_iff] at h; omega
theorem ahd_trans {p q r : Int × Int} (h : ahd p q = true) (k : ahd q r = true) : ahd p r = true := by
  rw [ahd_iff] at *; omega
theorem ahd_asymm {p q : Int × Int} (h : ahd p q = true) : ahd q p = false := by
  rw [Bool.eq_false_iff]; intro k; rw [ahd_iff] at *; omega
theorem ahd_total {p q : Int × Int} (h : ahd p q = false) : ahd q p = true ∨ p = q := by
  rw [Bool.eq_false_iff, ne_eq, ahd_iff] at h
  by_cases e : p = q
  · exact .inr e
  · left; rw [ahd_iff]
    have : p.1 ≠ q.1 ∨ p.2 ≠ q.2 := by
      by_cases e1 : p.1 = q.1
      · right; intro e2; exact e (Prod.ext e1 e2)
      · exact .inl e1
    omega
/-- p is behind q, or is q. -/
def bhd (p q : Int × Int) : Prop := ahd p q = false
theorem bhd_refl (p : Int × Int) : bhd p p := ahd_irrefl p
theorem bhd_trans {p q r : Int × Int} (h : bhd p q) (k : bhd q r) : bhd p r := by
  unfold bhd at *
  rcases ahd_total h with h | rfl
  · rcases ahd_total k with k | rfl
    · exact ahd_asymm (ahd_trans k h)
    · exact ahd_asymm h
  · exact k
theorem bhd_total (p q : Int × Int) : bhd p q ∨ bhd q p := by
  unfold bhd
  by_cases h : ahd p q = true
  · exact .inr (ahd_asymm h)
  · exact .inl (by simpa using h)
theorem bhd_antisymm {p q : Int × Int} (h : bhd p q) (k : bhd q p) : p = q := by
  rcases ahd_total h with h | h
  · rw [show ahd q p = false from k] at h; cases h
  · exact h

/-! Swapping two elements. -/
theorem getD_set (L : List (Int × Int)) (i j : Nat) (v : Int × Int) (hi : i < L.length) : (L.set i v).getD j (0, 0) = if i = j then v else L.getD j (0, 0) := by
  simp only [List.getD_eq_getElem?_getD, List.getElem?_set]
  by_cases h : i = j
  · subst h; simp [hi]
  · simp [h]
theorem swp_get (L : List (Int × Int)) (i j k : Nat) (hi : i < L.length) (hj : j < L.length) :
    (swp L i j).getD k (0, 0) = if k = j then L.getD i (0, 0) else if k = i then L.getD j (0, 0) else L.getD k (0, 0) := by
  unfold swp
  rw [getD_set _ _ _ _ (by simpa using hj), getD_set _ _ _ _ hi]
  by_cases h1 : k = j
  · subst h1; simp
  · have h1' : j ≠ k := fun e => h1 e.symm
    simp only [if_neg h1, if_neg h1']
    by_cases h2 : k = i
    · subst h2; simp
    · have h2' : i ≠ k := fun e => h2 e.symm
      simp only [if_neg h2, if_neg h2']
theorem swp_perm (L : List (Int × Int)) (i j : Nat) (hi : i < L.length) (hj : j < L.length) : (swp L i j).Perm L := by
  have e : swp L i j = (L.set i L[j]).set j L[i] := by
    unfold swp
    simp [List.getD_eq_getElem?_getD, hi, hj]
  rw [e]
  exact List.set_set_perm hi hj
theorem swp_take (L : List (Int × Int)) (i j n : Nat) (hi : i < n) (hj : j < n) (hn : n ≤ L.length) : (swp L i j).take n = swp (L.take n) i j := by
  unfold swp
  rw [List.take_set, List.take_set]
  congr 1
  · congr 1
    simp only [List.getD_eq_getElem?_getD, List.getElem?_take]
    rw [if_pos hj]
  · simp only [List.getD_eq_getElem?_getD, List.getElem?_take]
    rw [if_pos hi]

/-! The heap's order: a parent is behind its children. -/
def par (j : Nat) : Nat := (j - 1) / 2
/-- Among the first n, each parent but at place x is behind its child. -/
def HpX (L : List (Int × Int)) (n : Nat) (x : Nat) : Prop := ∀ j, 0 < j → j < n → j ≠ x → bhd (L.getD (par j) (0, 0)) (L.getD j (0, 0))
def Hp (L : List (Int × Int)) (n : Nat) : Prop := ∀ j, 0 < j → j < n → bhd (L.getD (par j) (0, 0)) (L.getD j (0, 0))

theorem hup_perm (j : Nat) : ∀ L : List (Int × Int), j < L.length → (hup L j).Perm L := by
  induction j using Nat.strongRecOn with
  | _ j ih =>
    intro L hj
    rw [hup]
    split
    · exact List.Perm.refl _
    · split
      · exact (ih _ (by omega) _ (by rw [swp_len]; omega)).trans (swp_perm _ _ _ (by omega) hj)
      · exact List.Perm.refl _
/-- up makes a heap, where all but the pair at j are in order, and j's children are behind j's parent. -/
theorem hup_hp (j : Nat) : ∀ L : List (Int × Int), j < L.length → HpX L L.length j → (0 < j → ∀ c, c < L.length → 0 < c → par c = j → bhd (L.getD (par j) (0, 0)) (L.getD c (0, 0))) → Hp (hup L j) L.length := by
  induction j using Nat.strongRecOn with
  | _ j ih =>
    intro L hj hx hc
    rw [hup]
    split
    · rename_i h0
      subst h0
      intro c h1 h2
      exact hx c h1 h2 (by omega)
    · rename_i h0
      have hp : (j - 1) / 2 = par j := rfl
      rw [hp]
      have hpj : par j < j := by unfold par; omega
      split
      · rename_i ha
        have hlen := swp_len L (par j) j
        rw [← hlen]
        refine ih (par j) hpj _ (by rw [hlen]; omega) ?_ ?_
        · intro c h1 h2 h3
          rw [hlen] at h2
          rw [swp_get _ _ _ _ (by omega) hj, swp_get _ _ _ _ (by omega) hj]
          by_cases e1 : c = j
          · subst e1
            rw [if_pos rfl, if_neg (by omega), if_pos rfl]
            exact ahd_asymm ha
          · rw [if_neg e1, if_neg h3]
            by_cases e2 : par c = j
            · rw [if_pos e2]
              exact hc (by omega) c h2 h1 e2
            · rw [if_neg e2]
              by_cases e3 : par c = par j
              · rw [if_pos e3]
                have h5 := hx c h1 h2 e1
                rw [e3] at h5
                exact bhd_trans (ahd_asymm ha) h5
              · rw [if_neg e3]
                exact hx c h1 h2 e1
        · intro h4 c h2 h1 e
          rw [hlen] at h2
          have hpp : par (par j) < par j := by unfold par at *; omega
          rw [swp_get _ _ _ _ (by omega) hj, swp_get _ _ _ _ (by omega) hj]
          rw [if_neg (by omega), if_neg (by omega)]
          have h6 := hx (par j) (by omega) (by omega) (by omega)
          by_cases e1 : c = j
          · rw [if_pos e1]; exact h6
          · have e2 : c ≠ par j := by intro e2; subst e2; omega
            rw [if_neg e1, if_neg e2]
            have h7 := hx c h1 h2 e1
            rw [e] at h7
            exact bhd_trans h6 h7
      · rename_i ha
        intro c h1 h2
        by_cases e : c = j
        · subst e; unfold bhd; simpa [hp] using ha
        · exact hx c h1 h2 e

theorem hkid_cases (L : List (Int × Int)) (i n : Nat) (h : ¬ n ≤ 2 * i + 1) : (hkid L i n = 2 * i + 1 ∨ (hkid L i n = 2 * i + 2 ∧ 2 * i + 2 < n)) ∧ ∀ c, 0 < c → c < n → par c = i → bhd (L.getD (hkid L i n) (0, 0)) (L.getD c (0, 0)) := by
  have hpc : ∀ c, 0 < c → par c = i → c = 2 * i + 1 ∨ c = 2 * i + 2 := by intro c h1 h2; unfold par at h2; omega
  unfold hkid
  split
  · rename_i hh
    refine ⟨.inr ⟨rfl, hh.1⟩, fun c h1 h2 h3 => ?_⟩
    rcases hpc c h1 h3 with rfl | rfl
    · exact ahd_asymm hh.2
    · exact bhd_refl _
  · rename_i hh
    refine ⟨.inl rfl, fun c h1 h2 h3 => ?_⟩
    rcases hpc c h1 h3 with rfl | rfl
    · exact bhd_refl _
    · unfold bhd
      rw [Bool.eq_false_iff]
      intro h4
      exact hh ⟨h2, h4⟩
theorem hdown_perm (m : Nat) : ∀ (L : List (Int × Int)) (i n : Nat), n - i = m → n ≤ L.length → (hdown L i n).Perm L ∧ (hdown L i n).drop n = L.drop n := by
  induction m using Nat.strongRecOn with
  | _ m ih =>
    intro L i n hm hn
    rw [hdown]
    split
    · exact ⟨List.Perm.refl _, rfl⟩
    · rename_i h0
      have hk := hkid_cases L i n h0
      have hl := hkid_lt L i n
      split
      · obtain ⟨h1, h2⟩ := ih (n - hkid L i n) (by omega) (swp L i (hkid L i n)) (hkid L i n) n rfl (by rw [swp_len]; exact hn)
        refine ⟨h1.trans (swp_perm _ _ _ (by omega) (by omega)), h2.trans ?_⟩
        unfold swp
        rw [List.drop_set_of_lt (by omega), List.drop_set_of_lt (by omega)]
      · exact ⟨List.Perm.refl _, rfl⟩
/-- down makes a heap, where all but the pairs below i are in order, and i's children are behind i's parent. -/
theorem hdown_hp (m : Nat) : ∀ (L : List (Int × Int)) (i n : Nat), n - i = m → n ≤ L.length → (∀ j, 0 < j → j < n → par j ≠ i → bhd (L.getD (par j) (0, 0)) (L.getD j (0, 0))) → (0 < i → ∀ c, c < n → 0 < c → par c = i → bhd (L.getD (par i) (0, 0)) (L.getD c (0, 0))) → Hp (hdown L i n) n := by
  induction m using Nat.strongRecOn with
  | _ m ih =>
    intro L i n hm hn hx hc
    rw [hdown]
    split
    · rename_i h0
      intro j h1 h2
      refine hx j h1 h2 ?_
      unfold par; omega
    · rename_i h0
      obtain ⟨hk1, hk2⟩ := hkid_cases L i n h0
      have hl := hkid_lt L i n
      obtain ⟨k, hk⟩ : ∃ k, hkid L i n = k := ⟨_, rfl⟩
      rw [hk] at hk1 hk2 hl ⊢
      have hkn : k < n := by omega
      have hpk : par k = i := by unfold par; omega
      split
      · rename_i ha
        refine ih (n - k) (by omega) _ k n rfl (by rw [swp_len]; exact hn) ?_ ?_
        · intro j h1 h2 h3
          rw [swp_get _ _ _ _ (by omega) (by omega), swp_get _ _ _ _ (by omega) (by omega), if_neg h3]
          by_cases e1 : j = k
          · subst e1
            rw [if_pos rfl, if_pos hpk]
            exact ahd_asymm ha
          · rw [if_neg e1]
            by_cases e2 : par j = i
            · rw [if_pos e2, if_neg (by unfold par at e2; omega)]
              exact hk2 j h1 h2 e2
            · rw [if_neg e2]
              by_cases e3 : j = i
              · subst e3
                rw [if_pos rfl]
                exact hc h1 k hkn (by omega) hpk
              · rw [if_neg e3]
                exact hx j h1 h2 e2
        · intro h4 c h2 h1 e
          rw [hpk, swp_get _ _ _ _ (by omega) (by omega), swp_get _ _ _ _ (by omega) (by omega), if_neg (by omega), if_pos rfl]
          rw [if_neg (by unfold par at e; omega), if_neg (by unfold par at e; omega)]
          have := hx c h1 h2 (by omega)
          rw [e] at this
          exact this
      · rename_i ha
        intro j h1 h2
        by_cases e : par j = i
        · rw [e]
          have h5 := hk2 j h1 h2 e
          refine bhd_trans ?_ h5
          unfold bhd; simpa using ha
        · exact hx j h1 h2 e
/-- A heap's top is behind all. -/
theorem hp_top {L : List (Int × Int)} {n : Nat} (h : Hp L n) (j : Nat) : j < n → bhd (L.getD 0 (0, 0)) (L.getD j (0, 0)) := by
  induction j using Nat.strongRecOn with
  | _ j ih =>
    intro hj
    by_cases e : j = 0
    · subst e; exact bhd_refl _
    · have hp : par j < j := by unfold par; omega
      exact bhd_trans (ih (par j) hp (by omega)) (h j (by omega) hj)

end Go.Proofs.Ytgedmelohiajjaa
