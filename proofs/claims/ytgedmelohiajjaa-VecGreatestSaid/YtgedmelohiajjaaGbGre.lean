/- The law of vec.Top's greatest ones, in plain Lean. -/
import Derived.Test.YtgedmelohiajjaaGbTop3
namespace Go.Proofs.Ytgedmelohiajjaa
set_option linter.unusedVariables false
set_option linter.unusedSimpArgs false

/-- Which places were met in the first i of the list. -/
def gmet (n : Nat) (ss : List Int) : Nat → List Bool
  | 0 => List.replicate n false
  | i + 1 => (gmet n ss i).set (ss.getD i 0).toNat true
theorem gmet_len (n : Nat) (ss : List Int) (i : Nat) : (gmet n ss i).length = n := by
  induction i with
  | zero => simp [gmet]
  | succ i ih => simp [gmet, ih]
theorem gmet_iff (n : Nat) (ss : List Int) (i : Nat) : (∀ j, j < i → ∃ p : Nat, ss.getD j 0 = p ∧ p < n) → ∀ q, q < n → ((gmet n ss i).getD q false = true ↔ ∃ j, j < i ∧ ss.getD j 0 = (q : Int)) := by
  induction i with
  | zero =>
    intro _ q hq
    simp [gmet, List.getD_eq_getElem?_getD, List.getElem?_replicate, hq]
  | succ i ih =>
    intro h q hq
    obtain ⟨p, hp, hpn⟩ := h i (by omega)
    have h0 := ih (fun j hj => h j (by omega)) q hq
    show ((gmet n ss i).set (ss.getD i 0).toNat true).getD q false = true ↔ _
    rw [getD_setB _ _ _ (by rw [gmet_len, hp]; simpa using hpn), hp, Int.toNat_natCast]
    by_cases hpq : p = q
    · simp only [hpq, if_true, true_iff]
      exact ⟨i, by omega, by rw [hp, hpq]⟩
    · rw [if_neg hpq, h0]
      constructor
      · rintro ⟨j, hj, e⟩; exact ⟨j, by omega, e⟩
      · rintro ⟨j, hj, e⟩
        by_cases hji : j = i
        · subst hji; rw [hp] at e; exact absurd (by omega) hpq
        · exact ⟨j, by omega, e⟩

/-- vec.Top's places are met once each, in falling order, and no other one is greater. -/
def Great (xs : List Int) (ss : List Int) (m : Nat) : Prop :=
  (∀ j, j < m → ∃ p : Nat, ss.getD j 0 = p ∧ p < xs.length ∧ (gmet xs.length ss j).getD p false = false ∧ (0 < j → ∃ q : Nat, ss.getD (j - 1) 0 = q ∧ q < xs.length ∧ wi (xs.getD p 0) ≤ wi (xs.getD q 0))) ∧
  ∀ q, q < xs.length → 0 < m → (gmet xs.length ss m).getD q false = false → ∃ p : Nat, ss.getD (m - 1) 0 = p ∧ p < xs.length ∧ wi (xs.getD q 0) ≤ wi (xs.getD p 0)

theorem bhd_le {p q : Int × Int} (h : bhd q p) : q.2 ≤ p.2 := by
  by_cases hh : p.2 < q.2
  · have := (ahd_iff q p).2 (.inl hh); unfold bhd at h; rw [h] at this; cases this
  · omega

theorem great (xs : List Int) (k : Int) : Great xs (vtop xs k) (min xs.length (max k 0).toNat) := by
  obtain ⟨T, h1, h2, R, h3, h4, h5⟩ := vtop_tops xs k
  rw [h1, ← h2]
  have hat : ∀ j, j < T.length → ∃ p : Nat, p < xs.length ∧ T[j]? = some ((p : Int), wi (xs.getD p 0)) ∧ (T.map (·.1)).getD j 0 = p := by
    intro j hj
    have hm : T[j] ∈ pl xs xs.length := h3.symm.subset (List.mem_append_left _ (List.getElem_mem hj))
    unfold pl at hm
    obtain ⟨p, hp, he⟩ := List.mem_map.1 hm
    refine ⟨p, by simpa using hp, by rw [List.getElem?_eq_getElem hj, ← he], ?_⟩
    rw [List.getD_eq_getElem?_getD, List.getElem?_map, List.getElem?_eq_getElem hj, ← he]; rfl
  have hnd : (T.map (·.1)).Nodup := by
    have e1 : ((T ++ R).map (·.1)).Nodup := by
      rw [← (h3.map (·.1)).nodup_iff]
      unfold pl
      rw [List.map_map]
      refine List.Pairwise.map _ ?_ (List.nodup_range (n := xs.length))
      intro a b hab e
      exact hab (by have e3 : (a : Int) = (b : Int) := e; omega)
    rw [List.map_append] at e1
    exact (List.nodup_append.1 e1).1
  have hval : ∀ m, m ≤ T.length → ∀ j, j < m → ∃ p : Nat, (T.map (·.1)).getD j 0 = p ∧ p < xs.length := by
    intro m hm j hj
    obtain ⟨p, a, -, b⟩ := hat j (by omega)
    exact ⟨p, b, a⟩
  refine ⟨fun j hj => ?_, fun q hq hm hg => ?_⟩
  · obtain ⟨p, hp, he, hv⟩ := hat j hj
    refine ⟨p, hv, hp, ?_, fun h0 => ?_⟩
    · have := gmet_iff xs.length (T.map (·.1)) j (hval j (by omega)) p hp
      cases hc : (gmet xs.length (T.map (·.1)) j).getD p false with
      | false => rfl
      | true =>
        obtain ⟨i, hi, e⟩ := this.1 hc
        have e2 : (T.map (·.1)).getD i 0 = (T.map (·.1)).getD j 0 := by rw [e, hv]
        have l1 : i < (T.map (·.1)).length := by simp; omega
        have l2 : j < (T.map (·.1)).length := by simpa using hj
        rw [List.getD_eq_getElem?_getD, List.getD_eq_getElem?_getD, List.getElem?_eq_getElem l1, List.getElem?_eq_getElem l2] at e2
        exact absurd (by simpa using e2) (List.pairwise_iff_getElem.1 hnd i j l1 l2 hi)
    · obtain ⟨q, hq, hqe, hqv⟩ := hat (j - 1) (by omega)
      refine ⟨q, hqv, hq, ?_⟩
      have l1 : j - 1 < T.length := by omega
      have := List.pairwise_iff_getElem.1 h4 (j - 1) j l1 hj (by omega)
      have e1 : T[j - 1] = ((q : Int), wi (xs.getD q 0)) := by rw [List.getElem?_eq_getElem l1] at hqe; exact Option.some.inj hqe
      have e2 : T[j] = ((p : Int), wi (xs.getD p 0)) := by rw [List.getElem?_eq_getElem hj] at he; exact Option.some.inj he
      rw [e1, e2] at this
      exact bhd_le this
  · obtain ⟨p, hp, he, hv⟩ := hat (T.length - 1) (by omega)
    refine ⟨p, hv, hp, ?_⟩
    have hmem : ((q : Int), wi (xs.getD q 0)) ∈ T ++ R := by
      refine h3.subset ?_
      unfold pl
      exact List.mem_map.2 ⟨q, by simpa using hq, rfl⟩
    have hpT : ((p : Int), wi (xs.getD p 0)) ∈ T := List.mem_of_getElem? he
    rcases List.mem_append.1 hmem with h | h
    · obtain ⟨i, hi, e⟩ := List.getElem_of_mem h
      have := (gmet_iff xs.length (T.map (·.1)) T.length (hval _ (Nat.le_refl _)) q hq).2 ⟨i, hi, by
        rw [List.getD_eq_getElem?_getD, List.getElem?_map, List.getElem?_eq_getElem hi, e]; rfl⟩
      rw [hg] at this; cases this
    · exact bhd_le (h5 _ hpT _ h)

end Go.Proofs.Ytgedmelohiajjaa
