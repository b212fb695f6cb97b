/- What vec.Top hands back: the greatest ones, in order. -/
import Derived.Test.YtgedmelohiajjaaGbTop
namespace Go.Proofs.Ytgedmelohiajjaa
set_option linter.unusedVariables false
set_option linter.unusedSimpArgs false

/-- All places. -/
def pl (xs : List Int) (n : Nat) : List (Int × Int) := (List.range n).map fun (j : Nat) => ((j : Int), wi (xs.getD j 0))
/-- T are the first ones of Y, in order. -/
def Tops (Y T : List (Int × Int)) : Prop := ∃ R, Y.Perm (T ++ R) ∧ T.Pairwise (fun p q => bhd q p) ∧ ∀ p ∈ T, ∀ q ∈ R, bhd q p
theorem tops_unique (T1 : List (Int × Int)) : ∀ (T2 Y1 Y2 : List (Int × Int)), Tops Y1 T1 → Tops Y2 T2 → Y1.Perm Y2 → T1.length = T2.length → T1 = T2 := by
  induction T1 with
  | nil => intro T2 Y1 Y2 _ _ _ h; exact (List.eq_nil_of_length_eq_zero h.symm).symm
  | cons p T1 ih =>
    intro T2 Y1 Y2 h1 h2 hY hl
    cases T2 with
    | nil => simp at hl
    | cons q T2 =>
      obtain ⟨R1, a1, b1, c1⟩ := h1
      obtain ⟨R2, a2, b2, c2⟩ := h2
      have all1 : ∀ r ∈ Y1, bhd r p := by
        intro r hr
        have := a1.mem_iff.1 hr
        rw [List.cons_append, List.mem_cons, List.mem_append] at this
        rcases this with rfl | h | h
        · exact bhd_refl _
        · exact (List.pairwise_cons.1 b1).1 r h
        · exact c1 p List.mem_cons_self r h
      have all2 : ∀ r ∈ Y2, bhd r q := by
        intro r hr
        have := a2.mem_iff.1 hr
        rw [List.cons_append, List.mem_cons, List.mem_append] at this
        rcases this with rfl | h | h
        · exact bhd_refl _
        · exact (List.pairwise_cons.1 b2).1 r h
        · exact c2 q List.mem_cons_self r h
      have hp : p ∈ Y1 := a1.mem_iff.2 (by simp)
      have hq : q ∈ Y2 := a2.mem_iff.2 (by simp)
      obtain rfl : p = q := bhd_antisymm (all2 p (hY.mem_iff.1 hp)) (all1 q (hY.mem_iff.2 hq))
      have hperm : (T1 ++ R1).Perm (T2 ++ R2) := by
        have := (a1.symm.trans hY).trans a2
        rw [List.cons_append, List.cons_append] at this
        exact this.cons_inv
      rw [ih T2 (T1 ++ R1) (T2 ++ R2) ⟨R1, List.Perm.refl _, (List.pairwise_cons.1 b1).2, fun x hx y hy => c1 x (List.mem_cons_of_mem _ hx) y hy⟩ ⟨R2, List.Perm.refl _, (List.pairwise_cons.1 b2).2, fun x hx y hy => c2 x (List.mem_cons_of_mem _ hx) y hy⟩ hperm (by simpa using hl)]

/-! Pop. -/
theorem hp_pop {L : List (Int × Int)} {n : Nat} (hl : L.length = n + 1) (h : Hp L (n + 1)) : L.Perm (hpv L :: hpr L) ∧ (∀ q ∈ L, bhd (hpv L) q) ∧ Hp (hpr L) n ∧ (hpr L).length = n := by
  have e1 : L.length - 1 = n := by omega
  have hs : (swp L 0 n).length = n + 1 := by rw [swp_len]; exact hl
  obtain ⟨p1, p2⟩ := hdown_perm n (swp L 0 n) 0 n (by omega) (by omega)
  have hlen : (hdown (swp L 0 n) 0 n).length = n + 1 := by rw [hdown_len _ _ _ _ rfl]; exact hs
  have hlast : (swp L 0 n).drop n = [L.getD 0 (0, 0)] := by
    rw [List.drop_eq_getElem_cons (by omega), List.drop_of_length_le (by omega)]
    congr 1
    have := swp_get L 0 n n (by omega) (by omega)
    rw [if_pos rfl, List.getD_eq_getElem?_getD, List.getElem?_eq_getElem (by omega)] at this
    simpa using this
  have hd2 : hdown (swp L 0 n) 0 n = hpr L ++ [L.getD 0 (0, 0)] := by
    unfold hpr
    rw [e1, ← hlast, ← p2, List.take_append_drop]
  have hv : hpv L = L.getD 0 (0, 0) := by
    unfold hpv
    rw [e1, hd2]
    have hr : (hpr L).length = n := by rw [hpr_len]; omega
    rw [List.getD_eq_getElem?_getD, List.getElem?_append_right (by omega), hr]; simp
  have hperm : L.Perm (hpv L :: hpr L) := by
    have h1 := p1.trans (swp_perm L 0 n (by omega) (by omega))
    rw [hd2] at h1
    rw [hv]
    exact h1.symm.trans (List.perm_append_singleton _ _)
  refine ⟨hperm, ?_, ?_, by rw [hpr_len]; omega⟩
  · intro q hq
    obtain ⟨j, hj, rfl⟩ := List.mem_iff_getElem.1 hq
    have := hp_top h j (by omega)
    rw [hv]
    rw [List.getD_eq_getElem?_getD (l := L) (i := j), List.getElem?_eq_getElem hj] at this
    exact this
  · have hh := hdown_hp n (swp L 0 n) 0 n (by omega) (by omega) (by
      intro j h1 h2 h3
      rw [swp_get _ _ _ _ (by omega) (by omega), swp_get _ _ _ _ (by omega) (by omega)]
      have hpj : par j < j := by unfold par; omega
      rw [if_neg (by omega), if_neg h3, if_neg (by omega), if_neg (by omega)]
      exact h j h1 (by omega)) (fun h => absurd h (Nat.lt_irrefl 0))
    intro j h1 h2
    have hpj : par j < j := by unfold par; omega
    have := hh j h1 h2
    have hr : (hpr L).length = n := by rw [hpr_len]; omega
    rw [hd2] at this
    simp only [List.getD_eq_getElem?_getD] at this ⊢
    rwa [List.getElem?_append_left (by omega), List.getElem?_append_left (by omega)] at this
/-! Push. -/
theorem hp_push {L : List (Int × Int)} (x : Int × Int) (h : Hp L L.length) : (hup (L ++ [x]) L.length).Perm (x :: L) ∧ Hp (hup (L ++ [x]) L.length) (L.length + 1) := by
  have hl : (L ++ [x]).length = L.length + 1 := by simp
  refine ⟨(hup_perm _ _ (by omega)).trans (List.perm_append_singleton _ _), ?_⟩
  rw [← hl]
  refine hup_hp _ _ (by omega) ?_ ?_
  · intro j h1 h2 h3
    have hpj : par j < j := by unfold par; omega
    have := h j h1 (by omega)
    simp only [List.getD_eq_getElem?_getD] at this ⊢
    rwa [List.getElem?_append_left (by omega), List.getElem?_append_left (by omega)]
  · intro h1 c h2 h3 h4
    exfalso
    unfold par at h4; omega

/-! The heap behind i places. -/
theorem topSt_inv (xs : List Int) (k : Int) (i : Nat) : Hp (topSt xs k i) (topSt xs k i).length ∧ (topSt xs k i).length = min i (max k 0).toNat ∧ ∃ R, (pl xs i).Perm (topSt xs k i ++ R) ∧ ∀ p ∈ topSt xs k i, ∀ q ∈ R, bhd q p := by
  induction i with
  | zero => exact ⟨fun j h1 h2 => absurd h2 (by simp [topSt]), by simp [topSt], [], by simp [pl, topSt], by simp⟩
  | succ i ih =>
    obtain ⟨h1, h2, R, h3, h4⟩ := ih
    obtain ⟨L, hL⟩ : ∃ L, topSt xs k i = L := ⟨_, rfl⟩
    rw [hL] at h1 h2 h3 h4
    obtain ⟨x, hx⟩ : ∃ x, ((i : Int), wi (xs.getD i 0)) = x := ⟨_, rfl⟩
    obtain ⟨q1, q2⟩ := hp_push x h1
    obtain ⟨L2, hL2⟩ : ∃ L2, hup (L ++ [x]) L.length = L2 := ⟨_, rfl⟩
    rw [hL2] at q1 q2
    have hl2 : L2.length = L.length + 1 := by rw [← hL2, hup_len]; simp
    have hpl : (pl xs (i + 1)).Perm (x :: (L ++ R)) := by
      have : pl xs (i + 1) = pl xs i ++ [x] := by simp [pl, List.range_succ, ← hx]
      rw [this]
      exact (List.perm_append_singleton _ _).trans (h3.cons x)
    have hT : topSt xs k (i + 1) = if max k 0 < (L2.length : Int) then hpr L2 else L2 := by simp only [topSt]; rw [hL, hx, hL2]
    rw [hT]
    by_cases hc : max k 0 < (L2.length : Int)
    · rw [if_pos hc]
      obtain ⟨r1, r2, r3, r4⟩ := hp_pop hl2 q2
      refine ⟨by rw [r4]; exact r3, by rw [r4]; omega, hpv L2 :: R, ?_, ?_⟩
      · refine hpl.trans ?_
        have h5 : (x :: L).Perm (hpv L2 :: hpr L2) := q1.symm.trans r1
        have h6 := h5.append_right R
        exact h6.trans List.perm_middle.symm
      · intro p hp q hq
        rcases List.mem_cons.1 hq with rfl | hq
        · exact r2 p (r1.mem_iff.2 (List.mem_cons_of_mem _ hp))
        · have h5 : (x :: L).Perm (hpv L2 :: hpr L2) := q1.symm.trans r1
          have hp2 : p ∈ x :: L := h5.mem_iff.2 (List.mem_cons_of_mem _ hp)
          have ht : hpv L2 ∈ x :: L := h5.mem_iff.2 List.mem_cons_self
          rcases List.mem_cons.1 hp2 with rfl | hp3
          · rcases List.mem_cons.1 ht with ht | ht
            · rw [ht] at h5
              exact h4 p (h5.cons_inv.mem_iff.2 hp) q hq
            · exact bhd_trans (h4 _ ht q hq) (r2 p (r1.mem_iff.2 (List.mem_cons_of_mem _ hp)))
          · exact h4 p hp3 q hq
    · rw [if_neg hc]
      have hR : R = [] := by
        have h5 := h3.length_eq
        simp [pl] at h5
        exact List.eq_nil_of_length_eq_zero (by omega)
      subst hR
      refine ⟨by rw [hl2]; exact q2, by omega, [], ?_, by simp⟩
      rw [List.append_nil] at hpl ⊢
      exact hpl.trans q1.symm
/-! What is taken of it. -/
def dr : Nat → List (Int × Int) → List (Int × Int)
  | 0, _ => []
  | n + 1, L => dr n (hpr L) ++ [hpv L]
theorem dr_ok (n : Nat) : ∀ L : List (Int × Int), L.length = n → Hp L n → (dr n L).Perm L ∧ (dr n L).Pairwise (fun p q => bhd q p) ∧ (dr n L).length = n := by
  induction n with
  | zero => intro L hl _; rw [List.eq_nil_of_length_eq_zero hl]; exact ⟨List.Perm.refl _, List.Pairwise.nil, rfl⟩
  | succ n ih =>
    intro L hl h
    obtain ⟨r1, r2, r3, r4⟩ := hp_pop hl h
    obtain ⟨i1, i2, i3⟩ := ih (hpr L) r4 r3
    refine ⟨?_, ?_, by simp [dr, i3]⟩
    · exact ((List.perm_append_singleton _ _).trans (i1.cons _)).trans r1.symm
    · simp only [dr]
      rw [List.pairwise_append]
      refine ⟨i2, List.pairwise_singleton _ _, fun p hp q hq => ?_⟩
      obtain rfl : q = hpv L := by simpa using hq
      exact r2 p (r1.mem_iff.2 (List.mem_cons_of_mem _ (i1.mem_iff.1 hp)))
theorem drain_is (n : Nat) : ∀ (L : List (Int × Int)) (out : List Int), n ≤ out.length → drain n L out = (dr n L).map (·.1) ++ out.drop n := by
  induction n with
  | zero => intro L out _; simp [drain, dr]
  | succ n ih =>
    intro L out h
    rw [drain_succ, ih _ _ (by simp; omega)]
    simp only [dr, List.map_append, List.map_cons, List.map_nil, List.append_assoc]
    congr 1
    rw [List.drop_set, if_neg (by omega), Nat.sub_self]
    rw [List.drop_eq_getElem_cons (show n < out.length by omega)]
    rfl
/-- What vec.Top hands back. -/
theorem vtop_tops (xs : List Int) (k : Int) : ∃ T, vtop xs k = T.map (·.1) ∧ T.length = min xs.length (max k 0).toNat ∧ Tops (pl xs xs.length) T := by
  obtain ⟨h1, h2, R, h3, h4⟩ := topSt_inv xs k xs.length
  obtain ⟨i1, i2, i3⟩ := dr_ok _ (topSt xs k xs.length) rfl h1
  refine ⟨dr (topSt xs k xs.length).length (topSt xs k xs.length), ?_, by rw [i3, h2], R, ?_, i2, fun p hp q hq => h4 p (i1.mem_iff.1 hp) q hq⟩
  · unfold vtop
    rw [drain_is _ _ _ (by simp)]
    simp
  · exact h3.trans (i1.symm.append_right R)

end Go.Proofs.Ytgedmelohiajjaa
