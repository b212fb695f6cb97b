/- A fair queue, as plain lists: Pop comes to an end. -/
import Derived.Test.YtcelhendfjiicaaFqA
namespace Go.Proofs.Ytcelhendfjiicaa
set_option linter.unusedVariables false
set_option linter.unusedSimpArgs false
section
variable {wt : WtV} {q : Int} {l r : List Fl} {f : Fl} {b : Bool} {n : Int} {k t : Nat} {x : ItemV} {xs : List ItemV}
theorem turnR_none (h : ¬ (b = false ∧ 0 < t ∧ t % l.length = 0)) : turnR wt q t b l = l := if_neg h
theorem turnR_yes (h : b = false ∧ 0 < t ∧ t % l.length = 0) : turnR wt q t b l = roundsF wt q l := if_pos h
theorem turnR_J (hw : WtJ wt) (h1 : 1 ≤ q) (h2 : q ≤ 1048576) (h : FqJ b l) : FqJ b (turnR wt q t b l) := by
  by_cases hc : b = false ∧ 0 < t ∧ t % l.length = 0
  · rw [turnR_yes hc]
    obtain ⟨rfl, -⟩ := hc
    exact FqJ.of_all (rounds_J hw h1 h2 h.all)
  · rw [turnR_none hc]; exact h
theorem turnR_len : (turnR wt q t b l).length = l.length := by unfold turnR; split <;> simp [rounds_len]
theorem popRun_cons (hl : turnR wt q t b l = f :: r) (hx : f.2.2 = x :: xs) : popRun wt q (k + 1) t b l =
    if x.2.1 ≤ (grow1 wt q b f).2.1 then some (if xs = [] then (x, false, r) else (x, true, (f.1, (grow1 wt q b f).2.1 - x.2.1, xs) :: r))
    else popRun wt q k (t + 1) false (r ++ [grow1 wt q b f]) := by
  conv => lhs; unfold popRun
  simp only [hl, hx]
theorem grow1_items : (grow1 wt q b f).2.2 = f.2.2 ∧ (grow1 wt q b f).1 = f.1 := by unfold grow1; split <;> exact ⟨rfl, rfl⟩
theorem grow1_bd (hw : WtJ wt) (h1 : 1 ≤ q) (h2 : q ≤ 1048576) (h : FqJ b (f :: r)) : 0 ≤ (grow1 wt q b f).2.1 ∧ (grow1 wt q b f).2.1 ≤ topCr := by
  have hg := gain_bd hw h1 h2 f.1
  have hc := h.cost f List.mem_cons_self
  unfold grow1
  split
  · exact ⟨hc.1.2.2, hc.2⟩
  · rename_i hb
    have hb' : b = false := by simpa using hb
    subst hb'
    have hj := h.all f List.mem_cons_self
    have := (hc_bd hj.1).2
    have := hj.2
    have := hj.1.2.2
    show 0 ≤ f.2.1 + gainF wt q f.1 ∧ f.2.1 + gainF wt q f.1 ≤ topCr
    unfold topCr
    omega
/-- It was not enough: to the end of the ring. -/
theorem rot_J (hw : WtJ wt) (h1 : 1 ≤ q) (h2 : q ≤ 1048576) (h : FqJ b (f :: r)) (hx : f.2.2 = x :: xs) (hn : ¬ x.2.1 ≤ (grow1 wt q b f).2.1) : FqJ false (r ++ [grow1 wt q b f]) := by
  have hb := grow1_bd hw h1 h2 h
  refine FqJ.of_all (fun g hg => ?_)
  rcases List.mem_append.1 hg with hg | hg
  · exact h.2 g hg
  · obtain rfl : g = grow1 wt q b f := by simpa using hg
    have hc := (h.cost f List.mem_cons_self).1
    refine ⟨⟨by rw [grow1_items.1]; exact hc.1, by rw [grow1_items.1, grow1_items.2]; exact hc.2.1, hb.1⟩, ?_⟩
    unfold hcF
    rw [grow1_items.1, hx]
    show (grow1 wt q b f).2.1 < x.2.1
    omega
/-- It was. -/
theorem srv_J (hw : WtJ wt) (h1 : 1 ≤ q) (h2 : q ≤ 1048576) (h : FqJ b (f :: r)) (hx : f.2.2 = x :: xs) (hn : x.2.1 ≤ (grow1 wt q b f).2.1) :
    FqJ (if xs = [] then (x, false, r) else (x, true, (f.1, (grow1 wt q b f).2.1 - x.2.1, xs) :: r)).2.1 (if xs = [] then (x, false, r) else (x, true, (f.1, (grow1 wt q b f).2.1 - x.2.1, xs) :: r)).2.2 := by
  have hb := grow1_bd hw h1 h2 h
  have hc := (h.cost f List.mem_cons_self).1
  split
  · exact h.tail
  · rename_i hne
    have h3 := hc.2.1 x (by rw [hx]; exact List.mem_cons_self)
    refine ⟨?_, h.2⟩
    show CostJ (f.1, (grow1 wt q b f).2.1 - x.2.1, xs) ∧ (grow1 wt q b f).2.1 - x.2.1 ≤ topCr
    exact ⟨⟨hne, fun y hy => hc.2.1 y (by rw [hx]; exact List.mem_cons_of_mem _ hy), by show 0 ≤ (grow1 wt q b f).2.1 - x.2.1; omega⟩, by omega⟩
theorem popRun_at (i : Nat) : ∀ (k t : Nat) (l : List Fl), (∀ f ∈ l, f.2.2 ≠ []) → t % l.length + i < l.length → (0 < t → t % l.length ≠ 0) → (hi : i < l.length) → hcF l[i] ≤ l[i].2.1 + gainF wt q l[i].1 → i < k → ∃ y, popRun wt q k t false l = some y := by
  induction i with
  | zero =>
    intro k t l hne ht h0 hi hs hk
    obtain ⟨k, rfl⟩ : ∃ m, k = m + 1 := ⟨k - 1, by omega⟩
    cases l with
    | nil => simp at hi
    | cons f r =>
      have hT : turnR wt q t false (f :: r) = f :: r := turnR_none (fun h => h0 h.2.1 h.2.2)
      obtain ⟨x, xs, hx⟩ : ∃ x xs, f.2.2 = x :: xs := by
        cases hx : f.2.2 with
        | nil => exact absurd hx (hne f List.mem_cons_self)
        | cons x xs => exact ⟨x, xs, rfl⟩
      rw [popRun_cons hT hx, if_pos]
      · exact ⟨_, rfl⟩
      · have h2 : hcF f ≤ f.2.1 + gainF wt q f.1 := hs
        unfold hcF at h2
        rw [hx] at h2
        exact h2
  | succ i ih =>
    intro k t l hne ht h0 hi hs hk
    obtain ⟨k, rfl⟩ : ∃ m, k = m + 1 := ⟨k - 1, by omega⟩
    cases l with
    | nil => simp at hi
    | cons f r =>
      have hT : turnR wt q t false (f :: r) = f :: r := turnR_none (fun h => h0 h.2.1 h.2.2)
      obtain ⟨x, xs, hx⟩ : ∃ x xs, f.2.2 = x :: xs := by
        cases hx : f.2.2 with
        | nil => exact absurd hx (hne f List.mem_cons_self)
        | cons x xs => exact ⟨x, xs, rfl⟩
      rw [popRun_cons hT hx]
      split
      · exact ⟨_, rfl⟩
      · have hl : (r ++ [grow1 wt q false f]).length = (f :: r).length := by simp
        have hm : (t + 1) % (f :: r).length = t % (f :: r).length + 1 := by
          rw [Nat.add_mod, Nat.mod_eq_of_lt (show 1 < (f :: r).length by omega), Nat.mod_eq_of_lt (by omega)]
        have hi' : i < r.length := by simpa using hi
        refine ih k (t + 1) _ (fun g hg => ?_) (by rw [hl, hm]; omega) (fun _ => by rw [hl, hm]; omega) (by rw [hl]; omega) ?_ (by omega)
        · rcases List.mem_append.1 hg with hg | hg
          · exact hne g (List.mem_cons_of_mem _ hg)
          · obtain rfl : g = grow1 wt q false f := by simpa using hg
            rw [grow1_items.1]; exact hne f List.mem_cons_self
        · rw [List.getElem_append_left hi']
          exact hs
theorem popRun_second (hw : WtJ wt) (h1 : 1 ≤ q) (h2 : q ≤ 1048576) (h : FqJ false l) (hne : l ≠ []) (k : Nat) (hk : l.length ≤ k) : ∃ y, popRun wt q k l.length false l = some y := by
  have hpos : 0 < l.length := List.length_pos_iff.2 hne
  obtain ⟨k, rfl⟩ : ∃ m, k = m + 1 := ⟨k - 1, by omega⟩
  have hT : turnR wt q l.length false l = roundsF wt q l := turnR_yes ⟨rfl, hpos, Nat.mod_self _⟩
  have hJ : FqJ false (roundsF wt q l) := FqJ.of_all (rounds_J hw h1 h2 h.all)
  obtain ⟨i, hi, hs⟩ := rounds_at hw h1 h2 h.all hne
  obtain ⟨R, hR⟩ : ∃ R, roundsF wt q l = R := ⟨_, rfl⟩
  have hRl : R.length = l.length := by rw [← hR]; exact rounds_len
  rw [hR] at hT hJ
  have hs' : ∃ i, ∃ hi : i < R.length, hcF R[i] ≤ R[i].2.1 + gainF wt q R[i].1 := by subst hR; exact ⟨i, hi, hs⟩
  clear hs hi hR
  obtain ⟨i, hi, hs⟩ := hs'
  cases R with
  | nil => simp at hi
  | cons f r =>
    have hne' : ∀ g ∈ f :: r, g.2.2 ≠ [] := fun g hg => (hJ.all g hg).1.1
    obtain ⟨x, xs, hx⟩ : ∃ x xs, f.2.2 = x :: xs := by
      cases hx : f.2.2 with
      | nil => exact absurd hx (hne' f List.mem_cons_self)
      | cons x xs => exact ⟨x, xs, rfl⟩
    rw [popRun_cons hT hx]
    split
    · exact ⟨_, rfl⟩
    · rename_i hno
      cases i with
      | zero =>
        exfalso
        apply hno
        have h2 : hcF f ≤ f.2.1 + gainF wt q f.1 := hs
        unfold hcF at h2
        rw [hx] at h2
        exact h2
      | succ i =>
        have hl : (r ++ [grow1 wt q false f]).length = l.length := by rw [← hRl]; simp
        have hi' : i < r.length := by simpa using hi
        have hrl : r.length + 1 = l.length := by rw [← hRl]; simp
        refine popRun_at i k (l.length + 1) _ (fun g hg => ?_) ?_ (fun _ => ?_) (by rw [hl]; omega) ?_ (by omega)
        · rcases List.mem_append.1 hg with hg | hg
          · exact hne' g (List.mem_cons_of_mem _ hg)
          · obtain rfl : g = grow1 wt q false f := by simpa using hg
            rw [grow1_items.1]; exact hne' f List.mem_cons_self
        · rw [hl, Nat.add_mod_left, Nat.mod_eq_of_lt (by omega)]; omega
        · rw [hl, Nat.add_mod_left, Nat.mod_eq_of_lt (by omega)]; omega
        · rw [List.getElem_append_left hi']; exact hs
theorem popRun_first (hw : WtJ wt) (h1 : 1 ≤ q) (h2 : q ≤ 1048576) (j : Nat) : ∀ (t : Nat) (b : Bool) (l : List Fl), FqJ b l → l ≠ [] → t + j = l.length → (0 < t → b = false) → ∃ y, popRun wt q (j + l.length) t b l = some y := by
  induction j with
  | zero =>
    intro t b l h hne ht hb
    have hpos : 0 < l.length := List.length_pos_iff.2 hne
    obtain rfl : t = l.length := by omega
    obtain rfl := hb hpos
    rw [Nat.zero_add]
    exact popRun_second hw h1 h2 h hne _ (Nat.le_refl _)
  | succ j ih =>
    intro t b l h hne ht hb
    cases l with
    | nil => exact absurd rfl hne
    | cons f r =>
      have hT : turnR wt q t b (f :: r) = f :: r := turnR_none (fun hc => by
        have := hc.2.2; rw [Nat.mod_eq_of_lt (by omega)] at this; omega)
      obtain ⟨x, xs, hx⟩ : ∃ x xs, f.2.2 = x :: xs := by
        cases hx : f.2.2 with
        | nil => exact absurd hx (h.cost f List.mem_cons_self).1.1
        | cons x xs => exact ⟨x, xs, rfl⟩
      rw [show j + 1 + (f :: r).length = (j + (f :: r).length) + 1 by omega, popRun_cons hT hx]
      split
      · exact ⟨_, rfl⟩
      · rename_i hno
        have hl : (r ++ [grow1 wt q b f]).length = (f :: r).length := by simp
        rw [← hl]
        exact ih (t + 1) false _ (rot_J hw h1 h2 h hx hno) (by simp) (by rw [hl]; omega) (fun _ => rfl)
/-- Pop takes one. -/
theorem popRun_some (hw : WtJ wt) (h1 : 1 ≤ q) (h2 : q ≤ 1048576) (h : FqJ b l) (hne : l ≠ []) : ∃ y, popRun wt q (l.length + l.length) 0 b l = some y :=
  popRun_first hw h1 h2 l.length 0 b l h hne (by omega) (fun h => absurd h (by omega))
/-- What stands behind it. -/
theorem popRun_ind (hw : WtJ wt) (h1 : 1 ≤ q) (h2 : q ≤ 1048576) (P : Bool → List Fl → Prop) (hround : ∀ l, (∀ f ∈ l, FlJ f) → P false l → P false (roundsF wt q l)) (hrot : ∀ b f r, FqJ b (f :: r) → P b (f :: r) → P false (r ++ [grow1 wt q b f])) :
    ∀ (k t : Nat) (b : Bool) (l : List Fl) (y : ItemV × Bool × List Fl), FqJ b l → P b l → popRun wt q k t b l = some y →
      ∃ b' f r x xs, FqJ b' (f :: r) ∧ P b' (f :: r) ∧ f.2.2 = x :: xs ∧ x.2.1 ≤ (grow1 wt q b' f).2.1 ∧ y = if xs = [] then (x, false, r) else (x, true, (f.1, (grow1 wt q b' f).2.1 - x.2.1, xs) :: r) := by
  intro k
  induction k with
  | zero => intro t b l y _ _ hy; simp [popRun] at hy
  | succ k ih =>
    intro t b l y hJ hP hy
    have hJ' := turnR_J (t := t) hw h1 h2 hJ
    have hP' : P b (turnR wt q t b l) := by
      by_cases hc : b = false ∧ 0 < t ∧ t % l.length = 0
      · rw [turnR_yes hc]
        obtain ⟨rfl, -⟩ := hc
        exact hround l hJ.all hP
      · rw [turnR_none hc]; exact hP
    cases hT : turnR wt q t b l with
    | nil => unfold popRun at hy; simp [hT] at hy
    | cons f r =>
      rw [hT] at hJ' hP'
      obtain ⟨x, xs, hx⟩ : ∃ x xs, f.2.2 = x :: xs := by
        cases hx : f.2.2 with
        | nil => exact absurd hx (hJ'.cost f List.mem_cons_self).1.1
        | cons x xs => exact ⟨x, xs, rfl⟩
      rw [popRun_cons hT hx] at hy
      split at hy
      · rename_i hs
        injection hy with hy
        exact ⟨b, f, r, x, xs, hJ', hP', hx, hs, hy.symm⟩
      · rename_i hs
        exact ih (t + 1) false _ y (rot_J hw h1 h2 hJ' hx hs) (hrot b f r hJ' hP') hy
theorem popRun_J (hw : WtJ wt) (h1 : 1 ≤ q) (h2 : q ≤ 1048576) {y : ItemV × Bool × List Fl} (h : FqJ b l) (hy : popRun wt q k t b l = some y) : FqJ y.2.1 y.2.2 := by
  obtain ⟨b', f, r, x, xs, hJ, -, hx, hs, rfl⟩ := popRun_ind hw h1 h2 (fun _ _ => True) (fun _ _ _ => trivial) (fun _ _ _ _ _ => trivial) k t b l y h trivial hy
  exact srv_J hw h1 h2 hJ hx hs
end
end Go.Proofs.Ytcelhendfjiicaa
