/- A fair queue: what two flows that wait get. -/
import Derived.Test.YtcelhendfjiicaaFqB
namespace Go.Proofs.Ytcelhendfjiicaa
set_option linter.unusedVariables false
set_option linter.unusedSimpArgs false
/-- Two flows, what was taken of each by the other's weight (their difference is D), and their credits. -/
def ShI (w0 w1 q D : Int) (b : Bool) (l : List Fl) : Prop :=
  (∃ c0 x0 c1 x1, l = [(0, c0, x0), (1, c1, x1)] ∧ D + c0 * w1 - c1 * w0 = (if b = true then w0 * w1 * q else 0) ∧ (b = true → c0 ≤ 261 + w0 * q)) ∨
  (∃ c0 x0 c1 x1, l = [(1, c1, x1), (0, c0, x0)] ∧ D + c0 * w1 - c1 * w0 = (if b = true then 0 else w0 * w1 * q) ∧ (b = true → c1 ≤ 261 + w1 * q))
def ShC (l : List Fl) : Prop := ∀ f ∈ l, ∀ x ∈ f.2.2, x.2.1 ≤ 262
section
variable {wt : WtV} {q w0 w1 D : Int} {l r : List Fl} {f : Fl} {b : Bool} {k t : Nat}
theorem sh_rounds (hw0 : wof wt 0 = w0) (hw1 : wof wt 1 = w1) (h : ShI w0 w1 q D false l) : ShI w0 w1 q D false (roundsF wt q l) := by
  rcases h with ⟨c0, x0, c1, x1, rfl, h1, h2⟩ | ⟨c0, x0, c1, x1, rfl, h1, h2⟩
  · obtain ⟨s, hs⟩ : ∃ s, leastF wt q [(0, c0, x0), (1, c1, x1)] = s := ⟨_, rfl⟩
    refine .inl ⟨c0 + s * (w0 * q), x0, c1 + s * (w1 * q), x1, ?_, ?_, fun e => by cases e⟩
    · unfold roundsF gainF
      rw [hs]
      simp [hw0, hw1]
    · simp only [Bool.false_eq_true, if_false] at h1 ⊢
      grind
  · obtain ⟨s, hs⟩ : ∃ s, leastF wt q [(1, c1, x1), (0, c0, x0)] = s := ⟨_, rfl⟩
    refine .inr ⟨c0 + s * (w0 * q), x0, c1 + s * (w1 * q), x1, ?_, ?_, fun e => by cases e⟩
    · unfold roundsF gainF
      rw [hs]
      simp [hw0, hw1]
    · simp only [Bool.false_eq_true, if_false] at h1 ⊢
      grind
theorem sh_rot (hw0 : wof wt 0 = w0) (hw1 : wof wt 1 = w1) (h : ShI w0 w1 q D b (f :: r)) : ShI w0 w1 q D false (r ++ [grow1 wt q b f]) := by
  rcases h with ⟨c0, x0, c1, x1, e, h1, h2⟩ | ⟨c0, x0, c1, x1, e, h1, h2⟩
  · injection e with e1 e2
    subst e1 e2
    cases b with
    | true =>
      refine .inr ⟨c0, x0, c1, x1, rfl, ?_, fun e => by cases e⟩
      simpa using h1
    | false =>
      refine .inr ⟨c0 + w0 * q, x0, c1, x1, ?_, ?_, fun e => by cases e⟩
      · unfold grow1 gainF; simp [hw0]
      · simp only [Bool.false_eq_true, if_false] at h1 ⊢
        grind
  · injection e with e1 e2
    subst e1 e2
    cases b with
    | true =>
      refine .inl ⟨c0, x0, c1, x1, rfl, ?_, fun e => by cases e⟩
      simpa using h1
    | false =>
      refine .inl ⟨c0, x0, c1 + w1 * q, x1, ?_, ?_, fun e => by cases e⟩
      · unfold grow1 gainF; simp [hw1]
      · simp only [Bool.false_eq_true, if_false] at h1 ⊢
        grind
theorem shC_rounds (h : ShC l) : ShC (roundsF wt q l) := by
  intro f hf
  obtain ⟨g, hg, rfl⟩ := List.mem_map.1 hf
  exact h g hg
theorem shC_rot (h : ShC (f :: r)) : ShC (r ++ [grow1 wt q b f]) := by
  intro g hg
  rcases List.mem_append.1 hg with hg | hg
  · exact h g (List.mem_cons_of_mem _ hg)
  · obtain rfl : g = grow1 wt q b f := by simpa using hg
    rw [grow1_items.1]
    exact h f List.mem_cons_self
def TwoI (l : List Fl) : Prop := ∀ f ∈ l, 2 ≤ f.2.2.length
theorem two_rounds (h : TwoI l) : TwoI (roundsF wt q l) := by
  intro f hf
  obtain ⟨g, hg, rfl⟩ := List.mem_map.1 hf
  exact h g hg
theorem two_rot (h : TwoI (f :: r)) : TwoI (r ++ [grow1 wt q b f]) := by
  intro g hg
  rcases List.mem_append.1 hg with hg | hg
  · exact h g (List.mem_cons_of_mem _ hg)
  · obtain rfl : g = grow1 wt q b f := by simpa using hg
    rw [grow1_items.1]
    exact h f List.mem_cons_self
def shD (w0 w1 D : Int) (x : ItemV) : Int := if x.1 = 0 then D + x.2.1 * w1 else D - x.2.1 * w0
/-- One is taken. -/
theorem sh_step (hw : WtJ wt) (h1 : 1 ≤ q) (h2 : q ≤ 1048576) (hw0 : wof wt 0 = w0) (hw1 : wof wt 1 = w1) (b0 : 1 ≤ w0) (b1 : 1 ≤ w1) (hJ : FqJ b l) (hS : ShI w0 w1 q D b l) (hC : ShC l) (hT : TwoI l) (y : ItemV × Bool × List Fl) (hy : popRun wt q k t b l = some y) :
    y.2.1 = true ∧ (y.1.1 = 0 ∨ y.1.1 = 1) ∧ 1 ≤ y.1.2.1 ∧ y.1.2.1 ≤ 262 ∧ ShI w0 w1 q (shD w0 w1 D y.1) true y.2.2 ∧ ShC y.2.2 ∧ FqJ true y.2.2 ∧ (y.2.2.map (fun f => f.2.2.length)).sum + 1 = (l.map (fun f => f.2.2.length)).sum ∧ y.2.2.length = 2 ∧
      (-(3 * w0 * w1 * q + 270 * (w0 + w1)) ≤ shD w0 w1 D y.1 ∧ shD w0 w1 D y.1 ≤ 3 * w0 * w1 * q + 270 * (w0 + w1)) := by
  have hJy := popRun_J hw h1 h2 hJ hy
  obtain ⟨b', f, r, x, xs, hJ', ⟨hS', hC', hT', hsum⟩, hx, hs, rfl⟩ := popRun_ind hw h1 h2 (fun b l' => ShI w0 w1 q D b l' ∧ ShC l' ∧ TwoI l' ∧ (l'.map (fun f => f.2.2.length)).sum = (l.map (fun f => f.2.2.length)).sum)
    (fun l' _ h => ⟨sh_rounds hw0 hw1 h.1, shC_rounds h.2.1, two_rounds h.2.2.1, by rw [← h.2.2.2]; unfold roundsF; rw [List.map_map]; rfl⟩)
    (fun b f r _ h => ⟨sh_rot hw0 hw1 h.1, shC_rot h.2.1, two_rot h.2.2.1, by
      rw [← h.2.2.2]
      simp only [List.map_append, List.sum_append, List.map_cons, List.map_nil, List.sum_cons, List.sum_nil, grow1_items.1]
      omega⟩) k t b l y hJ ⟨hS, hC, hT, rfl⟩ hy
  have hxs : xs ≠ [] := by
    rintro rfl
    have := hT' f List.mem_cons_self
    rw [hx] at this
    simp at this
  rw [if_neg hxs] at hJy ⊢
  have hcost := ((hJ'.cost f List.mem_cons_self).1.2.1 x (by rw [hx]; exact List.mem_cons_self))
  have hc9 := hC' f List.mem_cons_self x (by rw [hx]; exact List.mem_cons_self)
  have hq0 : 0 ≤ w0 * q := Int.mul_nonneg (by omega) (by omega)
  have hq1 : 0 ≤ w1 * q := Int.mul_nonneg (by omega) (by omega)
  have hQ : 0 ≤ w0 * w1 * q := Int.mul_nonneg (Int.mul_nonneg (by omega) (by omega)) (by omega)
  have hCn : ShC ((f.1, (grow1 wt q b' f).2.1 - x.2.1, xs) :: r) := by
    intro g hg z hz
    rcases List.mem_cons.1 hg with rfl | hg
    · exact hC' f List.mem_cons_self z (by rw [hx]; exact List.mem_cons_of_mem _ hz)
    · exact hC' g (List.mem_cons_of_mem _ hg) z hz
  have hsn : (((f.1, (grow1 wt q b' f).2.1 - x.2.1, xs) :: r).map (fun f => f.2.2.length)).sum + 1 = (l.map (fun f => f.2.2.length)).sum := by
    rw [← hsum]
    have h9 : f.2.2.length = xs.length + 1 := by rw [hx]; rfl
    show xs.length + (r.map (fun f => f.2.2.length)).sum + 1 = f.2.2.length + (r.map (fun f => f.2.2.length)).sum
    omega
  have hdb : 3 * w0 * w1 * q = 3 * (w0 * w1 * q) := by grind
  rw [hdb]
  rcases hS' with ⟨c0, x0, c1, x1, e, e1, e2⟩ | ⟨c0, x0, c1, x1, e, e1, e2⟩
  · injection e with e3 e4
    subst e3 e4
    have hx1 : x.1 = 0 := hcost.1
    have hl1 := (hJ'.2 (1, c1, x1) List.mem_cons_self)
    have hc1 : 0 ≤ c1 := hl1.1.2.2
    have hc1' : c1 ≤ 261 := by
      have h3 : c1 < hcF (1, c1, x1) := hl1.2
      have h4 : hcF (1, c1, x1) ≤ 262 := by
        unfold hcF
        cases hx2 : x1 with
        | nil => exact absurd hx2 hl1.1.1
        | cons z zs => exact hC' (1, c1, x1) (by simp) z (by rw [hx2]; exact List.mem_cons_self)
      omega
    obtain ⟨c, hc⟩ : ∃ c, (grow1 wt q b' (0, c0, x0)).2.1 = c := ⟨_, rfl⟩
    have hkey : D + c * w1 - c1 * w0 = w0 * w1 * q ∧ c ≤ 261 + w0 * q := by
      rw [← hc]
      cases b' with
      | true => exact ⟨by simpa [grow1] using e1, by simpa [grow1] using e2 rfl⟩
      | false =>
        have h5 : (grow1 wt q false (0, c0, x0)).2.1 = c0 + w0 * q := by unfold grow1 gainF; simp [hw0]
        rw [h5]
        have hl0 : FlJ (0, c0, x0) := by simpa using hJ'.1
        have hc0' : c0 ≤ 261 := by
          have h3 : c0 < hcF (0, c0, x0) := hl0.2
          have h4 : hcF (0, c0, x0) ≤ 262 := by
            unfold hcF
            rw [show ((0 : Int), c0, x0).2.2 = x :: xs from hx]
            exact hc9
          omega
        simp only [Bool.false_eq_true, if_false] at e1
        exact ⟨by grind, by omega⟩
    rw [hc] at hs hJy hCn hsn ⊢
    have hcx : 0 ≤ c - x.2.1 := by omega
    have hD : shD w0 w1 D x = D + x.2.1 * w1 := if_pos hx1
    rw [hD]
    refine ⟨rfl, .inl hx1, hcost.2.1, hc9, .inl ⟨c - x.2.1, xs, c1, x1, rfl, ?_, fun _ => by have := hcost.2.1; omega⟩, hCn, hJy, hsn, rfl, ?_⟩
    · rw [if_pos rfl, Int.sub_mul]
      omega
    · have hA0 : 0 ≤ (c - x.2.1) * w1 := Int.mul_nonneg hcx (by omega)
      have hA1 : (c - x.2.1) * w1 ≤ (261 + w0 * q) * w1 := Int.mul_le_mul_of_nonneg_right (by omega) (by omega)
      have hA2 : (261 + w0 * q) * w1 = 261 * w1 + w0 * w1 * q := by grind
      have hB0 : 0 ≤ c1 * w0 := Int.mul_nonneg hc1 (by omega)
      have hB1 : c1 * w0 ≤ 261 * w0 := Int.mul_le_mul_of_nonneg_right hc1' (by omega)
      have hk := hkey.1
      rw [Int.sub_mul] at hA0 hA1
      omega
  · injection e with e3 e4
    subst e3 e4
    have hx1 : x.1 = 1 := hcost.1
    have hl1 := (hJ'.2 (0, c0, x0) List.mem_cons_self)
    have hc1 : 0 ≤ c0 := hl1.1.2.2
    have hc1' : c0 ≤ 261 := by
      have h3 : c0 < hcF (0, c0, x0) := hl1.2
      have h4 : hcF (0, c0, x0) ≤ 262 := by
        unfold hcF
        cases hx2 : x0 with
        | nil => exact absurd hx2 hl1.1.1
        | cons z zs => exact hC' (0, c0, x0) (by simp) z (by rw [hx2]; exact List.mem_cons_self)
      omega
    obtain ⟨c, hc⟩ : ∃ c, (grow1 wt q b' (1, c1, x1)).2.1 = c := ⟨_, rfl⟩
    have hkey : D + c0 * w1 - c * w0 = 0 ∧ c ≤ 261 + w1 * q := by
      rw [← hc]
      cases b' with
      | true => exact ⟨by simpa [grow1] using e1, by simpa [grow1] using e2 rfl⟩
      | false =>
        have h5 : (grow1 wt q false (1, c1, x1)).2.1 = c1 + w1 * q := by unfold grow1 gainF; simp [hw1]
        rw [h5]
        have hl0 : FlJ (1, c1, x1) := by simpa using hJ'.1
        have hc0' : c1 ≤ 261 := by
          have h3 : c1 < hcF (1, c1, x1) := hl0.2
          have h4 : hcF (1, c1, x1) ≤ 262 := by
            unfold hcF
            rw [show ((1 : Int), c1, x1).2.2 = x :: xs from hx]
            exact hc9
          omega
        simp only [Bool.false_eq_true, if_false] at e1
        exact ⟨by grind, by omega⟩
    rw [hc] at hs hJy hCn hsn ⊢
    have hcx : 0 ≤ c - x.2.1 := by omega
    have hD : shD w0 w1 D x = D - x.2.1 * w0 := if_neg (by omega)
    rw [hD]
    refine ⟨rfl, .inr hx1, hcost.2.1, hc9, .inr ⟨c0, x0, c - x.2.1, xs, rfl, ?_, fun _ => by have := hcost.2.1; omega⟩, hCn, hJy, hsn, rfl, ?_⟩
    · rw [if_pos rfl, Int.sub_mul]
      omega
    · have hA0 : 0 ≤ (c - x.2.1) * w0 := Int.mul_nonneg hcx (by omega)
      have hA1 : (c - x.2.1) * w0 ≤ (261 + w1 * q) * w0 := Int.mul_le_mul_of_nonneg_right (by omega) (by omega)
      have hA2 : (261 + w1 * q) * w0 = 261 * w0 + w0 * w1 * q := by grind
      have hB0 : 0 ≤ c0 * w1 := Int.mul_nonneg hc1 (by omega)
      have hB1 : c0 * w1 ≤ 261 * w1 := Int.mul_le_mul_of_nonneg_right hc1' (by omega)
      have hk := hkey.1
      rw [Int.sub_mul] at hA0 hA1
      omega
end
end Go.Proofs.Ytcelhendfjiicaa
