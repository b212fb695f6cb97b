/- Plain laws of the layer vec. -/
import Derived.Test.YtgedmelohiajjaaGbM
namespace Go.Proofs.Ytgedmelohiajjaa
open Go.RowKit Go.Proofs.YtgedmelohiajjaaW.PrintWords Go.Proofs.YtgedmelohiajjaaW.PrintLast Go.Proofs.YtgedmelohiajjaaW.PrintMore
set_option linter.unusedVariables false
set_option linter.unusedSimpArgs false

theorem far2 (xs ys : List Int) (h : farB [xs, ys] = false) : xs.length ≤ 300 ∧ ys.length ≤ 300 := by
  unfold farB at h
  rw [Bool.or_eq_false_iff] at h
  have := of_decide_eq_false h.1
  simp at this
  omega
theorem far1 (xs : List Int) (h : farB [xs] = false) : xs.length ≤ 300 := by
  unfold farB at h
  rw [Bool.or_eq_false_iff] at h
  have := of_decide_eq_false h.1
  simp at this
  omega
theorem fmul_comm (a b : Int) : fmul a b = fmul b a := by unfold fmul; rw [Int.mul_comm]
theorem fadd_comm (a b : Int) : fadd a b = fadd b a := by unfold fadd; rw [Int.add_comm]
theorem dotTo_comm (xs ys : List Int) (n : Nat) : dotTo xs ys n = dotTo ys xs n := by
  induction n with
  | zero => rfl
  | succ n ih => simp only [dotTo]; rw [ih, fmul_comm]
theorem vdot_comm (xs ys : List Int) : vdot xs ys = vdot ys xs := by unfold vdot; rw [dotTo_comm, Nat.min_comm]
theorem vadd_comm (xs ys : List Int) : vadd xs ys = vadd ys xs := by
  unfold vadd; rw [Nat.min_comm]
  exact tab_congr _ _ _ fun i _ => fadd_comm _ _
theorem vadd_len (xs ys : List Int) : (vadd xs ys).length ≤ xs.length := by unfold vadd; rw [tab_len]; omega

/-- Soft at any length. -/
theorem soft_any (A : Option Addr) (c : Nat) (xs : List Int) (w : World) (hx : (Kd.int .i64).C w A xs.length xs) (hc : xs.length ≤ c) (hn : xs.length ≤ 4096) :
    Calls Try.prog 19 #[.slice A xs.length c] w fun e w' => ∃ v, e = .returned v ∧ Own w' w.heap.size 2 v (vsoft xs) ∧ Below w.heap.size w w' := by
  by_cases hp : 0 < xs.length
  · exact soft_some A c xs w hx hc hn hp
  · obtain rfl : xs = [] := List.eq_nil_of_length_eq_zero (by omega)
    exact (soft_nil A c w).mono fun e w' ⟨h1, h2⟩ => by subst h2; exact ⟨_, h1, Kd.R_nil _ _ _ _ _, Below.refl _ _⟩
theorem rsoft_any (A : Option Addr) (c : Nat) (xs : List Int) (w : World) (hx : (Kd.int .i64).C w A xs.length xs) (hc : xs.length ≤ c) (hn : xs.length ≤ 4096) :
    Calls Try.prog 36 #[.slice A xs.length c] w fun e w' => ∃ v, e = .returned v ∧ Own w' w.heap.size 2 v (vsoft xs) ∧ Below w.heap.size w w' := by
  by_cases hp : 0 < xs.length
  · exact rsoft_some A c xs w hx hc hn hp
  · obtain rfl : xs = [] := List.eq_nil_of_length_eq_zero (by omega)
    exact (rsoft_nil A c w).mono fun e w' ⟨h1, h2⟩ => by subst h2; exact ⟨_, h1, Kd.R_nil _ _ _ _ _, Below.refl _ _⟩

end Go.Proofs.Ytgedmelohiajjaa
