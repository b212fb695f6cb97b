/- Plain functions of the heap. -/
import Derived.Test.YtgedmelohiajjaaGbW
import Derived.Test.YtgedmelohiajjaaWMore
namespace Go.Proofs.Ytgedmelohiajjaa
open Go.RowKit Go.Proofs.YtgedmelohiajjaaW.PrintWords Go.Proofs.YtgedmelohiajjaaW.PrintLast Go.Proofs.YtgedmelohiajjaaW.PrintMore
set_option linter.unusedVariables false
set_option linter.unusedSimpArgs false

/-- vec.place.ahead: (place, number). -/
def ahd (p q : Int × Int) : Bool := decide (q.2 < p.2) || (decide (p.2 = q.2) && decide (p.1 < q.1))
def cellsP (L : List (Int × Int)) : List Value := L.flatMap fun p => [.int .i64 p.1, .int .i64 p.2]
theorem cellsP_len (L : List (Int × Int)) : (cellsP L).length = L.length * 2 := by
  induction L with
  | nil => rfl
  | cons p L ih => simp only [cellsP, List.flatMap_cons, List.length_append, List.length_cons, List.length_nil] at ih ⊢; omega
theorem cellsP_get (L : List (Int × Int)) : ∀ i, i < L.length → (cellsP L)[i * 2]? = some (.int .i64 (L.getD i (0, 0)).1) ∧ (cellsP L)[i * 2 + 1]? = some (.int .i64 (L.getD i (0, 0)).2) := by
  induction L with
  | nil => intro i h; simp at h
  | cons p L ih =>
    intro i h
    cases i with
    | zero => simp [cellsP]
    | succ i =>
      have := ih i (by simpa using h)
      have e1 : (i + 1) * 2 = i * 2 + 2 := by omega
      rw [e1]
      simpa [cellsP] using this
theorem cellsP_set (L : List (Int × Int)) : ∀ i, (q : Int × Int) → cellsP (L.set i q) = ((cellsP L).set (i * 2) (.int .i64 q.1)).set (i * 2 + 1) (.int .i64 q.2) := by
  induction L with
  | nil => intro i q; simp [cellsP]
  | cons p L ih =>
    intro i q
    cases i with
    | zero => simp [cellsP]
    | succ i =>
      have := ih i q
      have e1 : (i + 1) * 2 = i * 2 + 2 := by omega
      rw [e1]
      simp only [cellsP, List.set_cons_succ, List.flatMap_cons] at this ⊢
      simp [this]
theorem rowP_at {W : World} {B e g n cap : Nat} {L : List (Int × Int)} (h : W.ownsRow B e 2 (.slice (some ⟨g, 0, none⟩) n cap) L.length (cellsP L)) (i : Nat) (hi : i < L.length) :
    W.cell? ⟨g, i * 2, none⟩ = some (.int .i64 (L.getD i (0, 0)).1) ∧ W.cell? ⟨g, i * 2 + 1, none⟩ = some (.int .i64 (L.getD i (0, 0)).2) := by
  obtain ⟨h1, h2⟩ := cellsP_get L i hi
  have q1 := h.cells (g := g) rfl (i * 2) _ h1
  have q2 := h.cells (g := g) rfl (i * 2 + 1) _ h2
  rw [add_plain] at q1 q2
  exact ⟨q1, q2⟩

def swp (L : List (Int × Int)) (i j : Nat) : List (Int × Int) := (L.set i (L.getD j (0, 0))).set j (L.getD i (0, 0))
theorem swp_len (L : List (Int × Int)) (i j : Nat) : (swp L i j).length = L.length := by simp [swp]

/-- container/heap.up: the element at place j goes up. -/
def hup (L : List (Int × Int)) (j : Nat) : List (Int × Int) :=
  if h : j = 0 then L else
  if ahd (L.getD ((j - 1) / 2) (0, 0)) (L.getD j (0, 0)) then hup (swp L ((j - 1) / 2) j) ((j - 1) / 2) else L
termination_by j
decreasing_by omega
/-- container/heap.down: the element at place i goes down, among the first n. -/
def hkid (L : List (Int × Int)) (i n : Nat) : Nat :=
  if 2 * i + 2 < n ∧ ahd (L.getD (2 * i + 1) (0, 0)) (L.getD (2 * i + 2) (0, 0)) = true then 2 * i + 2 else 2 * i + 1
theorem hkid_lt (L : List (Int × Int)) (i n : Nat) : i < hkid L i n := by unfold hkid; split <;> omega
def hdown (L : List (Int × Int)) (i n : Nat) : List (Int × Int) :=
  if h : n ≤ 2 * i + 1 then L else
  if ahd (L.getD i (0, 0)) (L.getD (hkid L i n) (0, 0)) then hdown (swp L i (hkid L i n)) (hkid L i n) n else L
termination_by n - i
decreasing_by have := hkid_lt L i n; omega

theorem hdown_len (m : Nat) : ∀ (L : List (Int × Int)) (i n : Nat), n - i = m → (hdown L i n).length = L.length := by
  induction m using Nat.strongRecOn with
  | _ m ih =>
    intro L i n hm
    rw [hdown]
    split
    · rfl
    · split
      · have := hkid_lt L i n
        rw [ih (n - hkid L i n) (by omega) _ _ _ rfl, swp_len]
      · rfl
theorem hup_len (j : Nat) : ∀ (L : List (Int × Int)), (hup L j).length = L.length := by
  induction j using Nat.strongRecOn with
  | _ j ih =>
    intro L
    rw [hup]
    split
    · rfl
    · split
      · rw [ih _ (by omega), swp_len]
      · rfl

end Go.Proofs.Ytgedmelohiajjaa
