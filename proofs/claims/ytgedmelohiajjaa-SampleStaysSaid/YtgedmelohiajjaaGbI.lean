/- Plain functions of vec.Top. -/
import Derived.Test.YtgedmelohiajjaaGbH
namespace Go.Proofs.Ytgedmelohiajjaa
set_option linter.unusedVariables false
set_option linter.unusedSimpArgs false

/-- What heap.Pop hands back, and leaves. -/
def hpv (L : List (Int × Int)) : Int × Int := (hdown (swp L 0 (L.length - 1)) 0 (L.length - 1)).getD (L.length - 1) (0, 0)
def hpr (L : List (Int × Int)) : List (Int × Int) := (hdown (swp L 0 (L.length - 1)) 0 (L.length - 1)).take (L.length - 1)
theorem hpr_len (L : List (Int × Int)) : (hpr L).length = L.length - 1 := by
  unfold hpr; rw [List.length_take, hdown_len _ _ _ _ rfl, swp_len]; omega
/-- The heap behind i places. -/
def topSt (xs : List Int) (k : Int) : Nat → List (Int × Int)
  | 0 => []
  | i + 1 =>
    let L := hup (topSt xs k i ++ [((i : Int), wi (xs.getD i 0))]) (topSt xs k i).length
    if max k 0 < (L.length : Int) then hpr L else L
theorem topSt_len (xs : List Int) (k : Int) (i : Nat) : (topSt xs k i).length ≤ i := by
  induction i with
  | zero => simp [topSt]
  | succ i ih =>
    simp only [topSt]
    split
    · rw [hpr_len, hup_len, List.length_append]; simp; omega
    · rw [hup_len, List.length_append]; simp; omega
/-- What is taken of a heap, the last one first, laid from behind. -/
def drain : Nat → List (Int × Int) → List Int → List Int
  | 0, _, out => out
  | n + 1, L, out => drain n (hpr L) (out.set n (hpv L).1)
def vtop (xs : List Int) (k : Int) : List Int := drain (topSt xs k xs.length).length (topSt xs k xs.length) (List.replicate (topSt xs k xs.length).length 0)

theorem drain_succ (n : Nat) (L : List (Int × Int)) (out : List Int) : drain (n + 1) L out = drain n (hpr L) (out.set n (hpv L).1) := rfl

end Go.Proofs.Ytgedmelohiajjaa
