/- Plain functions of the layer vec. -/
import Derived.Test.YtdfgmdmcdnnhfaaGreatGbB
namespace Go.Proofs.YtdfgmdmcdnnhfaaGreat
set_option linter.unusedVariables false
set_option linter.unusedSimpArgs false
set_option maxRecDepth 100000

/-- The layer vec. -/
def dotTo (xs ys : List Int) : Nat → Int
  | 0 => 0
  | i + 1 => fadd (dotTo xs ys i) (fmul (xs.getD i 0) (ys.getD i 0))
def vdot (xs ys : List Int) : Int := dotTo xs ys (min xs.length ys.length)

/-- n numbers, of which the first i are told by f, the others by g. -/
def mixl (n : Nat) (f g : Nat → Int) (i : Nat) : List Int := (List.range n).map fun j => if j < i then f j else g j
def tab (n : Nat) (f : Nat → Int) : List Int := (List.range n).map f
theorem mixl_len (n : Nat) (f g : Nat → Int) (i : Nat) : (mixl n f g i).length = n := by simp [mixl]
theorem tab_len (n : Nat) (f : Nat → Int) : (tab n f).length = n := by simp [tab]
theorem mixl_get (n : Nat) (f g : Nat → Int) (i : Nat) (h : i < n) : (mixl n f g i).getD i 0 = g i := by
  simp [mixl, List.getD_eq_getElem?_getD, h]
theorem mixl_set (n : Nat) (f g : Nat → Int) (i : Nat) : (mixl n f g i).set i (f i) = mixl n f g (i + 1) := by
  apply List.ext_getElem
  · simp [mixl]
  · intro j h1 h2
    simp only [mixl, List.length_set, List.length_map, List.length_range] at h1 h2
    rw [List.getElem_set]
    simp only [mixl, List.getElem_map, List.getElem_range]
    by_cases e : i = j
    · subst e; simp
    · rw [if_neg e]
      by_cases h : j < i
      · rw [if_pos h, if_pos (by omega)]
      · rw [if_neg h, if_neg (by omega)]
theorem mixl_zero (n : Nat) (f g : Nat → Int) : mixl n f g 0 = tab n g := by simp [mixl, tab]
theorem mixl_full (n : Nat) (f g : Nat → Int) (i : Nat) (h : n ≤ i) : mixl n f g i = tab n f := by
  apply List.map_congr_left
  intro j hj
  have := List.mem_range.1 hj
  rw [if_pos (by omega)]
theorem tab_self (xs : List Int) : tab xs.length (fun j => xs.getD j 0) = xs := by
  apply List.ext_getElem
  · simp [tab]
  · intro j h1 h2
    simp [tab, List.getD_eq_getElem?_getD, h2]
theorem tab_take (xs : List Int) (n : Nat) (h : n ≤ xs.length) : tab n (fun j => xs.getD j 0) = xs.take n := by
  apply List.ext_getElem
  · simp [tab]; omega
  · intro j h1 h2
    have h3 : j < n := by simpa [tab] using h1
    have h4 : j < xs.length := by omega
    simp [tab, List.getD_eq_getElem?_getD, h4]
theorem tab_get (n : Nat) (f : Nat → Int) (i : Nat) (h : i < n) : (tab n f).getD i 0 = f i := by
  simp [tab, List.getD_eq_getElem?_getD, h]
theorem tab_succ (n : Nat) (f : Nat → Int) : tab (n + 1) f = tab n f ++ [f n] := by simp [tab, List.range_succ]
theorem tab_congr (n : Nat) (f g : Nat → Int) (h : ∀ i, i < n → f i = g i) : tab n f = tab n g :=
  List.map_congr_left fun j hj => h j (List.mem_range.1 hj)
def vadd (xs ys : List Int) : List Int := tab (min xs.length ys.length) fun j => fadd (xs.getD j 0) (ys.getD j 0)
def vmap (f : Int → Int) (xs : List Int) : List Int := tab xs.length fun j => f (xs.getD j 0)
def vscale (xs : List Int) (by_ : Int) : List Int := vmap (fun x => fmul x by_) xs
def vrelu (xs : List Int) : List Int := vmap (fun x => max (wi x) 0) xs
def vroot (xs : List Int) : Int := froot (fadd (fdiv (vdot xs xs) (fint xs.length)) 1)
def vnorm (xs : List Int) : List Int := vmap (fun x => fdiv x (vroot xs)) xs
def maxTo (xs : List Int) : Nat → Int
  | 0 => xs.getD 0 0
  | i + 1 => max (maxTo xs i) (xs.getD (i + 1) 0)
def vmax (xs : List Int) : Int := maxTo xs (xs.length - 1)
def vexp (xs : List Int) (j : Nat) : Int := fexp (fadd (xs.getD j 0) (-(wi (vmax xs))))
def sumTo (f : Nat → Int) : Nat → Int
  | 0 => 0
  | i + 1 => fadd (sumTo f i) (f i)
def vsoft (xs : List Int) : List Int := tab xs.length fun j => fdiv (vexp xs j) (sumTo (vexp xs) xs.length)

end Go.Proofs.YtdfgmdmcdnnhfaaGreat
