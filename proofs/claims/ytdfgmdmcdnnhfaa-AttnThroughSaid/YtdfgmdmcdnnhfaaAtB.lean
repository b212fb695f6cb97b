/- Plain functions of the layer attn. -/
import Derived.Test.YtdfgmdmcdnnhfaaMoS
import Derived.Test.YtdfgmdmcdnnhfaaGbMx
namespace Go.Proofs.Ytdfgmdmcdnnhfaa
open Go.RowKit Go.Proofs.YtdfgmdmcdnnhfaaW.PrintWords Go.Proofs.YtdfgmdmcdnnhfaaW.PrintLast Go.Proofs.YtdfgmdmcdnnhfaaW.PrintMore
set_option linter.unusedVariables false
set_option linter.unusedSimpArgs false

def aroot (c : Cfg) : Int := froot (fint c.dim)
def aQ (c : Cfg) (l : Int) (x : List Int) : List Int := vmul (mrows c l 0) (vnorm x)
def aK (c : Cfg) (l : Int) (x : List Int) : List Int := vmul (mrows c l 1) (vnorm x)
def aV (c : Cfg) (l : Int) (x : List Int) : List Int := vmul (mrows c l 2) (vnorm x)
def amk (rt : Int) (q : List Int) (ks : List (List Int)) : List Int := ks.map fun k => fdiv (vdot q k) rt
def aKs (c : Cfg) (l : Int) (x : List Int) (ks vs : List (List Int)) : List (List Int) := ks.take (min ks.length vs.length) ++ [aK c l x]
def aVs (c : Cfg) (l : Int) (x : List Int) (ks vs : List (List Int)) : List (List Int) := vs.take (min ks.length vs.length) ++ [aV c l x]
def aSn (c : Cfg) (l : Int) (x : List Int) (ks vs : List (List Int)) : List Int := vmix (vsoft (amk (aroot c) (aQ c l x) (aKs c l x ks vs))) (aVs c l x ks vs)
def aH (c : Cfg) (l : Int) (x : List Int) (ks vs : List (List Int)) : List Int := vadd x (vmul (mrows c l 3) (aSn c l x ks vs))
def aX (c : Cfg) (l : Int) (x : List Int) (ks vs : List (List Int)) : List Int := vadd (aH c l x ks vs) (vmul (mrows c l 5) (vrelu (vmul (mrows c l 4) (vnorm (aH c l x ks vs)))))
def Cfg.in_ (c : Cfg) (l : Int) : Prop := 0 ≤ l ∧ l < c.layers
instance (c : Cfg) (l : Int) : Decidable (c.in_ l) := by unfold Cfg.in_; infer_instance

theorem mrows_in (c : Cfg) (l k : Int) (hl : c.in_ l) (h0 : 0 ≤ k) (h1 : k ≤ 5) : (mrows c l k).length = c.dim.toNat := by
  unfold mrows; rw [if_pos ⟨hl.1, hl.2, h0, h1⟩, mtab_len]
theorem mrows_out (c : Cfg) (l k : Int) (hl : ¬ c.in_ l) : mrows c l k = [] := by
  unfold mrows; rw [if_neg (fun h => hl ⟨h.1, h.2.1⟩)]
theorem mrows_le (c : Cfg) (hok : c.ok) (l k : Int) : (mrows c l k).length ≤ 16 := by
  have h := mrows_len c l k; have := hok.2.1; omega
theorem mrows_short (c : Cfg) (hok : c.ok) (l k : Int) : Short (mrows c l k) := by
  unfold mrows; split
  · exact short_tab c hok _ _
  · intro j; simp
theorem vnorm_len' (xs : List Int) : (vnorm xs).length = xs.length := by unfold vnorm vmap; rw [tab_len]
theorem vrelu_len (xs : List Int) : (vrelu xs).length = xs.length := by unfold vrelu vmap; rw [tab_len]
theorem vsoft_len' (xs : List Int) : (vsoft xs).length = xs.length := by unfold vsoft; rw [tab_len]
theorem vmul_le (c : Cfg) (hok : c.ok) (l k : Int) (ys : List Int) : (vmul (mrows c l k) ys).length ≤ 16 := by rw [vmul_len]; exact mrows_le c hok l k
theorem short_snoc (xss : List (List Int)) (n : Nat) (y : List Int) (h : Short xss) (hy : y.length ≤ 4096) : Short (xss.take n ++ [y]) := by
  intro j
  rw [List.getD_eq_getElem?_getD]
  rcases Nat.lt_or_ge j (xss.take n).length with hlt | hge
  · rw [List.getElem?_append_left hlt, List.getElem?_take]
    split
    · have := h j; rwa [List.getD_eq_getElem?_getD] at this
    · simp
  · rw [List.getElem?_append_right hge]
    cases hq : j - (xss.take n).length with
    | zero => simpa using hy
    | succ q => simp
theorem vmix_le (ws : List Int) (xss : List (List Int)) (h : Short xss) : (vmix ws xss).length ≤ 4096 := Nat.le_trans (vmix_len ws xss) (h 0)

end Go.Proofs.Ytdfgmdmcdnnhfaa
