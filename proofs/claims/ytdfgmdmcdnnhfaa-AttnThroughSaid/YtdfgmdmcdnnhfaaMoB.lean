/- Plain functions of the layer model. -/
import Derived.Test.YtdfgmdmcdnnhfaaGbB
import Derived.Test.YtdfgmdmcdnnhfaaGbW
namespace Go.Proofs.Ytdfgmdmcdnnhfaa
open Go.RowKit
set_option linter.unusedVariables false
set_option linter.unusedSimpArgs false
set_option maxRecDepth 100000

/-- A configuration. -/
structure Cfg where
  seed : Int
  vocab : Int
  dim : Int
  layers : Int
  top : Int
  heat : Int
def Cfg.v (c : Cfg) : Value := .agg #[.int .u64 c.seed, .int .i64 c.vocab, .int .i64 c.dim, .int .i64 c.layers, .int .i64 c.top, .int .i64 c.heat]
/-- It may be. -/
def Cfg.ok (c : Cfg) : Prop := (2 ≤ c.vocab ∧ c.vocab ≤ 64) ∧ (1 ≤ c.dim ∧ c.dim ≤ 16) ∧ (1 ≤ c.layers ∧ c.layers ≤ 4) ∧ (1 ≤ c.top ∧ c.top ≤ c.vocab) ∧ (0 ≤ c.heat ∧ c.heat ≤ 8)
instance (c : Cfg) : Decidable c.ok := by unfold Cfg.ok; infer_instance
def mwt (s r j : Int) : Int := rbelow s (64 * r + j) 131073 - 65536
def mrow (c : Cfg) (t r : Int) : List Int := tab c.dim.toNat (fun j => mwt (rat c.seed t) r j)
def mplace (c : Cfg) (r : Int) : List Int := vmap (fun x => fmul x 16384) (mrow c 1 r)
def mtab (c : Cfg) (t : Int) (n : Nat) : List (List Int) := (List.range n).map fun r : Nat => mrow c t r
def mtables (c : Cfg) : List (List (List Int)) := [mtab c 0 c.vocab.toNat, (List.range 256).map fun r : Nat => mplace c r] ++ (List.range (6 * c.layers).toNat).map fun t : Nat => mtab c (2 + t) c.dim.toNat
theorem mwt_in (s r j : Int) : -65536 ≤ mwt s r j ∧ mwt s r j ≤ 65536 := by
  unfold mwt rbelow mhi
  have h := rat_range s (64 * r + j)
  have h1 : 0 ≤ rat s (64 * r + j) * 131073 := Int.mul_nonneg h.1 (by decide)
  have h2 : rat s (64 * r + j) * 131073 ≤ 18446744073709551615 * 131073 := Int.mul_le_mul_of_nonneg_right h.2 (by decide)
  generalize rat s (64 * r + j) * 131073 = q at *
  omega
theorem mrow_len (c : Cfg) (t r : Int) : (mrow c t r).length = c.dim.toNat := by unfold mrow; rw [tab_len]
theorem mplace_len (c : Cfg) (r : Int) : (mplace c r).length = c.dim.toNat := by unfold mplace vmap; rw [tab_len, mrow_len]
theorem mtab_len (c : Cfg) (t : Int) (n : Nat) : (mtab c t n).length = n := by simp [mtab]
theorem mtab_get (c : Cfg) (t : Int) (n r : Nat) (h : r < n) : (mtab c t n).getD r [] = mrow c t r := by
  simp [mtab, List.getD_eq_getElem?_getD, h]
/-- A model's rows: of tokens, of places, of a layer. -/
def mtok (c : Cfg) (t : Int) : List Int := if 0 ≤ t ∧ t < c.vocab then mrow c 0 t else []
def mplc (c : Cfg) (p : Int) : List Int := if 0 ≤ p ∧ p < 256 then mplace c p else []
def mrows (c : Cfg) (l k : Int) : List (List Int) := if 0 ≤ l ∧ l < c.layers ∧ 0 ≤ k ∧ k ≤ 5 then mtab c (2 + (6 * l + k)) c.dim.toNat else []

end Go.Proofs.Ytdfgmdmcdnnhfaa
