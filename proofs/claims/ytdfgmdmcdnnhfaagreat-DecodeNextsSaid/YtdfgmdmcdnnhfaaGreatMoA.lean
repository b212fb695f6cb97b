/- Plain functions of the layer model; Contracts of model.in, May, weight; rand.Derive; and the document's. -/
import Derived.Test.YtdfgmdmcdnnhfaaGreatGbB
import Derived.Test.YtdfgmdmcdnnhfaaGreatGbW
import Derived.Test.YtdfgmdmcdnnhfaaGreatGbSm
import Derived.Deep.RegionWith
namespace Go.Proofs.YtdfgmdmcdnnhfaaGreat
open Go.RowKit
set_option linter.unusedVariables false
set_option linter.unusedSimpArgs false
set_option maxRecDepth 100000

/-- A configuration. -/
structure Cfg where
  seed : Int
  vocab : Int
  dim : Int
  layers : Int
  top : Int
  heat : Int
def Cfg.v (c : Cfg) : Value := .agg #[.int .u64 c.seed, .int .i64 c.vocab, .int .i64 c.dim, .int .i64 c.layers, .int .i64 c.top, .int .i64 c.heat]
/-- It may be. -/
def Cfg.ok (c : Cfg) : Prop := (2 ≤ c.vocab ∧ c.vocab ≤ 64) ∧ (1 ≤ c.dim ∧ c.dim ≤ 16) ∧ (1 ≤ c.layers ∧ c.layers ≤ 4) ∧ (1 ≤ c.top ∧ c.top ≤ c.vocab) ∧ (0 ≤ c.heat ∧ c.heat ≤ 8)
instance (c : Cfg) : Decidable c.ok := by unfold Cfg.ok; infer_instance
def mwt (s r j : Int) : Int := rbelow s (64 * r + j) 131073 - 65536
def mrow (c : Cfg) (t r : Int) : List Int := tab c.dim.toNat (fun j => mwt (rat c.seed t) r j)
def mplace (c : Cfg) (r : Int) : List Int := vmap (fun x => fmul x 16384) (mrow c 1 r)
def mtab (c : Cfg) (t : Int) (n : Nat) : List (List Int) := (List.range n).map fun r : Nat => mrow c t r
def mtables (c : Cfg) : List (List (List Int)) := [mtab c 0 c.vocab.toNat, (List.range 256).map fun r : Nat => mplace c r] ++ (List.range (6 * c.layers).toNat).map fun t : Nat => mtab c (2 + t) c.dim.toNat
theorem mwt_in (s r j : Int) : -65536 ≤ mwt s r j ∧ mwt s r j ≤ 65536 := by
  unfold mwt rbelow mhi
  have h := rat_range s (64 * r + j)
  have h1 : 0 ≤ rat s (64 * r + j) * 131073 := Int.mul_nonneg h.1 (by decide)
  have h2 : rat s (64 * r + j) * 131073 ≤ 18446744073709551615 * 131073 := Int.mul_le_mul_of_nonneg_right h.2 (by decide)
  generalize rat s (64 * r + j) * 131073 = q at *
  omega
theorem mrow_len (c : Cfg) (t r : Int) : (mrow c t r).length = c.dim.toNat := by unfold mrow; rw [tab_len]
theorem mplace_len (c : Cfg) (r : Int) : (mplace c r).length = c.dim.toNat := by unfold mplace vmap; rw [tab_len, mrow_len]
theorem mtab_len (c : Cfg) (t : Int) (n : Nat) : (mtab c t n).length = n := by simp [mtab]
theorem mtab_get (c : Cfg) (t : Int) (n r : Nat) (h : r < n) : (mtab c t n).getD r [] = mrow c t r := by
  simp [mtab, List.getD_eq_getElem?_getD, h]
/-- A model's rows: of tokens, of places, of a layer. -/
def mtok (c : Cfg) (t : Int) : List Int := if 0 ≤ t ∧ t < c.vocab then mrow c 0 t else []
def mplc (c : Cfg) (p : Int) : List Int := if 0 ≤ p ∧ p < 256 then mplace c p else []
def mrows (c : Cfg) (l k : Int) : List (List Int) := if 0 ≤ l ∧ l < c.layers ∧ 0 ≤ k ∧ k ≤ 5 then mtab c (2 + (6 * l + k)) c.dim.toNat else []

end Go.Proofs.YtdfgmdmcdnnhfaaGreat

namespace Go.Proofs.YtdfgmdmcdnnhfaaGreat
open Go.RowKit Go.Shelf Go.Proofs.YtdfgmdmcdnnhfaaGreatW.PrintWords Go.Proofs.YtdfgmdmcdnnhfaaGreatW.PrintLast Go.Proofs.YtdfgmdmcdnnhfaaGreatW.PrintMore
set_option linter.unusedVariables false
set_option linter.unusedSimpArgs false
set_option maxRecDepth 100000
attribute [local go_sem] gb_max2 gb_min2 gb_max_two gb_min_two gb_max_three gb_min_three

theorem min_yes (n lo hi : Int) (w : World) (h0 : lo ≤ n) (h1 : n ≤ hi) :
    Calls Tryz.prog 36 #[.int .i64 n, .int .i64 lo, .int .i64 hi] w fun e w' => e = .returned (.bool true) ∧ w = w' := by
  have g0 : decide (lo ≤ n) = true := decide_eq_true h0
  have g1 : decide (n ≤ hi) = true := decide_eq_true h1
  go_enter Tryz.func36, Tryz.ntmps36
  go_wp2
  go_ret
  exact ⟨rfl, rfl⟩
theorem min_no (n lo hi : Int) (w : World) (h : ¬ (lo ≤ n ∧ n ≤ hi)) :
    Calls Tryz.prog 36 #[.int .i64 n, .int .i64 lo, .int .i64 hi] w fun e w' => e = .returned (.bool false) ∧ w = w' := by
  by_cases h0 : lo ≤ n
  · have g0 : decide (lo ≤ n) = true := decide_eq_true h0
    have g1 : decide (n ≤ hi) = false := decide_eq_false (fun h1 => h ⟨h0, h1⟩)
    clear h
    go_enter Tryz.func36, Tryz.ntmps36
    go_wp2
    go_ret
    exact ⟨rfl, rfl⟩
  · have g0 : decide (lo ≤ n) = false := decide_eq_false h0
    clear h
    go_enter Tryz.func36, Tryz.ntmps36
    go_wp2
    go_ret
    exact ⟨rfl, rfl⟩
theorem min_any (n lo hi : Int) (w : World) :
    Calls Tryz.prog 36 #[.int .i64 n, .int .i64 lo, .int .i64 hi] w fun e w' => e = .returned (.bool (decide (lo ≤ n ∧ n ≤ hi))) ∧ w = w' := by
  by_cases h : lo ≤ n ∧ n ≤ hi
  · rw [decide_eq_true h]; exact min_yes n lo hi w h.1 h.2
  · rw [decide_eq_false h]; exact min_no n lo hi w h
def BoolB (b : Bool) (w : World) (e : Ending) (w' : World) : Prop := e = .returned (.bool b) ∧ Below w.heap.size w w'
theorem may_any (c : Cfg) (w : World) : Calls Tryz.prog 19 #[c.v] w (BoolB (decide c.ok) w) := by
  obtain ⟨s, v, d, l, t, h⟩ := c
  unfold BoolB
  obtain ⟨b, hb⟩ : ∃ b, decide (Cfg.ok ⟨s, v, d, l, t, h⟩) = b := ⟨_, rfl⟩
  rw [hb]
  have HB := Lib.hid hb
  clear hb
  unfold Cfg.v
  by_cases h1 : 2 ≤ v ∧ v ≤ 64
  · by_cases h2 : 1 ≤ d ∧ d ≤ 16
    · by_cases h3 : 1 ≤ l ∧ l ≤ 4
      · by_cases h4 : 1 ≤ t ∧ t ≤ v
        · have HF := Lib.hid (show decide (0 ≤ h ∧ h ≤ 8) = b by rw [← HB.out]; unfold Cfg.ok; simp only [h1, h2, h3, h4, true_and, and_self])
          go_enter Tryz.func19, Tryz.ntmps19
          go_wp2_with fail
          refine (min_yes _ _ _ _ h1.1 h1.2).mono ?_
          rintro e w' ⟨rfl, rfl⟩
          go_wp2_with fail
          refine (min_yes _ _ _ _ h2.1 h2.2).mono ?_
          rintro e w' ⟨rfl, rfl⟩
          go_wp2_with fail
          refine (min_yes _ _ _ _ h3.1 h3.2).mono ?_
          rintro e w' ⟨rfl, rfl⟩
          go_wp2_with fail
          refine (min_yes _ _ _ _ h4.1 h4.2).mono ?_
          rintro e w' ⟨rfl, rfl⟩
          go_wp2_with fail
          refine (min_any _ _ _ _).mono ?_
          rw [HF.out]
          rintro e w' ⟨rfl, rfl⟩
          go_wp2_with fail
          go_ret
          exact ⟨rfl, below_alloc (Below.refl _ w) _⟩
        · have HF := Lib.hid (show false = b by rw [← HB.out]; exact (decide_eq_false (fun hk => h4 hk.2.2.2.1)).symm)
          go_enter Tryz.func19, Tryz.ntmps19
          go_wp2_with fail
          refine (min_yes _ _ _ _ h1.1 h1.2).mono ?_
          rintro e w' ⟨rfl, rfl⟩
          go_wp2_with fail
          refine (min_yes _ _ _ _ h2.1 h2.2).mono ?_
          rintro e w' ⟨rfl, rfl⟩
          go_wp2_with fail
          refine (min_yes _ _ _ _ h3.1 h3.2).mono ?_
          rintro e w' ⟨rfl, rfl⟩
          go_wp2_with fail
          refine (min_no _ _ _ _ h4).mono ?_
          rintro e w' ⟨rfl, rfl⟩
          go_wp2_with fail
          go_ret
          exact ⟨ret_b HF.out, below_alloc (Below.refl _ w) _⟩
      · have HF := Lib.hid (show false = b by rw [← HB.out]; exact (decide_eq_false (fun hk => h3 hk.2.2.1)).symm)
        go_enter Tryz.func19, Tryz.ntmps19
        go_wp2_with fail
        refine (min_yes _ _ _ _ h1.1 h1.2).mono ?_
        rintro e w' ⟨rfl, rfl⟩
        go_wp2_with fail
        refine (min_yes _ _ _ _ h2.1 h2.2).mono ?_
        rintro e w' ⟨rfl, rfl⟩
        go_wp2_with fail
        refine (min_no _ _ _ _ h3).mono ?_
        rintro e w' ⟨rfl, rfl⟩
        go_wp2_with fail
        go_ret
        exact ⟨ret_b HF.out, below_alloc (Below.refl _ w) _⟩
    · have HF := Lib.hid (show false = b by rw [← HB.out]; exact (decide_eq_false (fun hk => h2 hk.2.1)).symm)
      go_enter Tryz.func19, Tryz.ntmps19
      go_wp2_with fail
      refine (min_yes _ _ _ _ h1.1 h1.2).mono ?_
      rintro e w' ⟨rfl, rfl⟩
      go_wp2_with fail
      refine (min_no _ _ _ _ h2).mono ?_
      rintro e w' ⟨rfl, rfl⟩
      go_wp2_with fail
      go_ret
      exact ⟨ret_b HF.out, below_alloc (Below.refl _ w) _⟩
  · have HF := Lib.hid (show false = b by rw [← HB.out]; exact (decide_eq_false (fun hk => h1 hk.1)).symm)
    go_enter Tryz.func19, Tryz.ntmps19
    go_wp2_with fail
    refine (min_no _ _ _ _ h1).mono ?_
    rintro e w' ⟨rfl, rfl⟩
    go_wp2_with fail
    go_ret
    exact ⟨ret_b HF.out, below_alloc (Below.refl _ w) _⟩

theorem weight_any (s r j : Int) (w : World) (r0 : 0 ≤ r) (r1 : r ≤ 255) (j0 : 0 ≤ j) (j1 : j ≤ 15) :
    Calls Tryz.prog 38 #[.int .u64 s, .int .i64 r, .int .i64 j] w fun e w' => e = .returned (.int .i64 (mwt s r j)) ∧ w = w' := by
  have hr := mwt_in s r j
  unfold mwt at hr ⊢
  obtain ⟨q, hq⟩ : ∃ q, rbelow s (64 * r + j) 131073 = q := ⟨_, rfl⟩
  have HQ := Lib.hid hq
  rw [hq] at hr ⊢
  have h1 := hr.1
  have h2 := hr.2
  clear hq hr
  go_enter Tryz.func38, Tryz.ntmps38
  go_wp2_with fail
  refine (rbelow_any _ _ _ _ (by omega) (by omega)).mono ?_
  rw [HQ.out]
  rintro e w' ⟨rfl, rfl⟩
  go_wp2_with fail
  go_ret
  exact ⟨rfl, rfl⟩

/-- rand.Derive, by one label. -/
theorem derive1_any (s t : Int) (a : Addr) (c : Nat) (w : World) (h : w.cell? a = some (.int .u64 t)) :
    Calls Tryz.prog 37 #[.int .u64 s, .slice (some a) 1 c] w fun e w' => e = .returned (.int .u64 (rat s t)) ∧ w = w' := by
  obtain ⟨z, hz⟩ : ∃ z, rat s t = z := ⟨_, rfl⟩
  have HZ := Lib.hid hz
  rw [hz]
  clear hz
  go_enter Tryz.func37, Tryz.ntmps37
  go_wp2_with fail
  go_loop [0, 9] (fun q i => ∃ k : Nat, k ≤ 1 ∧ i = .int .i64 k ∧ q = .int .u64 (if k = 0 then s else z)) (fun _ i => 1 - (intOf i).toNat)
  case atStart => exact ⟨0, by omega, rfl, rfl⟩
  case round =>
    obtain ⟨k, hk, rfl, rfl⟩ := hrel
    by_cases h0 : k = 0
    · subst h0
      have g0 := gb_add0 a
      go_wp2_with fail
      refine (rat_any _ _ _).mono ?_
      rw [HZ.out]
      rintro e w' ⟨rfl, rfl⟩
      go_wp2_with fail
      go_round
      case rel => exact ⟨1, by omega, by go_num, by simp⟩
      case measure => simp [intOf]
    · obtain rfl : k = 1 := by omega
      go_wp2_with fail
      go_ret
      exact ⟨rfl, rfl⟩
theorem rderive1_any (s t : Int) (a : Addr) (c : Nat) (w : World) (h : w.cell? a = some (.int .u64 t)) :
    Calls Tryz.prog 115 #[.int .u64 s, .slice (some a) 1 c] w fun e w' => e = .returned (.int .u64 (rat s t)) ∧ Drawn0 w w' := by
  obtain ⟨z, hz⟩ : ∃ z, rat s t = z := ⟨_, rfl⟩
  have HZ := Lib.hid hz
  rw [hz]
  clear hz
  go_enter Tryz.func115, Tryz.ntmps115
  go_wp2_with fail
  go_loop [0, 5] (fun q i => ∃ k : Nat, k ≤ 1 ∧ i = .int .i64 k ∧ q = .int .u64 (if k = 0 then s else z)) (fun _ i => 1 - (intOf i).toNat)
  case atStart => exact ⟨0, by omega, rfl, rfl⟩
  case round =>
    obtain ⟨k, hk, rfl, rfl⟩ := hrel
    by_cases h0 : k = 0
    · subst h0
      have g0 := gb_add0 a
      go_wp2_with fail
      refine (rrat_any _ _ _).mono ?_
      rw [HZ.out]
      rintro e w' ⟨rfl, rfl⟩
      go_wp2_with fail
      go_round
      case rel => exact ⟨1, by omega, by go_num, by simp⟩
      case measure => simp [intOf]
    · obtain rfl : k = 1 := by omega
      go_wp2_with fail
      go_ret
      exact ⟨rfl, ⟨0, rfl⟩⟩

end Go.Proofs.YtdfgmdmcdnnhfaaGreat
