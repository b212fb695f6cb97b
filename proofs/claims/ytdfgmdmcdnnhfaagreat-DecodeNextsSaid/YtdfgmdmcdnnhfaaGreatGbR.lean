/- Contracts of the document's number functions. -/
import Derived.Test.YtdfgmdmcdnnhfaaGreatProg
import Derived.Test.YtdfgmdmcdnnhfaaGreatGbB
import Derived.WalkKit
import Derived.KernelRfl
import Derived.Tactics
import Derived.OwnWalk
import Derived.BigQuiet
import Derived.Deep.QuietTactic
import Derived.Lib.Hide
import Derived.Outline
namespace Go.Proofs.YtdfgmdmcdnnhfaaGreat
open Go.RowKit
set_option linter.unusedVariables false
set_option linter.unusedSimpArgs false
set_option maxRecDepth 100000
attribute [local go_sem] gb_max2 gb_min2 gb_max_two gb_min_two gb_max_three gb_min_three

theorem rwithin_any (n : Int) (w : World) :
    Calls Tryz.prog 86 #[.int .i64 n] w fun e w' => e = .returned (.int .i64 (wi n)) ∧ w = w' := by
  by_cases c1 : n < -2147483648
  · have HF := Lib.hid (show wi n = -2147483648 by unfold wi; omega)
    go_enter Tryz.func86, Tryz.ntmps86
    go_wp2
    go_ret
    exact ⟨ret_i HF.out.symm, rfl⟩
  by_cases c2 : 2147483647 < n
  · have HF := Lib.hid (show wi n = 2147483647 by unfold wi; omega)
    go_enter Tryz.func86, Tryz.ntmps86
    go_wp2
    go_ret
    exact ⟨ret_i HF.out.symm, rfl⟩
  · have HF := Lib.hid (show wi n = n by unfold wi; omega)
    go_enter Tryz.func86, Tryz.ntmps86
    go_wp2
    go_ret
    exact ⟨ret_i HF.out.symm, rfl⟩

theorem rby_any (n d : Int) (w : World) (hd : 0 < d) (n0 : -4611686018427387904 ≤ n) (n1 : n ≤ 4611686018427387904) :
    Calls Tryz.prog 88 #[.int .i64 n, .int .i64 d] w fun e w' => e = .returned (.int .i64 (n / d)) ∧ w = w' := by
  have z : (d == 0) = false := by simp; omega
  have b0 := tdiv_lo n d 4611686018427387904 n0 n1
  have b1 := tdiv_hi n d 4611686018427387904 n0 n1
  by_cases c1 : 0 ≤ n
  · have c2 : 0 ≤ n % d := Int.emod_nonneg _ (by omega)
    have c3 : n / d ≤ n := Int.ediv_le_self _ c1
    have c4 : 0 ≤ n / d := Int.ediv_nonneg c1 (by omega)
    have HF := Lib.hid (Int.tdiv_eq_ediv_of_nonneg (a := n) (b := d) c1)
    go_enter Tryz.func88, Tryz.ntmps88
    go_wp2
    go_ret
    first | exact ⟨rfl, rfl⟩ | exact ⟨ret_i HF.out, rfl⟩
  · by_cases c2 : n.tmod d < 0
    · have HF := Lib.hid (show n / d = n.tdiv d - 1 by
        have := ffl_diff n d (by omega) (by omega) (.inl ⟨by omega, by omega⟩)
        rw [← this]; unfold ffl; rw [Int.fdiv_eq_ediv_of_nonneg _ (by omega)])
      go_enter Tryz.func88, Tryz.ntmps88
      go_wp2
      go_ret
      exact ⟨ret_i HF.out.symm, rfl⟩
    · have HF := Lib.hid (show n / d = n.tdiv d by
        have h0 : n.tmod d = 0 := by have h9 := Int.tmod_nonneg (a := -n) d (by omega); rw [Int.neg_tmod] at h9; omega
        have := ffl_dvd n d h0
        rw [← this]; unfold ffl; rw [Int.fdiv_eq_ediv_of_nonneg _ (by omega)])
      go_enter Tryz.func88, Tryz.ntmps88
      go_wp2
      go_ret
      exact ⟨ret_i HF.out.symm, rfl⟩

theorem radd_any (a b : Int) (w : World) :
    Calls Tryz.prog 51 #[.int .i64 a, .int .i64 b] w fun e w' => e = .returned (.int .i64 (fadd a b)) ∧ w = w' := by
  have h1 := wi_lo a; have h2 := wi_hi a; have h3 := wi_lo b; have h4 := wi_hi b
  go_enter Tryz.func51, Tryz.ntmps51
  go_wp2_with (go_at_call 86; refine (rwithin_any _ _).mono ?_; rintro e w' ⟨rfl, rfl⟩)
  go_ret
  exact ⟨rfl, rfl⟩

theorem rmul_any (a b : Int) (w : World) :
    Calls Tryz.prog 53 #[.int .i64 a, .int .i64 b] w fun e w' => e = .returned (.int .i64 (fmul a b)) ∧ w = w' := by
  have h1 := mul_lo a b; have h2 := mul_hi a b
  go_enter Tryz.func53, Tryz.ntmps53
  go_wp2_with (first
    | (go_at_call 88; refine (rby_any _ _ _ (by omega) (by omega) (by omega)).mono ?_; rintro e w' ⟨rfl, rfl⟩)
    | (go_at_call 86; refine (rwithin_any _ _).mono ?_; rintro e w' ⟨rfl, rfl⟩))
  go_ret
  exact ⟨rfl, rfl⟩

theorem rdiv_any (a b : Int) (w : World) :
    Calls Tryz.prog 80 #[.int .i64 a, .int .i64 b] w fun e w' => e = .returned (.int .i64 (fdiv a b)) ∧ w = w' := by
  have h1 := wi_lo a; have h2 := wi_hi a; have h3 := wi_lo b; have h4 := wi_hi b
  by_cases c0 : wi b = 0
  · have HB := Lib.hid c0
    have z1 : ¬ wi b < 0 := by omega
    have z2 : ¬ 0 < wi b := by omega
    by_cases c1 : 0 < wi a
    · have HF := Lib.hid (show fdiv a b = 2147483647 by unfold fdiv; rw [if_pos c0, if_pos c1])
      clear c0
      go_enter Tryz.func80, Tryz.ntmps80
      go_wp2_with (go_at_call 86; refine (rwithin_any _ _).mono ?_; rintro e w' ⟨rfl, rfl⟩)
      go_ret
      exact ⟨ret_i HF.out.symm, rfl⟩
    by_cases c2 : wi a < 0
    · have HF := Lib.hid (show fdiv a b = -2147483648 by unfold fdiv; rw [if_pos c0, if_neg c1, if_pos c2])
      clear c0
      go_enter Tryz.func80, Tryz.ntmps80
      go_wp2_with (go_at_call 86; refine (rwithin_any _ _).mono ?_; rintro e w' ⟨rfl, rfl⟩)
      go_ret
      exact ⟨ret_i HF.out.symm, rfl⟩
    · have HF := Lib.hid (show fdiv a b = 0 by unfold fdiv; rw [if_pos c0, if_neg c1, if_neg c2])
      clear c0
      go_enter Tryz.func80, Tryz.ntmps80
      go_wp2_with (go_at_call 86; refine (rwithin_any _ _).mono ?_; rintro e w' ⟨rfl, rfl⟩)
      go_ret
      exact ⟨ret_i HF.out.symm, rfl⟩
  · have HF := Lib.hid (show fdiv a b = wi (ffl (wi a * 65536) (wi b)) by unfold fdiv; rw [if_neg c0])
    by_cases c1 : wi b < 0
    · have HG := Lib.hid (show ffl (wi a * 65536) (wi b) = 65536 * -wi a / -wi b by
        unfold ffl; rw [← Int.neg_fdiv_neg, Int.fdiv_eq_ediv_of_nonneg _ (by omega)]; congr 1; omega)
      clear c0
      go_enter Tryz.func80, Tryz.ntmps80
      go_wp2_with (first
        | (go_at_call 88; refine (rby_any _ _ _ (by omega) (by omega) (by omega)).mono ?_; rintro e w' ⟨rfl, rfl⟩)
        | (go_at_call 86; refine (rwithin_any _ _).mono ?_; rintro e w' ⟨rfl, rfl⟩))
      go_ret
      exact ⟨ret_i (by rw [HF.out, HG.out]; try rw [Int.ediv_neg]), rfl⟩
    · have HG := Lib.hid (show ffl (wi a * 65536) (wi b) = 65536 * wi a / wi b by
        unfold ffl; rw [Int.fdiv_eq_ediv_of_nonneg _ (by omega)]; congr 1; omega)
      have c2 : 0 < wi b := by omega
      clear c0
      go_enter Tryz.func80, Tryz.ntmps80
      go_wp2_with (first
        | (go_at_call 88; refine (rby_any _ _ _ (by omega) (by omega) (by omega)).mono ?_; rintro e w' ⟨rfl, rfl⟩)
        | (go_at_call 86; refine (rwithin_any _ _).mono ?_; rintro e w' ⟨rfl, rfl⟩))
      go_ret
      exact ⟨ret_i (by rw [HF.out, HG.out]; try rw [Int.ediv_neg]), rfl⟩

theorem rfint_any (n : Int) (w : World) (a0 : -9223372036854775808 ≤ n) (a1 : n ≤ 9223372036854775807) :
    Calls Tryz.prog 79 #[.int .i64 n] w fun e w' => e = .returned (.int .i64 (fint n)) ∧ w = w' := by
  by_cases c1 : 65536 < n
  · have HF := Lib.hid (show wi 4294967296 = fint n by unfold fint smul wi; omega)
    go_enter Tryz.func79, Tryz.ntmps79
    go_wp2_with (go_at_call 86; refine (rwithin_any _ _).mono ?_; rintro e w' ⟨rfl, rfl⟩)
    go_ret
    exact ⟨ret_i HF.out, rfl⟩
  by_cases c2 : n < -65536
  · have HF := Lib.hid (show wi (-4294967296) = fint n by unfold fint smul wi; omega)
    go_enter Tryz.func79, Tryz.ntmps79
    go_wp2_with (go_at_call 86; refine (rwithin_any _ _).mono ?_; rintro e w' ⟨rfl, rfl⟩)
    go_ret
    exact ⟨ret_i HF.out, rfl⟩
  · have HF := Lib.hid (show wi (n * 65536) = fint n by unfold fint smul wi; omega)
    go_enter Tryz.func79, Tryz.ntmps79
    go_wp2_with (go_at_call 86; refine (rwithin_any _ _).mono ?_; rintro e w' ⟨rfl, rfl⟩)
    go_ret
    exact ⟨ret_i HF.out, rfl⟩

theorem rpower_any (k : Int) (w : World) (k0 : -9223372036854775808 ≤ k) (k1 : k ≤ 9223372036854775807) :
    Calls Tryz.prog 123 #[.int .i64 k] w fun e w' => e = .returned (.int .i64 (fpow k)) ∧ w = w' := by
  go_enter Tryz.func123, Tryz.ntmps123
  go_wp2_with fail
  go_loop [3, 4] (fun n i => ∃ j : Nat, j ≤ 60 ∧ (j : Int) ≤ max k 0 ∧ n = .int .i64 (2 ^ j) ∧ i = .int .i64 j) (fun _ i => 60 - (intOf i).toNat)
  case atStart => exact ⟨0, by omega, by omega, rfl, rfl⟩
  case round =>
    obtain ⟨j, j0, j1, rfl, rfl⟩ := hrel
    obtain ⟨p1, p2⟩ := pow_le60 j j0
    by_cases c1 : (j : Int) < k
    · by_cases c2 : j < 60
      · have HS := Lib.hid (show (2 : Int) ^ (j + 1) = 2 ^ j * 2 from Int.pow_succ _ _)
        have p3 := (pow_le60' j c2)
        go_wp2
        go_round
        case rel => exact ⟨j + 1, by omega, by omega, by rw [HS.out], by go_num⟩
        case measure => simp [intOf]; omega
      · have HF := Lib.hid (show (2 : Int) ^ j = fpow k by unfold fpow; congr 1; omega)
        go_wp2
        go_ret
        exact ⟨ret_i HF.out, rfl⟩
    · have HF := Lib.hid (show (2 : Int) ^ j = fpow k by unfold fpow; congr 1; omega)
      go_wp2
      go_ret
      exact ⟨ret_i HF.out, rfl⟩

end Go.Proofs.YtdfgmdmcdnnhfaaGreat
