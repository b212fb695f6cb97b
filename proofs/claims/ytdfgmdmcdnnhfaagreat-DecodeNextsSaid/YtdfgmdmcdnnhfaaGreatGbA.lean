/- Contracts of the number functions: fixed, sat, rand. -/
import Derived.Test.YtdfgmdmcdnnhfaaGreatProg
import Derived.Test.YtdfgmdmcdnnhfaaGreatGbB
import Derived.WalkKit
import Derived.KernelRfl
import Derived.Tactics
import Derived.OwnWalk
import Derived.BigQuiet
import Derived.Deep.QuietTactic
import Derived.Lib.Hide
import Derived.Outline
namespace Go.Proofs.YtdfgmdmcdnnhfaaGreat
open Go.RowKit
set_option linter.unusedVariables false
set_option linter.unusedSimpArgs false
set_option maxRecDepth 100000
attribute [local go_sem] gb_max2 gb_min2 gb_max_two gb_min_two gb_max_three gb_min_three

theorem between_any (n lo hi : Int) (w : World) :
    Calls Tryz.prog 58 #[.int .i64 n, .int .i64 lo, .int .i64 hi] w fun e w' => e = .returned (.int .i64 (max (min n hi) lo)) ∧ w = w' := by
  go_enter Tryz.func58, Tryz.ntmps58
  go_wp2
  go_ret
  exact ⟨rfl, rfl⟩

theorem within_any (n : Int) (w : World) :
    Calls Tryz.prog 39 #[.int .i64 n] w fun e w' => e = .returned (.int .i64 (wi n)) ∧ w = w' := by
  go_enter Tryz.func39, Tryz.ntmps39
  go_wp2_with (go_at_call 58; refine (between_any _ _ _ _).mono ?_; rintro e w' ⟨rfl, rfl⟩)
  go_ret
  exact ⟨rfl, rfl⟩

theorem add_any (a b : Int) (w : World) :
    Calls Tryz.prog 65 #[.int .i64 a, .int .i64 b] w fun e w' => e = .returned (.int .i64 (fadd a b)) ∧ w = w' := by
  have h1 := wi_lo a; have h2 := wi_hi a; have h3 := wi_lo b; have h4 := wi_hi b
  go_enter Tryz.func65, Tryz.ntmps65
  go_wp2_with (go_at_call 39; refine (within_any _ _).mono ?_; rintro e w' ⟨rfl, rfl⟩)
  go_ret
  exact ⟨rfl, rfl⟩

theorem mul_any (a b : Int) (w : World) :
    Calls Tryz.prog 21 #[.int .i64 a, .int .i64 b] w fun e w' => e = .returned (.int .i64 (fmul a b)) ∧ w = w' := by
  have h1 := mul_lo a b; have h2 := mul_hi a b
  go_enter Tryz.func21, Tryz.ntmps21
  go_wp2_with (go_at_call 39; refine (within_any _ _).mono ?_; rintro e w' ⟨rfl, rfl⟩)
  go_ret
  exact ⟨rfl, rfl⟩

theorem floored_any (n d : Int) (w : World) (hd : d ≠ 0) (n0 : -4611686018427387904 ≤ n) (n1 : n ≤ 4611686018427387904) :
    Calls Tryz.prog 101 #[.int .i64 n, .int .i64 d] w fun e w' => e = .returned (.int .i64 (ffl n d)) ∧ w = w' := by
  have b0 := tdiv_lo n d 4611686018427387904 n0 n1
  have b1 := tdiv_hi n d 4611686018427387904 n0 n1
  have h0 : (d == 0) = false := by simpa using hd
  by_cases c1 : n.tmod d = 0
  · have HF := Lib.hid (ffl_dvd n d c1)
    have c1' : (n.tmod d == 0) = true := by simpa using c1
    have c1'' : (n.tmod d != 0) = false := by simpa using c1
    clear c1
    go_enter Tryz.func101, Tryz.ntmps101
    go_wp2
    go_ret
    exact ⟨ret_i HF.out.symm, rfl⟩
  · have hf1 := Lib.hid (ffl_same n d c1 hd)
    have hf2 := Lib.hid (ffl_diff n d c1 hd)
    have c1' : (n.tmod d == 0) = false := by simpa using c1
    have c1'' : (n.tmod d != 0) = true := by simpa using c1
    clear c1
    have c2e : ¬ n < 0 → (n % d != 0) = true := fun hn => by rw [← Int.tmod_eq_emod_of_nonneg (by omega)]; exact c1''
    by_cases c2 : n < 0
    · clear c2e
      by_cases c3 : d < 0
      · go_enter Tryz.func101, Tryz.ntmps101
        go_wp2
        go_ret
        exact ⟨ret_i (hf1.out (.inl ⟨c2, c3⟩)).symm, rfl⟩
      · go_enter Tryz.func101, Tryz.ntmps101
        go_wp2
        go_ret
        exact ⟨ret_i (hf2.out (.inl ⟨c2, by omega⟩)).symm, rfl⟩
    · replace c2e := c2e c2
      by_cases c3 : d < 0
      · go_enter Tryz.func101, Tryz.ntmps101
        go_wp2
        go_ret
        exact ⟨ret_i (hf2.out (.inr ⟨by omega, by omega⟩)).symm, rfl⟩
      · go_enter Tryz.func101, Tryz.ntmps101
        go_wp2
        go_ret
        exact ⟨ret_i (hf1.out (.inr ⟨by omega, by omega⟩)).symm, rfl⟩

theorem div_any (a b : Int) (w : World) :
    Calls Tryz.prog 69 #[.int .i64 a, .int .i64 b] w fun e w' => e = .returned (.int .i64 (fdiv a b)) ∧ w = w' := by
  have h1 := wi_lo a; have h2 := wi_hi a; have h3 := wi_lo b; have h4 := wi_hi b
  by_cases c1 : wi b = 0
  · have c1' : (wi b == 0) = true := by simpa using c1
    have c1'' : (wi b != 0) = false := by simpa using c1
    have HF := Lib.hid (show fdiv a b = if 0 < wi a then 2147483647 else if wi a < 0 then -2147483648 else 0 by unfold fdiv; rw [if_pos c1])
    clear c1
    by_cases c2 : 0 < wi a
    · go_enter Tryz.func69, Tryz.ntmps69
      go_wp2_with (go_at_call 39; refine (within_any _ _).mono ?_; rintro e w' ⟨rfl, rfl⟩)
      go_ret
      exact ⟨ret_i (by rw [HF.out, if_pos c2]), rfl⟩
    · by_cases c3 : wi a < 0
      · go_enter Tryz.func69, Tryz.ntmps69
        go_wp2_with (go_at_call 39; refine (within_any _ _).mono ?_; rintro e w' ⟨rfl, rfl⟩)
        go_ret
        exact ⟨ret_i (by rw [HF.out, if_neg (by omega), if_pos c3]), rfl⟩
      · go_enter Tryz.func69, Tryz.ntmps69
        go_wp2_with (go_at_call 39; refine (within_any _ _).mono ?_; rintro e w' ⟨rfl, rfl⟩)
        go_ret
        exact ⟨ret_i (by rw [HF.out, if_neg (by omega), if_neg (by omega)]), rfl⟩
  · have c1' : (wi b == 0) = false := by simpa using c1
    have c1'' : (wi b != 0) = true := by simpa using c1
    have HF := Lib.hid (show fdiv a b = wi (ffl (wi a * 65536) (wi b)) by unfold fdiv; rw [if_neg c1])
    have HC := Lib.hid c1
    clear c1
    go_enter Tryz.func69, Tryz.ntmps69
    go_wp2_with (first
      | (go_at_call 101; refine (floored_any _ _ _ HC.out (by omega) (by omega)).mono ?_; rintro e w' ⟨rfl, rfl⟩)
      | (go_at_call 39; refine (within_any _ _).mono ?_; rintro e w' ⟨rfl, rfl⟩))
    go_ret
    exact ⟨ret_i HF.out.symm, rfl⟩

theorem mul64_any (x y : Int) (w : World) (x0 : 0 ≤ x) (x1 : x ≤ 18446744073709551615) (y0 : 0 ≤ y) (y1 : y ≤ 18446744073709551615) :
    Calls Tryz.prog 93 #[.int .u64 x, .int .u64 y] w fun e w' => e = .returned (.tuple #[.int .u64 (mhi x y), .int .u64 (mlo x y)]) ∧ w = w' := by
  have HF := Lib.hid (mhi_parts x y x0 x1 y0 y1)
  have HL := Lib.hid (show IntKind.u64.wrap (x * y) = mlo x y by simp [IntKind.wrap, IntKind.bits, IntKind.signed, mlo])
  have b1 := u64_and32 x x0 x1
  have b2 := u64_and32 y y0 y1
  have i1 : 0 ≤ x / 4294967296 := by omega
  have i2 : x / 4294967296 ≤ 4294967295 := by omega
  have i3 : 0 ≤ y / 4294967296 := by omega
  have i4 : y / 4294967296 ≤ 4294967295 := by omega
  have i5 : 0 ≤ x % 4294967296 := by omega
  have i6 : x % 4294967296 ≤ 4294967295 := by omega
  have i7 : 0 ≤ y % 4294967296 := by omega
  have i8 : y % 4294967296 ≤ 4294967295 := by omega
  have l1 := mulb_lo _ _ i1 i3
  have l2 := mulb_lo _ _ i1 i7
  have l3 := mulb_lo _ _ i5 i3
  have l4 := mulb_lo _ _ i5 i7
  have r1 := mulb_hi _ _ _ i1 i3 i2 i4
  have r2 := mulb_hi _ _ _ i1 i7 i2 i8
  have r3 := mulb_hi _ _ _ i5 i3 i6 i4
  have r4 := mulb_hi _ _ _ i5 i7 i6 i8
  have b3 := u64_and32 (x / 4294967296 * (y % 4294967296) + x % 4294967296 * (y % 4294967296) / 4294967296) (by omega) (by omega)
  clear i1 i2 i3 i4 i5 i6 i7 i8
  go_enter Tryz.func93, Tryz.ntmps93
  go_wp2
  go_ret2
  exact ⟨ret_ii HF.out HL.out, rfl⟩

theorem splain_any (n : Int) (w : World) (h0 : -9223372036854775808 ≤ n) (h1 : n ≤ 9223372036854775807) :
    Calls Tryz.prog 120 #[.int .i64 n] w fun e w' => e = .returned (.int .u64 (splain n)) ∧ w = w' := by
  by_cases c : n < 0
  · have HF := Lib.hid (show IntKind.u64.wrap (-IntKind.u64.wrap n) = splain n by simp [IntKind.wrap, IntKind.bits, IntKind.signed, splain]; omega)
    go_enter Tryz.func120, Tryz.ntmps120
    go_wp2
    go_ret
    exact ⟨ret_i HF.out, rfl⟩
  · have HF := Lib.hid (show IntKind.u64.wrap n = splain n by simp [IntKind.wrap, IntKind.bits, IntKind.signed, splain]; omega)
    have HG := Lib.hid (show n = splain n by simp [splain]; omega)
    go_enter Tryz.func120, Tryz.ntmps120
    go_wp2
    go_ret
    first | exact ⟨ret_i HF.out, rfl⟩ | exact ⟨ret_i HG.out, rfl⟩

theorem exp_any (x : Int) (w : World) :
    Calls Tryz.prog 110 #[.int .i64 x] w fun e w' => e = .returned (.int .i64 (fexp x)) ∧ w = w' := by
  have h1 := wi_lo x; have h2 := wi_hi x
  have HF := Lib.hid (show fexp x = if 16 ≤ wi x * 94548 / 65536 / 65536 then 2147483647
    else if 0 ≤ wi x * 94548 / 65536 / 65536 then wi ((65536 + (wi x * 94548 / 65536 % 65536) * (43691 + (wi x * 94548 / 65536 % 65536) * 21845 / 65536) / 65536) * 2 ^ (wi x * 94548 / 65536 / 65536).toNat)
    else (65536 + (wi x * 94548 / 65536 % 65536) * (43691 + (wi x * 94548 / 65536 % 65536) * 21845 / 65536) / 65536) / 2 ^ (min (-(wi x * 94548 / 65536 / 65536)) 62).toNat from rfl)
  have b1 := i64_and65535 (wi x * 94548 / 65536)
  have b2 : 0 ≤ wi x * 94548 / 65536 % 65536 := by omega
  have b3 : wi x * 94548 / 65536 % 65536 ≤ 65535 := by omega
  obtain ⟨c1, c2, c3, c4⟩ := fep_in _ b2 b3
  have hp := pow_le16 (wi x * 94548 / 65536 / 65536).toNat
  unfold fep at c1 c2
  by_cases d1 : 16 ≤ wi x * 94548 / 65536 / 65536
  · clear hp
    go_enter Tryz.func110, Tryz.ntmps110
    go_wp2_with (go_at_call 39; refine (within_any _ _).mono ?_; rintro e w' ⟨rfl, rfl⟩)
    go_ret
    exact ⟨ret_i (by rw [HF.out, if_pos d1]), rfl⟩
  · by_cases d2 : 0 ≤ wi x * 94548 / 65536 / 65536
    · obtain ⟨p1, p2⟩ := hp (by omega)
      have m1 := mulb_lo _ _ (by omega : 0 ≤ (65536 + (wi x * 94548 / 65536 % 65536) * (43691 + (wi x * 94548 / 65536 % 65536) * 21845 / 65536) / 65536)) (by omega : (0 : Int) ≤ 2 ^ (wi x * 94548 / 65536 / 65536).toNat)
      have m2 := mulb_hi _ _ 131072 (by omega : 0 ≤ (65536 + (wi x * 94548 / 65536 % 65536) * (43691 + (wi x * 94548 / 65536 % 65536) * 21845 / 65536) / 65536)) (by omega : (0 : Int) ≤ 2 ^ (wi x * 94548 / 65536 / 65536).toNat) (by omega) (by omega)
      have HW := Lib.hid (show wrap64 ((65536 + (wi x * 94548 / 65536 % 65536) * (43691 + (wi x * 94548 / 65536 % 65536) * 21845 / 65536) / 65536) * 2 ^ (wi x * 94548 / 65536 / 65536).toNat) = _ from IntWalk.wrap64_in _ ⟨by omega, by omega⟩)
      clear hp
      go_enter Tryz.func110, Tryz.ntmps110
      go_wp2_with (go_at_call 39; refine (within_any _ _).mono ?_; rintro e w' ⟨rfl, rfl⟩)
      go_ret
      exact ⟨ret_i (by rw [HF.out, if_neg (by omega), if_pos (by omega)]), rfl⟩
    · clear hp
      go_enter Tryz.func110, Tryz.ntmps110
      go_wp2_with (go_at_call 39; refine (within_any _ _).mono ?_; rintro e w' ⟨rfl, rfl⟩)
      go_ret
      exact ⟨ret_i (by rw [HF.out, if_neg (by omega), if_neg (by omega)]), rfl⟩

theorem smul_any (a b : Int) (w : World) (a0 : -9223372036854775808 ≤ a) (a1 : a ≤ 9223372036854775807) (b0 : -9223372036854775808 ≤ b) (b1 : b ≤ 9223372036854775807) :
    Calls Tryz.prog 102 #[.int .i64 a, .int .i64 b] w fun e w' => e = .returned (.int .i64 (smul a b)) ∧ w = w' := by
  have p0 := splain_lo a
  have p1 := splain_hi a a0 a1
  have q0 := splain_lo b
  have q1 := splain_hi b b0 b1
  have l0 := mlo_lo (splain a) (splain b)
  have l1 := mlo_hi (splain a) (splain b)
  have m0 := mhi_lo (splain a) (splain b) p0 q0
  have HW := Lib.hid (show ∀ n : Int, IntKind.u64.wrap n = n % 18446744073709551616 by intro n; simp [IntKind.wrap, IntKind.bits, IntKind.signed])
  have HV := Lib.hid (show ∀ n : Int, wrap64 n = (n + 9223372036854775808) % 18446744073709551616 - 9223372036854775808 by intro n; unfold wrap64; omega)
  by_cases c1 : a < 0 <;> by_cases c2 : b < 0
  · have HF := Lib.hid (smul_p a b (by omega))
    by_cases c3 : 0 < mhi (splain a) (splain b)
    · go_enter Tryz.func102, Tryz.ntmps102
      go_wp2_with (first
        | (go_at_call 120; refine (splain_any _ _ (by omega) (by omega)).mono ?_; rintro e w' ⟨rfl, rfl⟩)
        | (go_at_call 93; refine (mul64_any _ _ _ (by omega) (by omega) (by omega) (by omega)).mono ?_; rintro e w' ⟨rfl, rfl⟩))
      go_ret
      exact ⟨ret_i (by rw [HF.out]; omega), rfl⟩
    by_cases c4 : 9223372036854775807 < mlo (splain a) (splain b)
    · go_enter Tryz.func102, Tryz.ntmps102
      go_wp2_with (first
        | (go_at_call 120; refine (splain_any _ _ (by omega) (by omega)).mono ?_; rintro e w' ⟨rfl, rfl⟩)
        | (go_at_call 93; refine (mul64_any _ _ _ (by omega) (by omega) (by omega) (by omega)).mono ?_; rintro e w' ⟨rfl, rfl⟩))
      go_ret
      exact ⟨ret_i (by rw [HF.out]; omega), rfl⟩
    · go_enter Tryz.func102, Tryz.ntmps102
      go_wp2_with (first
        | (go_at_call 120; refine (splain_any _ _ (by omega) (by omega)).mono ?_; rintro e w' ⟨rfl, rfl⟩)
        | (go_at_call 93; refine (mul64_any _ _ _ (by omega) (by omega) (by omega) (by omega)).mono ?_; rintro e w' ⟨rfl, rfl⟩))
      go_ret
      exact ⟨ret_i (by rw [HF.out]; first | omega | (rw [HV.out]; omega)), rfl⟩
  · have HF := Lib.hid (smul_m a b (by omega))
    by_cases c3 : 0 < mhi (splain a) (splain b)
    · go_enter Tryz.func102, Tryz.ntmps102
      go_wp2_with (first
        | (go_at_call 120; refine (splain_any _ _ (by omega) (by omega)).mono ?_; rintro e w' ⟨rfl, rfl⟩)
        | (go_at_call 93; refine (mul64_any _ _ _ (by omega) (by omega) (by omega) (by omega)).mono ?_; rintro e w' ⟨rfl, rfl⟩))
      go_ret
      exact ⟨ret_i (by rw [HF.out]; omega), rfl⟩
    by_cases c4 : 9223372036854775808 < mlo (splain a) (splain b)
    · go_enter Tryz.func102, Tryz.ntmps102
      go_wp2_with (first
        | (go_at_call 120; refine (splain_any _ _ (by omega) (by omega)).mono ?_; rintro e w' ⟨rfl, rfl⟩)
        | (go_at_call 93; refine (mul64_any _ _ _ (by omega) (by omega) (by omega) (by omega)).mono ?_; rintro e w' ⟨rfl, rfl⟩))
      go_ret
      exact ⟨ret_i (by rw [HF.out]; omega), rfl⟩
    · go_enter Tryz.func102, Tryz.ntmps102
      go_wp2_with (first
        | (go_at_call 120; refine (splain_any _ _ (by omega) (by omega)).mono ?_; rintro e w' ⟨rfl, rfl⟩)
        | (go_at_call 93; refine (mul64_any _ _ _ (by omega) (by omega) (by omega) (by omega)).mono ?_; rintro e w' ⟨rfl, rfl⟩))
      go_ret
      exact ⟨ret_i (by rw [HF.out, HV.out]; first | omega | (rw [HW.out]; omega)), rfl⟩
  · have HF := Lib.hid (smul_m a b (by omega))
    by_cases c3 : 0 < mhi (splain a) (splain b)
    · go_enter Tryz.func102, Tryz.ntmps102
      go_wp2_with (first
        | (go_at_call 120; refine (splain_any _ _ (by omega) (by omega)).mono ?_; rintro e w' ⟨rfl, rfl⟩)
        | (go_at_call 93; refine (mul64_any _ _ _ (by omega) (by omega) (by omega) (by omega)).mono ?_; rintro e w' ⟨rfl, rfl⟩))
      go_ret
      exact ⟨ret_i (by rw [HF.out]; omega), rfl⟩
    by_cases c4 : 9223372036854775808 < mlo (splain a) (splain b)
    · go_enter Tryz.func102, Tryz.ntmps102
      go_wp2_with (first
        | (go_at_call 120; refine (splain_any _ _ (by omega) (by omega)).mono ?_; rintro e w' ⟨rfl, rfl⟩)
        | (go_at_call 93; refine (mul64_any _ _ _ (by omega) (by omega) (by omega) (by omega)).mono ?_; rintro e w' ⟨rfl, rfl⟩))
      go_ret
      exact ⟨ret_i (by rw [HF.out]; omega), rfl⟩
    · go_enter Tryz.func102, Tryz.ntmps102
      go_wp2_with (first
        | (go_at_call 120; refine (splain_any _ _ (by omega) (by omega)).mono ?_; rintro e w' ⟨rfl, rfl⟩)
        | (go_at_call 93; refine (mul64_any _ _ _ (by omega) (by omega) (by omega) (by omega)).mono ?_; rintro e w' ⟨rfl, rfl⟩))
      go_ret
      exact ⟨ret_i (by rw [HF.out, HV.out]; first | omega | (rw [HW.out]; omega)), rfl⟩
  · have HF := Lib.hid (smul_p a b (by omega))
    by_cases c3 : 0 < mhi (splain a) (splain b)
    · go_enter Tryz.func102, Tryz.ntmps102
      go_wp2_with (first
        | (go_at_call 120; refine (splain_any _ _ (by omega) (by omega)).mono ?_; rintro e w' ⟨rfl, rfl⟩)
        | (go_at_call 93; refine (mul64_any _ _ _ (by omega) (by omega) (by omega) (by omega)).mono ?_; rintro e w' ⟨rfl, rfl⟩))
      go_ret
      exact ⟨ret_i (by rw [HF.out]; omega), rfl⟩
    by_cases c4 : 9223372036854775807 < mlo (splain a) (splain b)
    · go_enter Tryz.func102, Tryz.ntmps102
      go_wp2_with (first
        | (go_at_call 120; refine (splain_any _ _ (by omega) (by omega)).mono ?_; rintro e w' ⟨rfl, rfl⟩)
        | (go_at_call 93; refine (mul64_any _ _ _ (by omega) (by omega) (by omega) (by omega)).mono ?_; rintro e w' ⟨rfl, rfl⟩))
      go_ret
      exact ⟨ret_i (by rw [HF.out]; omega), rfl⟩
    · go_enter Tryz.func102, Tryz.ntmps102
      go_wp2_with (first
        | (go_at_call 120; refine (splain_any _ _ (by omega) (by omega)).mono ?_; rintro e w' ⟨rfl, rfl⟩)
        | (go_at_call 93; refine (mul64_any _ _ _ (by omega) (by omega) (by omega) (by omega)).mono ?_; rintro e w' ⟨rfl, rfl⟩))
      go_ret
      exact ⟨ret_i (by rw [HF.out]; first | omega | (rw [HV.out]; omega)), rfl⟩

theorem fint_any (n : Int) (w : World) (a0 : -9223372036854775808 ≤ n) (a1 : n ≤ 9223372036854775807) :
    Calls Tryz.prog 70 #[.int .i64 n] w fun e w' => e = .returned (.int .i64 (fint n)) ∧ w = w' := by
  go_enter Tryz.func70, Tryz.ntmps70
  go_wp2_with (first
    | (go_at_call 102; refine (smul_any _ _ _ (by omega) (by omega) (by omega) (by omega)).mono ?_; rintro e w' ⟨rfl, rfl⟩)
    | (go_at_call 39; refine (within_any _ _).mono ?_; rintro e w' ⟨rfl, rfl⟩))
  go_ret
  exact ⟨rfl, rfl⟩

theorem rmix_any (n : Int) (w : World) (n0 : 0 ≤ n) (n1 : n ≤ 18446744073709551615) :
    Calls Tryz.prog 92 #[.int .u64 n] w fun e w' => e = .returned (.int .u64 (rmix n)) ∧ w = w' := by
  go_enter Tryz.func92, Tryz.ntmps92
  go_wp2
  go_ret
  exact ⟨rfl, rfl⟩

theorem rat_any (s n : Int) (w : World) :
    Calls Tryz.prog 56 #[.int .u64 s, .int .u64 n] w fun e w' => e = .returned (.int .u64 (rat s n)) ∧ w = w' := by
  have HW := Lib.hid (show ∀ n : Int, IntKind.u64.wrap n = n % 18446744073709551616 by intro n; simp [IntKind.wrap, IntKind.bits, IntKind.signed])
  go_enter Tryz.func56, Tryz.ntmps56
  go_wp2_with (go_at_call 92; refine (rmix_any _ _ (by rw [HW.out]; omega) (by rw [HW.out]; omega)).mono ?_; rintro e w' ⟨rfl, rfl⟩)
  go_ret
  exact ⟨rfl, rfl⟩

theorem rbelow_any (s n t : Int) (w : World) (t0 : 0 ≤ t) (t1 : t ≤ 18446744073709551615) :
    Calls Tryz.prog 57 #[.int .u64 s, .int .u64 n, .int .u64 t] w fun e w' => e = .returned (.int .u64 (rbelow s n t)) ∧ w = w' := by
  have h := rat_range s n
  have h1 := h.1; have h2 := h.2
  go_enter Tryz.func57, Tryz.ntmps57
  go_wp2_with (first
    | (go_at_call 56; refine (rat_any _ _ _).mono ?_; rintro e w' ⟨rfl, rfl⟩)
    | (go_at_call 93; refine (mul64_any _ _ _ (by omega) (by omega) (by omega) (by omega)).mono ?_; rintro e w' ⟨rfl, rfl⟩))
  go_ret
  exact ⟨rfl, rfl⟩

theorem sqrt_any (x : Int) (w : World) :
    Calls Tryz.prog 97 #[.int .i64 x] w fun e w' => e = .returned (.int .i64 (froot x)) ∧ w = w' := by
  have h1 := wi_lo x; have h2 := wi_hi x
  by_cases c0 : wi x ≤ 0
  · have HP := Lib.hid (show froot x = 0 by unfold froot; rw [if_pos c0])
    go_enter Tryz.func97, Tryz.ntmps97
    go_wp2_with (go_at_call 39; refine (within_any _ _).mono ?_; rintro e w' ⟨rfl, rfl⟩)
    go_ret
    exact ⟨ret_i HP.out.symm, rfl⟩
  · have HP := Lib.hid (froot_eq x (by omega))
    have c1 : 0 < wi x * 65536 := by omega
    go_enter Tryz.func97, Tryz.ntmps97
    go_wp2_with (go_at_call 39; refine (within_any _ _).mono ?_; rintro e w' ⟨rfl, rfl⟩)
    go_loop [4] (fun i => ∃ s : Int, 1 ≤ s ∧ s ≤ 4294967296 ∧ IsAbove (wi x * 65536) s ∧ i = .int .i64 s) (fun i => (intOf i).toNat)
    case atStart => exact ⟨4294967296, by omega, by omega, by unfold IsAbove; omega, rfl⟩
    case round =>
      obtain ⟨s, s0, s1, s2, rfl⟩ := hrel
      have q0 : 0 ≤ wi x * 65536 / s := Int.ediv_nonneg (by omega) (by omega)
      have q1 : wi x * 65536 / s ≤ wi x * 65536 := Int.ediv_le_self _ (by omega)
      have z : (s == 0) = false := by simp; omega
      have HN := Lib.hid (newton_next (wi x * 65536) s (by omega) s0)
      have HE := Lib.hid (newton_end (wi x * 65536) s (by omega) s0 s2)
      clear s2
      by_cases d1 : s ≤ (s + wi x * 65536 / s) / 2
      · go_wp2
        go_ret
        exact ⟨ret_i (HP.out s (HE.out d1)).symm, rfl⟩
      · go_wp2
        go_round
        case rel => exact ⟨_, (HN.out (by omega)).1, by omega, (HN.out (by omega)).2, rfl⟩
        case measure => simp [intOf]; omega

end Go.Proofs.YtdfgmdmcdnnhfaaGreat
