/- Contracts of the document's Sqrt, Exp and draws. -/
import Derived.Test.YtdfgmdmcdnnhfaaGreatGbR
import Derived.Test.YtdfgmdmcdnnhfaaGreatProg
import Derived.Test.YtdfgmdmcdnnhfaaGreatGbB
import Derived.Test.YtdfgmdmcdnnhfaaGreatGbW
import Derived.Test.YtdfgmdmcdnnhfaaGreatWMore
import Derived.WalkKit
import Derived.KernelRfl
import Derived.Tactics
import Derived.OwnWalk
import Derived.BigQuiet
import Derived.Deep.QuietTactic
import Derived.Lib.Hide
import Derived.Outline
import Derived.Shelf.Abstract
import Derived.WalkSpells
namespace Go.Proofs.YtdfgmdmcdnnhfaaGreat
open Go.RowKit Go.Shelf Go.Proofs.YtdfgmdmcdnnhfaaGreatW.PrintWords Go.Proofs.YtdfgmdmcdnnhfaaGreatW.PrintLast Go.Proofs.YtdfgmdmcdnnhfaaGreatW.PrintMore
set_option linter.unusedVariables false
set_option linter.unusedSimpArgs false
set_option maxRecDepth 100000
attribute [local go_sem] gb_max2 gb_min2 gb_max_two gb_min_two gb_max_three gb_min_three

theorem isq_bd (s k n : Int) (h0 : 0 ≤ s) (hn : n ≤ 140737488355328) (h : s * s ≤ n) : s ≤ 16777216 := by
  by_cases c : s ≤ 16777216
  · exact c
  · have : 16777217 * 16777217 ≤ s * s := Int.mul_le_mul (by omega) (by omega) (by omega) (by omega)
    omega

/-- What holds while the root is made bit by bit: k is the next bit. -/
def SqI (n R : Int) (s k : Int) : Prop := ∃ j : Nat, j ≤ 32 ∧ k = (if j = 0 then 0 else 2 ^ (j - 1)) ∧ 0 ≤ s ∧ (s = 0 ∨ s * s ≤ n) ∧ isq j n s = R

theorem isq_neg (n : Int) (h : n < 0) : ∀ j, isq j n 0 = 0 := by
  intro j
  induction j with
  | zero => rfl
  | succ j ih =>
    unfold isq
    rw [if_neg]
    · exact ih
    · have : (0 : Int) < 2 ^ j := Int.pow_pos (by decide)
      have := mulself_nonneg ((0 : Int) + 2 ^ j)
      omega
theorem isq_zero : ∀ j, isq j 0 0 = 0 := by
  intro j
  induction j with
  | zero => rfl
  | succ j ih =>
    unfold isq
    rw [if_neg]
    · exact ih
    · have h1 : (0 : Int) < 2 ^ j := Int.pow_pos (by decide)
      have : (0 : Int) < (0 + 2 ^ j) * (0 + 2 ^ j) := Int.mul_pos (by omega) (by omega)
      omega
theorem froot_isq (x : Int) : froot x = isq 32 (65536 * wi x) 0 := by
  unfold froot
  rw [Int.mul_comm]
  by_cases h : wi x ≤ 0
  · rw [if_pos h]
    by_cases h2 : wi x = 0
    · rw [h2]; exact (isq_zero 32).symm
    · exact (isq_neg _ (by omega) 32).symm
  · rw [if_neg h]
theorem sqI_start (x : Int) : SqI (65536 * wi x) (froot x) 0 2147483648 := ⟨32, by omega, by simp, by omega, .inl rfl, (froot_isq x).symm⟩
theorem sqI_end {n R s : Int} (h : SqI n R s 0) : s = R := by
  obtain ⟨j, h1, h2, h3, h4, h5⟩ := h
  cases j with
  | zero => exact h5
  | succ j =>
    have h9 : (0 : Int) < 2 ^ j := Int.pow_pos (by decide)
    simp at h2
    omega
theorem sqI_pos {n R s k : Int} (h : SqI n R s k) (hk : 0 < k) (hn : n ≤ 140737488355328) : 0 ≤ s ∧ s ≤ 16777216 ∧ k ≤ 2147483648 := by
  obtain ⟨j, h1, h2, h3, h4, h5⟩ := h
  refine ⟨h3, ?_, ?_⟩
  · rcases h4 with h4 | h4
    · omega
    · exact isq_bd s k n h3 hn h4
  · cases j with
    | zero => simp at h2; omega
    | succ j =>
      have : ∀ i : Fin 32, (2 : Int) ^ i.val ≤ 2147483648 := by decide
      have := this ⟨j, by omega⟩
      simp at h2 this; omega
theorem sqI_step {n R s k : Int} (h : SqI n R s k) (hk : 0 < k) : SqI n R (if (s + k) * (s + k) ≤ n then s + k else s) (k / 2) := by
  obtain ⟨j, h1, h2, h3, h4, h5⟩ := h
  cases j with
  | zero => simp at h2; omega
  | succ j =>
    have hk2 : k = 2 ^ j := by simpa using h2
    refine ⟨j, by omega, ?_, ?_, ?_, ?_⟩
    · cases j with
      | zero => rw [hk2]; decide
      | succ j =>
        rw [hk2, Int.pow_succ]
        simp
    · split <;> omega
    · split
      · right; assumption
      · exact h4
    · rw [isq, ← hk2] at h5; exact h5

theorem rsqrt_any (x : Int) (w : World) :
    Calls Tryz.prog 78 #[.int .i64 x] w fun e w' => e = .returned (.int .i64 (froot x)) ∧ w = w' := by
  have h1 := wi_lo x; have h2 := wi_hi x
  have HS := Lib.hid (sqI_start x)
  go_enter Tryz.func78, Tryz.ntmps78
  go_wp2_with (go_at_call 86; refine (rwithin_any _ _).mono ?_; rintro e w' ⟨rfl, rfl⟩)
  go_loop [4, 5] (fun s k => ∃ a b : Int, s = .int .i64 a ∧ k = .int .i64 b ∧ 0 ≤ b ∧ Hid (SqI (65536 * wi x) (froot x) a b)) (fun _ k => (intOf k).toNat)
  case atStart => exact ⟨0, 2147483648, rfl, rfl, by omega, HS⟩
  case round =>
    obtain ⟨a, b, rfl, rfl, hb, hI⟩ := hrel
    by_cases hb0 : 0 < b
    · obtain ⟨a0, a1, b1⟩ := sqI_pos hI.out hb0 (by omega)
      have m0 := mulself_nonneg (a + b)
      have m1 := mulb_hi (a + b) (a + b) 2164260864 (by omega) (by omega) (by omega) (by omega)
      have HST := Lib.hid (sqI_step hI.out hb0)
      by_cases hc : (a + b) * (a + b) ≤ 65536 * wi x
      · have HX := Lib.hid (show SqI (65536 * wi x) (froot x) (a + b) (b / 2) by have := HST.out; rw [if_pos hc] at this; exact this)
        go_wp2_with fail
        go_round
        case rel => exact ⟨a + b, b / 2, rfl, rfl, by omega, HX⟩
        case measure => simp [intOf]; omega
      · have HX := Lib.hid (show SqI (65536 * wi x) (froot x) a (b / 2) by have := HST.out; rw [if_neg hc] at this; exact this)
        go_wp2_with fail
        go_round
        case rel => exact ⟨a, b / 2, rfl, rfl, by omega, HX⟩
        case measure => simp [intOf]; omega
    · obtain rfl : b = 0 := by omega
      have HF := Lib.hid (sqI_end hI.out)
      go_wp2_with fail
      go_ret
      exact ⟨ret_i HF.out, rfl⟩

theorem pow_big (p : Int) (m : Nat) (h0 : 0 ≤ p) (h1 : p ≤ 262144) (hm : 60 ≤ m) : p / 2 ^ m = 0 := by
  have h2 : (2 : Int) ^ 60 ≤ 2 ^ m := by
    have : (2 : Nat) ^ 60 ≤ 2 ^ m := Nat.pow_le_pow_right (by decide) hm
    exact_mod_cast this
  exact Int.ediv_eq_zero_of_lt h0 (by have : (262144 : Int) < 2 ^ 60 := by decide
                                      omega)
theorem exp_tail (p k : Int) (h0 : 0 ≤ p) (h1 : p ≤ 262144) (hk : k < 0) : p / 2 ^ (min (-k) 62).toNat = p / fpow (-k) := by
  unfold fpow
  by_cases h : -k ≤ 60
  · rw [show min (-k) 62 = min (-k) 60 by omega]
  · rw [pow_big p _ h0 h1 (by omega), pow_big p _ h0 h1 (by omega)]

theorem rexp_any (x : Int) (w : World) :
    Calls Tryz.prog 114 #[.int .i64 x] w fun e w' => e = .returned (.int .i64 (fexp x)) ∧ w = w' := by
  have h1 := wi_lo x; have h2 := wi_hi x
  obtain ⟨y, hy⟩ : ∃ y, wi x * 94548 / 65536 = y := ⟨_, rfl⟩
  have y1 : -3100000000 ≤ y := by omega
  have y2 : y ≤ 3100000000 := by omega
  obtain ⟨k, hk⟩ : ∃ k, y / 65536 = k := ⟨_, rfl⟩
  have k1 : -50000 ≤ k := by omega
  have k2 : k ≤ 50000 := by omega
  obtain ⟨f, hf⟩ : ∃ f, y - k * 65536 = f := ⟨_, rfl⟩
  have f1 : 0 ≤ f := by omega
  have f2 : f ≤ 65535 := by omega
  obtain ⟨c1, c2, c3, c4⟩ := fep_in f f1 f2
  obtain ⟨p, hp⟩ : ∃ p, fep f = p := ⟨_, rfl⟩
  rw [hp] at c1 c2
  have hp' : 65536 + f * (43691 + f * 21845 / 65536) / 65536 = p := hp
  have HF := Lib.hid (show fexp x = if 16 ≤ k then 2147483647 else if 0 ≤ k then wi (p * 2 ^ k.toNat) else p / 2 ^ (min (-k) 62).toNat by
    unfold fexp fey
    rw [hy, hk, show y % 65536 = f by omega, hp])
  have HT := Lib.hid (exp_tail p k (by omega) (by omega))
  have hpw := pow_le16 k.toNat
  have HPK := Lib.hid (show 0 ≤ k → k < 16 → fpow k = 2 ^ k.toNat from fun _ _ => by unfold fpow; rw [show min k 60 = k by omega])
  have HY := Lib.hid hy
  have HK := Lib.hid hk
  have HFF := Lib.hid hf
  have HP := Lib.hid hp'
  clear hy hk hf hp hp'
  have e1 : f * (43691 + f * 21845 / 65536) ≤ 4294836225 := c4
  go_enter Tryz.func114, Tryz.ntmps114
  go_wp2_with fail
  refine (rwithin_any _ _).mono ?_
  rintro e w' ⟨rfl, rfl⟩
  go_wp2_with fail
  refine (rby_any _ _ _ (by omega) (by omega) (by omega)).mono ?_
  rw [HY.out]
  rintro e w' ⟨rfl, rfl⟩
  go_wp2_with fail
  refine (rby_any _ _ _ (by omega) (by omega) (by omega)).mono ?_
  rw [HK.out]
  rintro e w' ⟨rfl, rfl⟩
  go_wp2_with fail
  rw [HFF.out]
  refine (rby_any _ _ _ (by omega) (by omega) (by omega)).mono ?_
  rintro e w' ⟨rfl, rfl⟩
  go_wp2_with fail
  refine (rby_any _ _ _ (by omega) (by omega) (by omega)).mono ?_
  rintro e w' ⟨rfl, rfl⟩
  by_cases d1 : 16 ≤ k
  · have HE := Lib.hid (show fexp x = 2147483647 by rw [HF.out, if_pos d1])
    go_wp2_with fail
    go_ret
    exact ⟨ret_i HE.out.symm, rfl⟩
  · by_cases d2 : 0 ≤ k
    · have HE := Lib.hid (show wi (p * 2 ^ k.toNat) = fexp x by rw [HF.out, if_neg d1, if_pos d2])
      obtain ⟨p1, p2⟩ := hpw (by omega)
      obtain ⟨q, hq⟩ : ∃ q, (2 : Int) ^ k.toNat = q := ⟨_, rfl⟩
      rw [hq] at p1 p2 HE HPK
      have m1 := mulb_lo p q (by omega) (by omega)
      have m2 := mulb_hi p q 131072 (by omega) (by omega) (by omega) (by omega)
      have HQ := Lib.hid (HPK.out d2 (by omega))
      clear hq hpw
      go_wp2_with fail
      rw [HP.out]
      refine (rpower_any _ _ (by omega) (by omega)).mono ?_
      rw [HQ.out]
      rintro e w' ⟨rfl, rfl⟩
      go_wp2_with fail
      refine (rwithin_any _ _).mono ?_
      rintro e w' ⟨rfl, rfl⟩
      go_wp2_with fail
      go_ret
      exact ⟨ret_i HE.out, rfl⟩
    · have HE := Lib.hid (show p / fpow (-k) = fexp x by rw [HF.out, if_neg d1, if_neg d2, HT.out (by omega)])
      obtain ⟨g1, g2⟩ := pow_le60 (min (-k) 60).toNat (by omega)
      have hg : 0 < fpow (-k) := by unfold fpow; omega
      clear hpw
      go_wp2_with fail
      rw [HP.out]
      refine (rpower_any _ _ (by omega) (by omega)).mono ?_
      rintro e w' ⟨rfl, rfl⟩
      go_wp2_with fail
      refine (rby_any _ _ _ hg (by omega) (by omega)).mono ?_
      rintro e w' ⟨rfl, rfl⟩
      go_wp2_with fail
      go_ret
      exact ⟨ret_i HE.out, rfl⟩

theorem rupper_any (x y : Int) (w : World) (x0 : 0 ≤ x) (x1 : x ≤ 18446744073709551615) (y0 : 0 ≤ y) (y1 : y ≤ 18446744073709551615) :
    Calls Tryz.prog 116 #[.int .u64 x, .int .u64 y] w fun e w' => e = .returned (.int .u64 (mhi x y)) ∧ Drawn0 w w' := by
  have HF := Lib.hid (mhi_parts x y x0 x1 y0 y1)
  have i1 : 0 ≤ x / 4294967296 := by omega
  have i2 : x / 4294967296 ≤ 4294967295 := by omega
  have i3 : 0 ≤ y / 4294967296 := by omega
  have i4 : y / 4294967296 ≤ 4294967295 := by omega
  have i5 : 0 ≤ x % 4294967296 := by omega
  have i6 : x % 4294967296 ≤ 4294967295 := by omega
  have i7 : 0 ≤ y % 4294967296 := by omega
  have i8 : y % 4294967296 ≤ 4294967295 := by omega
  have l1 := mulb_lo _ _ i1 i3
  have l2 := mulb_lo _ _ i1 i7
  have l3 := mulb_lo _ _ i5 i3
  have l4 := mulb_lo _ _ i5 i7
  have r1 := mulb_hi _ _ _ i1 i3 i2 i4
  have r2 := mulb_hi _ _ _ i1 i7 i2 i8
  have r3 := mulb_hi _ _ _ i5 i3 i6 i4
  have r4 := mulb_hi _ _ _ i5 i7 i6 i8
  clear i1 i2 i3 i4 i5 i6 i7 i8
  go_enter Tryz.func116, Tryz.ntmps116
  go_wp2_with fail
  go_quiet (fail)
  go_wp2
  go_quiet (fail)
  go_wp2
  go_ret
  exact ⟨ret_i HF.out, Drawn0.step ⟨_, rfl⟩ _⟩

theorem rrmix_any (n : Int) (w : World) (n0 : 0 ≤ n) (n1 : n ≤ 18446744073709551615) :
    Calls Tryz.prog 124 #[.int .u64 n] w fun e w' => e = .returned (.int .u64 (rmix n)) ∧ w = w' := by
  go_enter Tryz.func124, Tryz.ntmps124
  go_wp2
  go_ret
  exact ⟨rfl, rfl⟩

theorem rrat_any (s n : Int) (w : World) :
    Calls Tryz.prog 117 #[.int .u64 s, .int .u64 n] w fun e w' => e = .returned (.int .u64 (rat s n)) ∧ w = w' := by
  have HW := Lib.hid (show ∀ n : Int, IntKind.u64.wrap n = n % 18446744073709551616 by intro n; simp [IntKind.wrap, IntKind.bits, IntKind.signed])
  go_enter Tryz.func117, Tryz.ntmps117
  go_wp2_with (go_at_call 124; refine (rrmix_any _ _ (by rw [HW.out]; omega) (by rw [HW.out]; omega)).mono ?_; rintro e w' ⟨rfl, rfl⟩)
  go_ret
  exact ⟨rfl, rfl⟩

theorem rrbelow_any (s n t : Int) (w : World) (t0 : 0 ≤ t) (t1 : t ≤ 18446744073709551615) :
    Calls Tryz.prog 91 #[.int .u64 s, .int .u64 n, .int .u64 t] w fun e w' => e = .returned (.int .u64 (rbelow s n t)) ∧ Drawn0 w w' := by
  have h := rat_range s n
  have h1 := h.1; have h2 := h.2
  clear h
  go_enter Tryz.func91, Tryz.ntmps91
  go_wp2_with fail
  refine (rrat_any _ _ _).mono ?_
  rintro e w' ⟨rfl, rfl⟩
  go_wp2_with fail
  refine (rupper_any _ _ _ (by omega) (by omega) (by omega) (by omega)).mono ?_
  rintro e w1 ⟨rfl, hd⟩
  have HD := Lib.hid hd
  clear hd
  go_wp2_with fail
  go_ret
  exact ⟨rfl, HD.out⟩

end Go.Proofs.YtdfgmdmcdnnhfaaGreat
