/- Plain number functions of the layers fixed, sat and rand. -/
import Derived.WalkKit
import Derived.Lib.Hide
namespace Go.Proofs.Ytmbhicjjbgbneaa
open Go.RowKit
set_option linter.unusedVariables false
set_option linter.unusedSimpArgs false
set_option maxRecDepth 100000

theorem gb_max2 (k k' : IntKind) (x y : Int) : Builtin.max2 (.int k x) (.int k' y) = pure (.int k (max x y)) := by
  have h : max x y = if x < y then y else x := by split <;> omega
  rw [h]; simp only [Builtin.max2, gt_iff_lt]
theorem gb_min2 (k k' : IntKind) (x y : Int) : Builtin.min2 (.int k x) (.int k' y) = pure (.int k (min x y)) := by
  have h : min x y = if y < x then y else x := by split <;> omega
  rw [h]; simp only [Builtin.min2]
theorem gb_max_two (ats : Array TypeId) (ty : TypeId) (a b : Value) : Builtin.max_ ats ty #[a, b] = (Builtin.max2 a b >>= fun s => pure s) := by simp only [Builtin.max_, List.foldlM_cons, List.foldlM_nil]
theorem gb_min_two (ats : Array TypeId) (ty : TypeId) (a b : Value) : Builtin.min_ ats ty #[a, b] = (Builtin.min2 a b >>= fun s => pure s) := by simp only [Builtin.min_, List.foldlM_cons, List.foldlM_nil]

theorem gb_min_three (ats : Array TypeId) (ty : TypeId) (a b c : Value) : Builtin.min_ ats ty #[a, b, c] = (Builtin.min2 a b >>= fun s => Builtin.min2 s c >>= fun s => pure s) := by simp only [Builtin.min_, List.foldlM_cons, List.foldlM_nil]
theorem gb_max_three (ats : Array TypeId) (ty : TypeId) (a b c : Value) : Builtin.max_ ats ty #[a, b, c] = (Builtin.max2 a b >>= fun s => Builtin.max2 s c >>= fun s => pure s) := by simp only [Builtin.max_, List.foldlM_cons, List.foldlM_nil]
/-- fixed.Within. -/
def wi (n : Int) : Int := max (min n 2147483647) (-2147483648)
theorem wi_lo (n : Int) : -2147483648 ≤ wi n := by unfold wi; omega
theorem wi_hi (n : Int) : wi n ≤ 2147483647 := by unfold wi; omega
theorem wi_id (n : Int) (h0 : -2147483648 ≤ n) (h1 : n ≤ 2147483647) : wi n = n := by unfold wi; omega
theorem wi_wi (n : Int) : wi (wi n) = wi n := wi_id _ (wi_lo n) (wi_hi n)
theorem wi_mono {a b : Int} (h : a ≤ b) : wi a ≤ wi b := by unfold wi; omega
def fadd (a b : Int) : Int := wi (wi a + wi b)
def fmul (a b : Int) : Int := wi ((wi a * wi b) / 65536)
def ffl (n d : Int) : Int := Int.fdiv n d
def fdiv (a b : Int) : Int := if wi b = 0 then (if 0 < wi a then 2147483647 else if wi a < 0 then -2147483648 else 0) else wi (ffl (wi a * 65536) (wi b))
theorem mul_lo (a b : Int) : -4611686018427387904 ≤ wi a * wi b := by
  have h1 := wi_lo a; have h2 := wi_hi a; have h3 := wi_lo b; have h4 := wi_hi b
  generalize wi a = x at *; generalize wi b = y at *
  by_cases hx : 0 ≤ x
  · have : x * (-2147483648) ≤ x * y := Int.mul_le_mul_of_nonneg_left h3 hx
    omega
  · have : x * 2147483647 ≤ x * y := Int.mul_le_mul_of_nonpos_left (by omega) h4
    omega
theorem mul_hi (a b : Int) : wi a * wi b ≤ 4611686018427387904 := by
  have h1 := wi_lo a; have h2 := wi_hi a; have h3 := wi_lo b; have h4 := wi_hi b
  generalize wi a = x at *; generalize wi b = y at *
  by_cases hx : 0 ≤ x
  · have : x * y ≤ x * 2147483647 := Int.mul_le_mul_of_nonneg_left h4 hx
    omega
  · have : x * y ≤ x * (-2147483648) := Int.mul_le_mul_of_nonpos_left (by omega) h3
    omega

theorem tdiv_abs (n d : Int) : (n.tdiv d).natAbs ≤ n.natAbs := by
  rw [Int.natAbs_tdiv]; exact Nat.div_le_self _ _
theorem tdiv_lo (n d b : Int) (h0 : -b ≤ n) (h1 : n ≤ b) : -b ≤ n.tdiv d := by have := tdiv_abs n d; omega
theorem tdiv_hi (n d b : Int) (h0 : -b ≤ n) (h1 : n ≤ b) : n.tdiv d ≤ b := by have := tdiv_abs n d; omega

theorem ffl_dvd (n d : Int) (h : n.tmod d = 0) : ffl n d = n.tdiv d := by
  unfold ffl; rw [Int.fdiv_eq_tdiv, if_pos (Int.dvd_of_tmod_eq_zero h)]; omega
theorem ffl_same (n d : Int) (h : ¬ n.tmod d = 0) (hd : d ≠ 0) (hs : (n < 0 ∧ d < 0) ∨ (¬ n < 0 ∧ ¬ d < 0)) : ffl n d = n.tdiv d := by
  unfold ffl
  rw [Int.fdiv_eq_tdiv, if_neg (fun hh => h (Int.tmod_eq_zero_of_dvd hh))]
  rcases hs with ⟨h1, h2⟩ | ⟨h1, h2⟩
  · rw [if_neg (by omega), if_neg (by omega), Int.sign_eq_neg_one_of_neg h2]; omega
  · rw [if_pos (by omega), if_pos (by omega)]; omega
theorem ffl_diff (n d : Int) (h : ¬ n.tmod d = 0) (hd : d ≠ 0) (hs : (n < 0 ∧ ¬ d < 0) ∨ (¬ n < 0 ∧ d < 0)) : ffl n d = n.tdiv d - 1 := by
  unfold ffl
  rw [Int.fdiv_eq_tdiv, if_neg (fun hh => h (Int.tmod_eq_zero_of_dvd hh))]
  rcases hs with ⟨h1, h2⟩ | ⟨h1, h2⟩
  · rw [if_neg (by omega), if_pos (by omega), Int.sign_eq_one_of_pos (by omega)]
  · rw [if_pos (by omega), if_neg (by omega)]
theorem ret_i {k : IntKind} {a b : Int} (h : a = b) : Ending.returned (.int k a) = .returned (.int k b) := by rw [h]
theorem ret_ii {k k' : IntKind} {a b c d : Int} (h : a = b) (h' : c = d) : Ending.returned (.tuple #[.int k a, .int k' c]) = .returned (.tuple #[.int k b, .int k' d]) := by rw [h, h']
theorem ret_b {a b : Bool} (h : a = b) : Ending.returned (.bool a) = .returned (.bool b) := by rw [h]

theorem i64_and65535 (n : Int) : bits .and .i64 n 65535 = n % 65536 := by
  have h127 : (BitVec.ofInt 64 65535).toNat = 2 ^ 16 - 1 := by decide
  have key : (BitVec.ofInt 64 n &&& BitVec.ofInt 64 65535).toNat = (n % ((2 ^ 64 : Nat) : Int)).toNat % 2 ^ 16 := by
    rw [BitVec.toNat_and, BitVec.toNat_ofInt, h127, Nat.and_two_pow_sub_one_eq_mod]
  show IntKind.i64.wrap ((BitVec.ofInt 64 n &&& BitVec.ofInt 64 65535).toNat : Nat) = n % 65536
  rw [key, IntKind.wrap_i64]
  omega
theorem wraps_u64 (n : Int) (h₀ : 0 ≤ n) (h₁ : n < 2 ^ 64) : IntKind.u64.wrap n = n := by
  have : IntKind.u64.wrap n = n % 18446744073709551616 := by simp [IntKind.wrap, IntKind.bits, IntKind.signed]
  rw [this]; omega
theorem u64_and32 (x : Int) (h0 : 0 ≤ x) (h1 : x ≤ 18446744073709551615) : bits .and .u64 x 4294967295 = x % 4294967296 :=
  bits_mask .u64 64 (by decide) wraps_u64 32 (by decide) x h0 (by omega)
/-- The upper and the lower 64 bits of a product. -/
def mhi (x y : Int) : Int := (x * y) / 18446744073709551616
def mlo (x y : Int) : Int := (x * y) % 18446744073709551616
theorem mulb_lo (x y : Int) (hx : 0 ≤ x) (hy : 0 ≤ y) : 0 ≤ x * y := Int.mul_nonneg hx hy
theorem mulb_hi (x y B : Int) (hx : 0 ≤ x) (hy : 0 ≤ y) (hx1 : x ≤ B) (hy1 : y ≤ B) : x * y ≤ B * B :=
  Int.mul_le_mul hx1 hy1 hy (by omega)
theorem mhi_parts (x y : Int) (x0 : 0 ≤ x) (x1 : x ≤ 18446744073709551615) (y0 : 0 ≤ y) (y1 : y ≤ 18446744073709551615) :
    x / 4294967296 * (y / 4294967296) + (x / 4294967296 * (y % 4294967296) + x % 4294967296 * (y % 4294967296) / 4294967296) / 4294967296 +
      ((x / 4294967296 * (y % 4294967296) + x % 4294967296 * (y % 4294967296) / 4294967296) % 4294967296 + x % 4294967296 * (y / 4294967296)) / 4294967296 = mhi x y := by
  unfold mhi
  have hx : x = 4294967296 * (x / 4294967296) + x % 4294967296 := (Int.mul_ediv_add_emod x 4294967296).symm
  have hy : y = 4294967296 * (y / 4294967296) + y % 4294967296 := (Int.mul_ediv_add_emod y 4294967296).symm
  have hxy : x * y = 18446744073709551616 * (x / 4294967296 * (y / 4294967296)) + 4294967296 * (x / 4294967296 * (y % 4294967296)) + 4294967296 * (x % 4294967296 * (y / 4294967296)) + x % 4294967296 * (y % 4294967296) := by
    generalize x / 4294967296 = a at *; generalize x % 4294967296 = b at *
    generalize y / 4294967296 = c at *; generalize y % 4294967296 = d at *
    subst hx hy
    rw [Int.add_mul, Int.mul_add, Int.mul_add]
    have e1 : 4294967296 * a * (4294967296 * c) = 18446744073709551616 * (a * c) := by
      rw [Int.mul_assoc, Int.mul_left_comm a, ← Int.mul_assoc]; rfl
    have e2 : 4294967296 * a * d = 4294967296 * (a * d) := Int.mul_assoc _ _ _
    have e3 : b * (4294967296 * c) = 4294967296 * (b * c) := Int.mul_left_comm _ _ _
    rw [e1, e2, e3]; omega
  rw [hxy]
  generalize x / 4294967296 * (y / 4294967296) = p
  generalize x / 4294967296 * (y % 4294967296) = q
  generalize x % 4294967296 * (y / 4294967296) = r
  generalize x % 4294967296 * (y % 4294967296) = s
  omega

/-- sat.plain, sat.Mul. -/
def splain (n : Int) : Int := (n.natAbs : Int)
def smul (a b : Int) : Int := max (min (a * b) 9223372036854775807) (-9223372036854775808)
def fint (n : Int) : Int := wi (smul n 65536)
/-- fixed.Exp: y, k, f, p. -/
def fey (x : Int) : Int := wi x * 94548 / 65536
def fep (f : Int) : Int := 65536 + f * (43691 + f * 21845 / 65536) / 65536
def fexp (x : Int) : Int :=
  if 16 ≤ fey x / 65536 then 2147483647
  else if 0 ≤ fey x / 65536 then wi (fep (fey x % 65536) * 2 ^ (fey x / 65536).toNat)
  else fep (fey x % 65536) / 2 ^ (min (-(fey x / 65536)) 62).toNat
theorem fep_in (f : Int) (h0 : 0 ≤ f) (h1 : f ≤ 65535) : 65536 ≤ fep f ∧ fep f ≤ 131072 ∧ 0 ≤ f * (43691 + f * 21845 / 65536) ∧ f * (43691 + f * 21845 / 65536) ≤ 4294836225 := by
  unfold fep
  have h2 : 0 ≤ 43691 + f * 21845 / 65536 := by omega
  have h3 : 43691 + f * 21845 / 65536 ≤ 65535 := by omega
  have h4 := mulb_lo f _ h0 h2
  have h5 := mulb_hi f _ 65535 h0 h2 h1 h3
  generalize f * (43691 + f * 21845 / 65536) = q at *
  omega
theorem pow_le16 (k : Nat) (h : k < 16) : (1 : Int) ≤ 2 ^ k ∧ (2 : Int) ^ k ≤ 32768 := by
  have : ∀ k : Fin 16, (1 : Int) ≤ 2 ^ k.val ∧ (2 : Int) ^ k.val ≤ 32768 := by decide
  exact this ⟨k, h⟩
/-- The floor of the root. -/
def IsRoot (n s : Int) : Prop := 0 ≤ s ∧ s * s ≤ n ∧ n < (s + 1) * (s + 1)

theorem mlo_lo (x y : Int) : 0 ≤ mlo x y := by unfold mlo; omega
theorem mlo_hi (x y : Int) : mlo x y ≤ 18446744073709551615 := by unfold mlo; omega
theorem splain_lo (n : Int) : 0 ≤ splain n := by unfold splain; omega
theorem splain_hi (n : Int) (h0 : -9223372036854775808 ≤ n) (h1 : n ≤ 9223372036854775807) : splain n ≤ 18446744073709551615 := by unfold splain; omega
theorem smul_p (a b : Int) (h : ((a < 0) ↔ (b < 0))) : smul a b = max (min (18446744073709551616 * mhi (splain a) (splain b) + mlo (splain a) (splain b)) 9223372036854775807) (-9223372036854775808) := by
  have e : a * b = splain a * splain b := by
    unfold splain
    by_cases ha : a < 0
    · rw [show (a.natAbs : Int) = -a by omega, show (b.natAbs : Int) = -b by omega, Int.neg_mul_neg]
    · rw [show (a.natAbs : Int) = a by omega, show (b.natAbs : Int) = b by omega]
  unfold smul mhi mlo
  rw [e, Int.mul_ediv_add_emod]
theorem smul_m (a b : Int) (h : ¬ ((a < 0) ↔ (b < 0))) : smul a b = max (min (-(18446744073709551616 * mhi (splain a) (splain b) + mlo (splain a) (splain b))) 9223372036854775807) (-9223372036854775808) := by
  have e : a * b = -(splain a * splain b) := by
    unfold splain
    by_cases ha : a < 0
    · rw [show (a.natAbs : Int) = -a by omega, show (b.natAbs : Int) = b by omega, Int.neg_mul]; omega
    · rw [show (a.natAbs : Int) = a by omega, show (b.natAbs : Int) = -b by omega, Int.mul_neg]; omega
  unfold smul mhi mlo
  rw [e, Int.mul_ediv_add_emod]
theorem mhi_lo (x y : Int) (hx : 0 ≤ x) (hy : 0 ≤ y) : 0 ≤ mhi x y := by unfold mhi; have := mulb_lo x y hx hy; omega
/-- rand. -/
def rmix (n : Int) : Int :=
  let n1 := IntKind.u64.wrap (bits .xor .u64 n (n / 1073741824) * 13787848793156543929)
  let n2 := IntKind.u64.wrap (bits .xor .u64 n1 (n1 / 134217728) * 10723151780598845931)
  bits .xor .u64 n2 (n2 / 2147483648)
def rat (seed n : Int) : Int := rmix (IntKind.u64.wrap (seed + IntKind.u64.wrap (IntKind.u64.wrap (n + 1) * 11400714819323198485)))
def rbelow (seed n top : Int) : Int := mhi (rat seed n) top
def rderive (seed : Int) (l : List Int) : Int := l.foldl rat seed
theorem bits_range (o : BinOp) (a b : Int) : 0 ≤ bits o .u64 a b ∧ bits o .u64 a b ≤ 18446744073709551615 := by
  have : ∀ n : Int, 0 ≤ IntKind.u64.wrap n ∧ IntKind.u64.wrap n ≤ 18446744073709551615 := by
    intro n
    have : IntKind.u64.wrap n = n % 18446744073709551616 := by simp [IntKind.wrap, IntKind.bits, IntKind.signed]
    rw [this]; omega
  unfold bits
  split <;> exact this _
theorem rat_range (s n : Int) : 0 ≤ rat s n ∧ rat s n ≤ 18446744073709551615 := by unfold rat rmix; exact bits_range _ _ _

def IsAbove (n s : Int) : Prop := n < (s + 1) * (s + 1)
theorem mulself_nonneg (a : Int) : 0 ≤ a * a := by
  by_cases h : 0 ≤ a
  · exact Int.mul_nonneg h h
  · exact Int.mul_nonneg_of_nonpos_of_nonpos (by omega) (by omega)
theorem newton_end (n s : Int) (hn : 0 < n) (hs : 1 ≤ s) (ha : IsAbove n s) (h : s ≤ (s + n / s) / 2) : IsRoot n s := by
  refine ⟨by omega, ?_, ha⟩
  have h1 : s ≤ n / s := by omega
  have h2 : s * s ≤ s * (n / s) := Int.mul_le_mul_of_nonneg_left h1 (by omega)
  have h3 : s * (n / s) ≤ n := Int.mul_ediv_self_le (by omega)
  omega
theorem newton_next (n s : Int) (hn : 0 < n) (hs : 1 ≤ s) (h : (s + n / s) / 2 < s) : 1 ≤ (s + n / s) / 2 ∧ IsAbove n ((s + n / s) / 2) := by
  have hq : 0 ≤ n / s := Int.ediv_nonneg (by omega) (by omega)
  have h4 : n < s * (n / s + 1) := by
    have := Int.lt_mul_ediv_self_add (x := n) (k := s) (by omega)
    rw [Int.mul_add]; omega
  generalize n / s = q at *
  have h5 : 1 ≤ (s + q) / 2 := by
    by_cases hs1 : s = 1
    · subst hs1; omega
    · omega
  refine ⟨h5, ?_⟩
  unfold IsAbove
  generalize hr : (s + q) / 2 = r at *
  have h6 : s + q + 1 ≤ 2 * (r + 1) := by omega
  have h7 : (s + q + 1) * (s + q + 1) ≤ (2 * (r + 1)) * (2 * (r + 1)) := Int.mul_le_mul h6 h6 (by omega) (by omega)
  have h8 : (2 * (r + 1)) * (2 * (r + 1)) = 4 * ((r + 1) * (r + 1)) := by
    rw [Int.mul_assoc, Int.mul_left_comm (r + 1), ← Int.mul_assoc]; rfl
  have h9 : 4 * (s * (q + 1)) ≤ (s + q + 1) * (s + q + 1) := by
    have e : (s + q + 1) * (s + q + 1) = 4 * (s * (q + 1)) + (s - q - 1) * (s - q - 1) := by
      simp only [Int.mul_add, Int.add_mul, Int.sub_mul, Int.mul_sub, Int.mul_one, Int.one_mul]
      rw [Int.mul_comm q s]; omega
    have := mulself_nonneg (s - q - 1)
    omega
  omega
theorem root_unique (n s t : Int) (hs : IsRoot n s) (ht : IsRoot n t) : s = t := by
  obtain ⟨a0, a1, a2⟩ := hs
  obtain ⟨b0, b1, b2⟩ := ht
  have key : ∀ a b : Int, 0 ≤ a → 0 ≤ b → a * a ≤ n → n < (b + 1) * (b + 1) → a ≤ b := by
    intro a b h0 h1 h2 h3
    by_cases hc : a ≤ b
    · exact hc
    · have : (b + 1) * (b + 1) ≤ a * a := Int.mul_le_mul (by omega) (by omega) (by omega) (by omega)
      omega
  have := key s t a0 b0 a1 b2
  have := key t s b0 a0 b1 a2
  omega

/-- The root, bit by bit. -/
def isq : Nat → Int → Int → Int
  | 0, _, s => s
  | j + 1, n, s => isq j n (if (s + 2 ^ j) * (s + 2 ^ j) ≤ n then s + 2 ^ j else s)
def froot (x : Int) : Int := if wi x ≤ 0 then 0 else isq 32 (wi x * 65536) 0
theorem isq_root (j : Nat) (n : Int) : ∀ s : Int, 0 ≤ s → s * s ≤ n → n < (s + 2 ^ j) * (s + 2 ^ j) → IsRoot n (isq j n s) := by
  induction j with
  | zero => intro s h0 h1 h2; exact ⟨h0, h1, by simpa [isq] using h2⟩
  | succ j ih =>
    intro s h0 h1 h2
    have hp : (0 : Int) < 2 ^ j := Int.pow_pos (by decide)
    have h3 : (2 : Int) ^ (j + 1) = 2 ^ j + 2 ^ j := by rw [Int.pow_succ]; omega
    unfold isq
    split
    · rename_i hc
      exact ih _ (by omega) hc (by rw [Int.add_assoc, ← h3]; exact h2)
    · rename_i hc
      exact ih _ h0 h1 (by omega)
theorem froot_eq (x : Int) (h : 0 < wi x) (s : Int) (hs : IsRoot (wi x * 65536) s) : froot x = s := by
  unfold froot
  rw [if_neg (by omega)]
  have h2 := wi_hi x
  exact root_unique _ _ _ (isq_root 32 _ 0 (by omega) (by omega) (by simp; omega)) hs

def fpow (k : Int) : Int := 2 ^ (min k 60).toNat
theorem pow_le60 (k : Nat) (h : k ≤ 60) : (1 : Int) ≤ 2 ^ k ∧ (2 : Int) ^ k ≤ 1152921504606846976 := by
  have : ∀ k : Fin 61, (1 : Int) ≤ 2 ^ k.val ∧ (2 : Int) ^ k.val ≤ 1152921504606846976 := by decide
  exact this ⟨k, by omega⟩
theorem pow_le60' (k : Nat) (h : k < 60) : (2 : Int) ^ k ≤ 576460752303423488 := by
  have : ∀ k : Fin 60, (2 : Int) ^ k.val ≤ 576460752303423488 := by decide
  exact this ⟨k, h⟩

end Go.Proofs.Ytmbhicjjbgbneaa
