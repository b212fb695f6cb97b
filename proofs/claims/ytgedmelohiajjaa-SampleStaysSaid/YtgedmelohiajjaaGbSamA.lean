/- Contracts of sample.Best, sample.Draw. -/
import Derived.Test.YtgedmelohiajjaaGbSam
import Derived.Test.YtgedmelohiajjaaGbTopR
import Derived.Test.YtgedmelohiajjaaGbX
import Derived.Test.YtgedmelohiajjaaGbE
import Derived.Deep.RegionWith
namespace Go.Proofs.Ytgedmelohiajjaa
open Go.RowKit Go.Shelf Go.Proofs.YtgedmelohiajjaaW.PrintWords Go.Proofs.YtgedmelohiajjaaW.PrintLast Go.Proofs.YtgedmelohiajjaaW.PrintMore
set_option linter.unusedVariables false
set_option linter.unusedSimpArgs false
attribute [local go_sem] gb_max2 gb_min2 gb_max_two gb_min_two gb_max_three gb_min_three

theorem sbest_any (A : Option Addr) (c : Nat) (xs : List Int) (w : World) (hx : (Kd.int .i64).C w A xs.length xs) (hc : xs.length ≤ c) (hn : xs.length ≤ 4096) :
    Calls Try.prog 39 #[.slice A xs.length c] w fun e w' => e = .returned (.int .i64 (vbest xs)) ∧ Below w.heap.size w w' := by
  have HL := Lib.hid (vtop_len xs 1)
  obtain ⟨r, hr⟩ : ∃ r, vbest xs = r := ⟨_, rfl⟩
  have HR := Lib.hid hr
  rw [hr]
  clear hr
  go_enter Try.func39, Try.ntmps39
  go_wp2_with fail
  refine (top_any _ _ xs 1 w hx hc hn).mono ?_
  rintro e W1 ⟨v1, rfl, ho1, hb1⟩
  have HB := Lib.hid hb1
  by_cases h0 : xs.length = 0
  · have HF := Lib.hid (show (-1 : Int) = r by rw [← HR.out]; unfold vbest; rw [if_pos h0])
    have hl0 : (vtop xs 1).length = 0 := by rw [HL.out, h0]; simp
    obtain ⟨A1, k1, rfl, -, -⟩ := ho1.reads_n hl0
    clear ho1 hb1 hx
    go_wp2_with fail
    go_loop [8] (fun s => s = .int .i64 0) (fun s => 0)
    case atStart => rfl
    case round =>
      subst hrel
      go_wp2_with fail
      go_ret
      exact ⟨ret_i HF.out, HB.out⟩
  · have HF := Lib.hid (show (vtop xs 1).getD 0 0 = r by rw [← HR.out]; unfold vbest; rw [if_neg h0])
    have hl1 : (vtop xs 1).length = 1 := by rw [HL.out]; omega
    obtain ⟨A1, k1, rfl, -, hC⟩ := ho1.reads_n hl1
    obtain ⟨b1, e1, c1⟩ := at_nat hC 0 (by omega)
    subst e1
    rw [HF.out] at c1
    rw [gb_add0] at c1
    clear ho1 hb1 hx hC hl1
    go_wp2_with fail
    go_loop [8] (fun s => s = .int .i64 0) (fun s => 0)
    case atStart => rfl
    case round =>
      subst hrel
      go_wp2_with fail
      go_ret
      exact ⟨rfl, HB.out⟩

theorem rsbest_any (A : Option Addr) (c : Nat) (xs : List Int) (w : World) (hx : (Kd.int .i64).C w A xs.length xs) (hc : xs.length ≤ c) (hn : xs.length ≤ 4096) :
    Calls Try.prog 40 #[.slice A xs.length c] w fun e w' => e = .returned (.int .i64 (vbest xs)) ∧ Below w.heap.size w w' := by
  have HL := Lib.hid (vtop_len xs 1)
  obtain ⟨r, hr⟩ : ∃ r, vbest xs = r := ⟨_, rfl⟩
  have HR := Lib.hid hr
  rw [hr]
  clear hr
  go_enter Try.func40, Try.ntmps40
  go_wp2_with fail
  refine (rtop_any _ _ xs 1 w hx hc hn).mono ?_
  rintro e W1 ⟨v1, rfl, ho1, hb1⟩
  have HB := Lib.hid hb1
  by_cases h0 : xs.length = 0
  · have HF := Lib.hid (show (-1 : Int) = r by rw [← HR.out]; unfold vbest; rw [if_pos h0])
    have hl0 : (vtop xs 1).length = 0 := by rw [HL.out, h0]; simp
    obtain ⟨A1, k1, rfl, -, -⟩ := ho1.reads_n hl0
    clear ho1 hb1 hx
    go_wp2_with fail
    go_ret
    exact ⟨ret_i HF.out, HB.out⟩
  · have HF := Lib.hid (show (vtop xs 1).getD 0 0 = r by rw [← HR.out]; unfold vbest; rw [if_neg h0])
    have hl1 : (vtop xs 1).length = 1 := by rw [HL.out]; omega
    obtain ⟨A1, k1, rfl, -, hC⟩ := ho1.reads_n hl1
    obtain ⟨b1, e1, c1⟩ := at_nat hC 0 (by omega)
    subst e1
    rw [HF.out] at c1
    rw [gb_add0] at c1
    clear ho1 hb1 hx hC hl1
    go_wp2_with fail
    go_ret
    exact ⟨rfl, HB.out⟩

/-- The closure of sample.Draw. -/
theorem heated_any (A : Option Addr) (c : Nat) (xs : List Int) (heat : Int) (B1 B2 : Nat) (p : Nat) (w : World) (hx : (Kd.int .i64).C w A xs.length xs) (hp : p < xs.length) (h1 : w.cell? ⟨B1, 0, none⟩ = some (.slice A xs.length c)) (h2 : w.cell? ⟨B2, 0, none⟩ = some (.int .i64 heat)) (hh0 : -9223372036854775808 ≤ heat) (hh1 : heat ≤ 9223372036854775807) :
    Calls Try.prog 76 #[.int .i64 p, .pointer (some ⟨B1, 0, none⟩), .pointer (some ⟨B2, 0, none⟩)] w fun e w' => e = .returned (.int .i64 (vheat xs heat p)) ∧ Drawn0 w w' := by
  obtain ⟨b1, e1, c1⟩ := at_nat hx p hp
  subst e1
  obtain ⟨r, hr⟩ : ∃ r, vheat xs heat p = r := ⟨_, rfl⟩
  have HR := Lib.hid (show fdiv (fmul (xs.getD p 0) (fint 4)) (fint heat) = r by rw [← hr]; unfold vheat; rw [Int.toNat_natCast])
  rw [hr]
  obtain ⟨x, hxx⟩ : ∃ x, xs.getD p 0 = x := ⟨_, rfl⟩
  rw [hxx] at c1 HR
  obtain ⟨n, hnn⟩ : ∃ n, xs.length = n := ⟨_, rfl⟩
  rw [hnn] at h1 hp
  clear hr hxx hx hnn
  go_enter Try.func76, Try.ntmps76
  go_wp2_with fail
  go_quiet ((first | (go_at_call 69; exact Calls.quiet_of_same (Calls.flip (fint_any _ _ (by omega) (by omega)))) | (go_at_call 62; exact Calls.quiet_of_same (Calls.flip (mul_any _ _ _))) | (go_at_call 60; exact Calls.quiet_of_same (Calls.flip (div_any _ _ _)))))
  go_wp2_with fail
  go_ret
  exact ⟨ret_i HR.out, (by first | exact ⟨⟨_, rfl⟩⟩ | exact ⟨_, rfl⟩ | exact Drawn0.step ⟨_, rfl⟩ _)⟩

theorem vsome_tab (xs : List Int) (top heat : Int) : tab (vtop xs (max top 1)).length (fun j => vheat xs heat ((vtop xs (max top 1)).getD j 0)) = vsome xs top heat := by
  unfold vsome
  apply List.ext_getElem
  · simp [tab]
  · intro j h1 h2
    have h3 : j < (vtop xs (max top 1)).length := by simpa using h2
    simp [tab, List.getD_eq_getElem?_getD, h3]

/-- sample.Draw where it is the likeliest. -/
theorem draw_best (A : Option Addr) (c : Nat) (xs : List Int) (top heat seed place : Int) (w : World) (hx : (Kd.int .i64).C w A xs.length xs) (hc : xs.length ≤ c) (hn : xs.length ≤ 4096) (h0 : heat < 1 ∨ xs.length = 0) :
    Calls Try.prog 41 #[.slice A xs.length c, .int .i64 top, .int .i64 heat, .int .u64 seed, .int .u64 place] w fun e w' => e = .returned (.int .i64 (vdraw xs top heat seed place)) ∧ Below w.heap.size w w' := by
  have hv : vdraw xs top heat seed place = vbest xs := by unfold vdraw; rw [if_pos h0]
  rw [hv]
  obtain ⟨n, hnn⟩ : ∃ n, xs.length = n := ⟨_, rfl⟩
  have HX := Lib.hid (fun (W : World) (hb : Below w.heap.size w W) => Kd.C_below hx hb)
  rw [hnn] at h0 HX ⊢
  have HN := Lib.hid hnn
  have HC := Lib.hid hc
  have HL := Lib.hid hn
  clear hx hnn hv hc hn
  by_cases h1 : heat < 1
  · have g0 : decide (heat < 1) = true := decide_eq_true h1
    clear h0
    go_enter Try.func41, Try.ntmps41
    go_wp2_with fail
    obtain ⟨W0, hW0⟩ : ∃ W0, (w.alloc (.cells #[.slice A n c] 22)).alloc (.cells #[.int .i64 heat] 3) = W0 := ⟨_, rfl⟩
    have hb0 : Below w.heap.size w W0 := by rw [← hW0]; exact below_alloc (below_alloc (Below.refl _ w) _) _
    rw [hW0]
    clear hW0
    have hx := HX.out _ hb0
    rw [← HN.out] at hx ⊢
    refine (sbest_any _ _ xs W0 hx HC.out HL.out).mono ?_
    rintro e W1 ⟨rfl, hb1⟩
    have HB := Lib.hid (below_then hb0 hb0.size hb1)
    clear hb0 hb1 hx
    go_wp2_with fail
    go_ret
    exact ⟨rfl, HB.out⟩
  · have g0 : decide (heat < 1) = false := decide_eq_false h1
    obtain rfl : n = 0 := by omega
    clear h0
    go_enter Try.func41, Try.ntmps41
    go_wp2_with fail
    obtain ⟨W0, hW0⟩ : ∃ W0, (w.alloc (.cells #[.slice A 0 c] 22)).alloc (.cells #[.int .i64 heat] 3) = W0 := ⟨_, rfl⟩
    have hb0 : Below w.heap.size w W0 := by rw [← hW0]; exact below_alloc (below_alloc (Below.refl _ w) _) _
    rw [hW0]
    clear hW0
    have hx := HX.out _ hb0
    rw [show (0 : Nat) = xs.length from HN.out.symm] at hx ⊢
    refine (sbest_any _ _ xs W0 hx HC.out HL.out).mono ?_
    rintro e W1 ⟨rfl, hb1⟩
    have HB := Lib.hid (below_then hb0 hb0.size hb1)
    clear hb0 hb1 hx
    go_wp2_with fail
    go_ret
    exact ⟨rfl, HB.out⟩

end Go.Proofs.Ytgedmelohiajjaa
