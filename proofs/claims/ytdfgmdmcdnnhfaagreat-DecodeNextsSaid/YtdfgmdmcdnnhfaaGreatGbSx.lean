/- Contracts of sample.Best, sample.Draw; The contract of sample.Draw; The contract of the document's Draw; The law's far and alive of the layer sample; a box of four numbers. -/
import Derived.Test.YtdfgmdmcdnnhfaaGreatGbSm
import Derived.Test.YtdfgmdmcdnnhfaaGreatGbTopR
import Derived.Test.YtdfgmdmcdnnhfaaGreatGbHp
import Derived.Test.YtdfgmdmcdnnhfaaGreatGbEf
import Derived.Deep.RegionWith
import Derived.Deep.RegionLaw
import Derived.Test.YtdfgmdmcdnnhfaaGreatGbMx
import Derived.Deep.RegionHeld3
namespace Go.Proofs.YtdfgmdmcdnnhfaaGreat
open Go.RowKit Go.Shelf Go.Proofs.YtdfgmdmcdnnhfaaGreatW.PrintWords Go.Proofs.YtdfgmdmcdnnhfaaGreatW.PrintLast Go.Proofs.YtdfgmdmcdnnhfaaGreatW.PrintMore
set_option linter.unusedVariables false
set_option linter.unusedSimpArgs false
set_option maxRecDepth 100000
attribute [local go_sem] gb_max2 gb_min2 gb_max_two gb_min_two gb_max_three gb_min_three

theorem sbest_any (A : Option Addr) (c : Nat) (xs : List Int) (w : World) (hx : (Kd.int .i64).C w A xs.length xs) (hc : xs.length ≤ c) (hn : xs.length ≤ 4096) :
    Calls Tryz.prog 67 #[.slice A xs.length c] w fun e w' => e = .returned (.int .i64 (vbest xs)) ∧ Below w.heap.size w w' := by
  have HL := Lib.hid (vtop_len xs 1)
  obtain ⟨r, hr⟩ : ∃ r, vbest xs = r := ⟨_, rfl⟩
  have HR := Lib.hid hr
  rw [hr]
  clear hr
  go_enter Tryz.func67, Tryz.ntmps67
  go_wp2_with fail
  refine (top_any _ _ xs 1 w hx hc hn).mono ?_
  rintro e W1 ⟨v1, rfl, ho1, hb1⟩
  have HB := Lib.hid hb1
  by_cases h0 : xs.length = 0
  · have HF := Lib.hid (show (-1 : Int) = r by rw [← HR.out]; unfold vbest; rw [if_pos h0])
    have hl0 : (vtop xs 1).length = 0 := by rw [HL.out, h0]; simp
    obtain ⟨A1, k1, rfl, -, -⟩ := ho1.reads_n hl0
    clear ho1 hb1 hx
    go_wp2_with fail
    go_loop [8] (fun s => s = .int .i64 0) (fun s => 0)
    case atStart => rfl
    case round =>
      subst hrel
      go_wp2_with fail
      go_ret
      exact ⟨ret_i HF.out, HB.out⟩
  · have HF := Lib.hid (show (vtop xs 1).getD 0 0 = r by rw [← HR.out]; unfold vbest; rw [if_neg h0])
    have hl1 : (vtop xs 1).length = 1 := by rw [HL.out]; omega
    obtain ⟨A1, k1, rfl, -, hC⟩ := ho1.reads_n hl1
    obtain ⟨b1, e1, c1⟩ := at_nat hC 0 (by omega)
    subst e1
    rw [HF.out] at c1
    rw [gb_add0] at c1
    clear ho1 hb1 hx hC hl1
    go_wp2_with fail
    go_loop [8] (fun s => s = .int .i64 0) (fun s => 0)
    case atStart => rfl
    case round =>
      subst hrel
      go_wp2_with fail
      go_ret
      exact ⟨rfl, HB.out⟩

theorem rsbest_any (A : Option Addr) (c : Nat) (xs : List Int) (w : World) (hx : (Kd.int .i64).C w A xs.length xs) (hc : xs.length ≤ c) (hn : xs.length ≤ 4096) :
    Calls Tryz.prog 89 #[.slice A xs.length c] w fun e w' => e = .returned (.int .i64 (vbest xs)) ∧ Below w.heap.size w w' := by
  have HL := Lib.hid (vtop_len xs 1)
  obtain ⟨r, hr⟩ : ∃ r, vbest xs = r := ⟨_, rfl⟩
  have HR := Lib.hid hr
  rw [hr]
  clear hr
  go_enter Tryz.func89, Tryz.ntmps89
  go_wp2_with fail
  refine (rtop_any _ _ xs 1 w hx hc hn).mono ?_
  rintro e W1 ⟨v1, rfl, ho1, hb1⟩
  have HB := Lib.hid hb1
  by_cases h0 : xs.length = 0
  · have HF := Lib.hid (show (-1 : Int) = r by rw [← HR.out]; unfold vbest; rw [if_pos h0])
    have hl0 : (vtop xs 1).length = 0 := by rw [HL.out, h0]; simp
    obtain ⟨A1, k1, rfl, -, -⟩ := ho1.reads_n hl0
    clear ho1 hb1 hx
    go_wp2_with fail
    go_ret
    exact ⟨ret_i HF.out, HB.out⟩
  · have HF := Lib.hid (show (vtop xs 1).getD 0 0 = r by rw [← HR.out]; unfold vbest; rw [if_neg h0])
    have hl1 : (vtop xs 1).length = 1 := by rw [HL.out]; omega
    obtain ⟨A1, k1, rfl, -, hC⟩ := ho1.reads_n hl1
    obtain ⟨b1, e1, c1⟩ := at_nat hC 0 (by omega)
    subst e1
    rw [HF.out] at c1
    rw [gb_add0] at c1
    clear ho1 hb1 hx hC hl1
    go_wp2_with fail
    go_ret
    exact ⟨rfl, HB.out⟩

/-- The closure of sample.Draw. -/
theorem heated_any (A : Option Addr) (c : Nat) (xs : List Int) (heat : Int) (B1 B2 : Nat) (p : Nat) (w : World) (hx : (Kd.int .i64).C w A xs.length xs) (hp : p < xs.length) (h1 : w.cell? ⟨B1, 0, none⟩ = some (.slice A xs.length c)) (h2 : w.cell? ⟨B2, 0, none⟩ = some (.int .i64 heat)) (hh0 : -9223372036854775808 ≤ heat) (hh1 : heat ≤ 9223372036854775807) :
    Calls Tryz.prog 68 #[.int .i64 p, .pointer (some ⟨B1, 0, none⟩), .pointer (some ⟨B2, 0, none⟩)] w fun e w' => e = .returned (.int .i64 (vheat xs heat p)) ∧ Drawn0 w w' := by
  obtain ⟨b1, e1, c1⟩ := at_nat hx p hp
  subst e1
  obtain ⟨r, hr⟩ : ∃ r, vheat xs heat p = r := ⟨_, rfl⟩
  have HR := Lib.hid (show fdiv (fmul (xs.getD p 0) (fint 4)) (fint heat) = r by rw [← hr]; unfold vheat; rw [Int.toNat_natCast])
  rw [hr]
  obtain ⟨x, hxx⟩ : ∃ x, xs.getD p 0 = x := ⟨_, rfl⟩
  rw [hxx] at c1 HR
  obtain ⟨n, hnn⟩ : ∃ n, xs.length = n := ⟨_, rfl⟩
  rw [hnn] at h1 hp
  clear hr hxx hx hnn
  go_enter Tryz.func68, Tryz.ntmps68
  go_wp2_with fail
  go_quiet ((first | (go_at_call 70; exact Calls.quiet_of_same (Calls.flip (fint_any _ _ (by omega) (by omega)))) | (go_at_call 21; exact Calls.quiet_of_same (Calls.flip (mul_any _ _ _))) | (go_at_call 69; exact Calls.quiet_of_same (Calls.flip (div_any _ _ _)))))
  go_wp2_with fail
  go_ret
  exact ⟨ret_i HR.out, (by first | exact ⟨⟨_, rfl⟩⟩ | exact ⟨_, rfl⟩ | exact Drawn0.step ⟨_, rfl⟩ _)⟩

theorem vsome_tab (xs : List Int) (top heat : Int) : tab (vtop xs (max top 1)).length (fun j => vheat xs heat ((vtop xs (max top 1)).getD j 0)) = vsome xs top heat := by
  unfold vsome
  apply List.ext_getElem
  · simp [tab]
  · intro j h1 h2
    have h3 : j < (vtop xs (max top 1)).length := by simpa using h2
    simp [tab, List.getD_eq_getElem?_getD, h3]

/-- sample.Draw where it is the likeliest. -/
theorem draw_best (A : Option Addr) (c : Nat) (xs : List Int) (top heat seed place : Int) (w : World) (hx : (Kd.int .i64).C w A xs.length xs) (hc : xs.length ≤ c) (hn : xs.length ≤ 4096) (h0 : heat < 1 ∨ xs.length = 0) :
    Calls Tryz.prog 47 #[.slice A xs.length c, .int .i64 top, .int .i64 heat, .int .u64 seed, .int .u64 place] w fun e w' => e = .returned (.int .i64 (vdraw xs top heat seed place)) ∧ Below w.heap.size w w' := by
  have hv : vdraw xs top heat seed place = vbest xs := by unfold vdraw; rw [if_pos h0]
  rw [hv]
  obtain ⟨n, hnn⟩ : ∃ n, xs.length = n := ⟨_, rfl⟩
  have HX := Lib.hid (fun (W : World) (hb : Below w.heap.size w W) => Kd.C_below hx hb)
  rw [hnn] at h0 HX ⊢
  have HN := Lib.hid hnn
  have HC := Lib.hid hc
  have HL := Lib.hid hn
  clear hx hnn hv hc hn
  by_cases h1 : heat < 1
  · have g0 : decide (heat < 1) = true := decide_eq_true h1
    clear h0
    go_enter Tryz.func47, Tryz.ntmps47
    go_wp2_with fail
    obtain ⟨W0, hW0⟩ : ∃ W0, (w.alloc (.cells #[.slice A n c] 55)).alloc (.cells #[.int .i64 heat] 3) = W0 := ⟨_, rfl⟩
    have hb0 : Below w.heap.size w W0 := by rw [← hW0]; exact below_alloc (below_alloc (Below.refl _ w) _) _
    rw [hW0]
    clear hW0
    have hx := HX.out _ hb0
    rw [← HN.out] at hx ⊢
    refine (sbest_any _ _ xs W0 hx HC.out HL.out).mono ?_
    rintro e W1 ⟨rfl, hb1⟩
    have HB := Lib.hid (below_then hb0 hb0.size hb1)
    clear hb0 hb1 hx
    go_wp2_with fail
    go_ret
    exact ⟨rfl, HB.out⟩
  · have g0 : decide (heat < 1) = false := decide_eq_false h1
    obtain rfl : n = 0 := by omega
    clear h0
    go_enter Tryz.func47, Tryz.ntmps47
    go_wp2_with fail
    obtain ⟨W0, hW0⟩ : ∃ W0, (w.alloc (.cells #[.slice A 0 c] 55)).alloc (.cells #[.int .i64 heat] 3) = W0 := ⟨_, rfl⟩
    have hb0 : Below w.heap.size w W0 := by rw [← hW0]; exact below_alloc (below_alloc (Below.refl _ w) _) _
    rw [hW0]
    clear hW0
    have hx := HX.out _ hb0
    rw [show (0 : Nat) = xs.length from HN.out.symm] at hx ⊢
    refine (sbest_any _ _ xs W0 hx HC.out HL.out).mono ?_
    rintro e W1 ⟨rfl, hb1⟩
    have HB := Lib.hid (below_then hb0 hb0.size hb1)
    clear hb0 hb1 hx
    go_wp2_with fail
    go_ret
    exact ⟨rfl, HB.out⟩

end Go.Proofs.YtdfgmdmcdnnhfaaGreat

namespace Go.Proofs.YtdfgmdmcdnnhfaaGreat
open Go.RowKit Go.Shelf Go.Proofs.YtdfgmdmcdnnhfaaGreatW.PrintWords Go.Proofs.YtdfgmdmcdnnhfaaGreatW.PrintLast Go.Proofs.YtdfgmdmcdnnhfaaGreatW.PrintMore
set_option linter.unusedVariables false
set_option linter.unusedSimpArgs false
set_option maxRecDepth 100000
attribute [local go_sem] gb_max2 gb_min2 gb_max_two gb_min_two gb_max_three gb_min_three

/-- sample.Draw where weights tell. -/
theorem draw_main (A : Option Addr) (c : Nat) (xs : List Int) (top heat seed place : Int) (w : World) (hx : (Kd.int .i64).C w A xs.length xs) (hc : xs.length ≤ c) (hn : xs.length ≤ 4096) (h1 : ¬ heat < 1) (h2 : 0 < xs.length) (hh1 : heat ≤ 9223372036854775807) :
    Calls Tryz.prog 47 #[.slice A xs.length c, .int .i64 top, .int .i64 heat, .int .u64 seed, .int .u64 place] w fun e w' => e = .returned (.int .i64 (vdraw xs top heat seed place)) ∧ Below w.heap.size w w' := by
  obtain ⟨r, hr⟩ : ∃ r, vdraw xs top heat seed place = r := ⟨_, rfl⟩
  have hv : (vtop xs (max top 1)).getD (vpk (vwts xs top heat) (vleft xs top heat seed place) (vtop xs (max top 1)).length) 0 = r := by rw [← hr]; unfold vdraw; rw [if_neg (by omega)]
  have hst := vsome_tab xs top heat
  have hin := fun j hj => vtop_in xs (max top 1) j hj
  have hlen := vtop_len xs (max top 1)
  unfold vleft vwts at hv
  obtain ⟨n, hnn⟩ : ∃ n, xs.length = n := ⟨_, rfl⟩
  have HX := Lib.hid (fun (W : World) (hb : Below w.heap.size w W) => Kd.C_below hx hb)
  rw [hr]
  rw [hnn] at h2 HX hc hn hin hlen ⊢
  have HN := Lib.hid hnn
  have HM0 := Lib.hid hlen
  obtain ⟨m, hm⟩ : ∃ m, (vtop xs (max top 1)).length = m := ⟨_, rfl⟩
  rw [hm] at hv hst hin hlen
  have hm1 : 0 < m := by omega
  have hmn : m ≤ 4096 := by omega
  have HM := Lib.hid hm
  have HV := Lib.hid hv
  have HST := Lib.hid hst
  have HIN := Lib.hid hin
  have HWS := Lib.hid (fun i hi => wsum_is (vsome xs top heat) (by rw [vsome_len, hm]; exact hmn) i hi)
  have hsl : (vsome xs top heat).length = m := by rw [vsome_len, hm]
  have hwl : (vsoft (vsome xs top heat)).length = m := by rw [vsoft_len, hsl]
  rw [hsl] at HWS
  have HSL := Lib.hid hsl
  have HWL := Lib.hid hwl
  have g0 : decide (heat < 1) = false := decide_eq_false h1
  have heg := enters_of Tryz.func68 (by kernel_rfl) rfl
  have HC := Lib.hid hc
  have HL := Lib.hid hn
  have hh0 : -9223372036854775808 ≤ heat := by omega
  have HH1 := Lib.hid hh1
  clear hx hnn hv hc hn hst hin hlen hm hsl hwl h1
  have hne : (n == 0) = false := by simp; omega
  go_enter Tryz.func47, Tryz.ntmps47
  go_wp2_with fail
  obtain ⟨W0, hW0⟩ : ∃ W0, (w.alloc (.cells #[.slice A n c] 55)).alloc (.cells #[.int .i64 heat] 3) = W0 := ⟨_, rfl⟩
  have hb0 : Below w.heap.size w W0 := by rw [← hW0]; exact below_alloc (below_alloc (Below.refl _ w) _) _
  obtain ⟨B1, hB1⟩ : ∃ B, w.heap.size = B := ⟨_, rfl⟩
  have k1 : W0.cell? ⟨B1, 0, none⟩ = some (.slice A n c) := by rw [← hW0, ← hB1]; simp
  have k2 : W0.cell? ⟨B1 + 1, 0, none⟩ = some (.int .i64 heat) := by rw [← hW0, ← hB1]; simp
  have HBB := Lib.hid hB1
  have HB0 := Lib.hid hb0
  have HK1 := Lib.hid k1
  have HK2 := Lib.hid k2
  have l1 := World.block_lt_of_cell? W0 _ k1
  have l2 := World.block_lt_of_cell? W0 _ k2
  rw [hW0, hB1]
  clear hW0 k1 k2 hb0 hB1
  have hx := HX.out _ HB0.out
  have hc := HC.out
  rw [← HN.out] at hx hc ⊢
  refine (top_any _ _ xs (max top 1) W0 hx hc (by rw [HN.out]; exact HL.out)).mono ?_
  rintro e W1 ⟨v1, rfl, ho1, hb1⟩
  have HE1 := Lib.hid hb1
  have HB1 := Lib.hid (below_then HB0.out HB0.out.size hb1)
  obtain ⟨L, hLL⟩ : ∃ L, vtop xs (max top 1) = L := ⟨_, rfl⟩
  rw [hLL] at ho1 HM HV HST HIN
  obtain ⟨A1, k1, rfl, hk1, hC1⟩ := ho1.reads_n HM.out
  have HC1 := Lib.hid hC1
  clear ho1 hb1 hC1 hx hc hLL
  rw [HN.out]
  obtain ⟨ys, hys⟩ : ∃ ys, vsome xs top heat = ys := ⟨_, rfl⟩
  rw [hys] at HV HST HWS HSL HWL
  clear hys
  go_wp2_with fail
  go_loopw [13, 39] (fun v s wr => ∃ i : Nat, s = .int .i64 i ∧ i ≤ m ∧ Own wr W1.heap.size 2 v (tab i fun j => vheat xs heat (L.getD j 0)) ∧ Below W1.heap.size W1 wr) (fun _ s _ => m - (intOf s).toNat)
  case atStart => exact ⟨0, rfl, by omega, Kd.R_nil _ _ _ _ _, Below.refl _ _⟩
  case round =>
    obtain ⟨i, rfl, hi, ho, hb⟩ := hrel
    have HO := Lib.hid ho
    have HB := Lib.hid hb
    have HBW := Lib.hid (below_then HB1.out HB1.out.size hb)
    have HBE := Lib.hid (below_then HE1.out HE1.out.size hb)
    have hsz := hb.size
    clear ho hb
    by_cases him : i < m
    · obtain ⟨p, hp, hpe⟩ := HIN.out i him
      obtain ⟨b1, e1, c1⟩ := at_nat (Kd.C_below HC1.out HB.out) i (by rw [HM.out]; exact him)
      subst e1
      rw [hpe] at c1
      have HT := Lib.hid (show tab (i + 1) (fun j => vheat xs heat (L.getD j 0)) = tab i (fun j => vheat xs heat (L.getD j 0)) ++ [vheat xs heat p] by rw [tab_succ, hpe])
      have hlt : (tab i fun j => vheat xs heat (L.getD j 0)).length ≤ 1000000 := by rw [tab_len]; omega
      obtain ⟨S, hS⟩ : ∃ S, (tab i fun j => vheat xs heat (L.getD j 0)) = S := ⟨_, rfl⟩
      rw [hS] at HO HT hlt
      clear hpe hS
      go_wp2_with fail
      refine (heated_any A c xs heat B1 (B1 + 1) p wr (HX.out _ HBW.out |> fun h => by rw [HN.out]; exact h) (by rw [HN.out]; exact hp) (by rw [HN.out]; exact (HBE.out.cell (p := ⟨B1, 0, none⟩) l1).trans HK1.out) ((HBE.out.cell (p := ⟨B1 + 1, 0, none⟩) l2).trans HK2.out) hh0 HH1.out).mono ?_
      rintro e w2 ⟨rfl, hd⟩
      have ho2 := HO.out.below (hd.below)
      have hb2 := HB.out.trans (hd.below.mono hsz)
      have hsz2 := hb2.size
      have HO2 := Lib.hid ho2
      have HB2 := Lib.hid hb2
      clear ho2 hb2 hd
      go_wp2_with (at_builtin; refine own_append (w0 := W1) w2 _ W1.heap.size rfl _ _ 55 2 rfl Tryz.underlying55 infoI64 _ S (vheat xs heat p) w2.heap.size rfl rfl rfl rfl HO2.out HB2.out hsz2 hlt ?_; intro v1 w1 ho1 hb1; have HO1 := Lib.hid ho1; have HBN := Lib.hid hb1; clear ho1 hb1)
      go_roundw
      case rel => exact ⟨i + 1, by go_num, by omega, by rw [HT.out]; exact HO1.out, HBN.out⟩
      case measure => simp [intOf]; omega
    · obtain rfl : i = m := by omega
      have ho := HO.out
      rw [HST.out] at ho
      obtain ⟨A2, k2, rfl, hk2, hC2⟩ := ho.reads_n HSL.out
      have HC2 := Lib.hid hC2
      clear ho hC2 HO
      go_wp2_with fail
      have hs := soft_any A2 k2 ys wr HC2.out (by rw [HSL.out]; exact hk2) (by rw [HSL.out]; exact hmn)
      rw [HSL.out] at hs
      refine hs.mono ?_
      rintro e W2 ⟨v2, rfl, ho2, hb2⟩
      have HBF := Lib.hid (below_then HBW.out HBW.out.size hb2)
      have HCL := Lib.hid (Kd.C_below HC1.out (below_then HB.out hsz hb2))
      obtain ⟨ws, hws⟩ : ∃ ws, vsoft ys = ws := ⟨_, rfl⟩
      rw [hws] at ho2 HV HWS HWL
      obtain ⟨A3, k3, rfl, hk3, hC3⟩ := ho2.reads_n HWL.out
      have HC3 := Lib.hid hC3
      have HSS := Lib.hid (fun k => show fadd (wsum ws k) (ws.getD k 0) = wsum ws (k + 1) from rfl)
      clear hws ho2 hb2 hC3 hs HC2 hi him
      go_wp2_with fail
      go_loop [17, 54] (fun v s => ∃ k : Nat, s = .int .i64 k ∧ k ≤ i ∧ v = .int .i64 (wsum ws k)) (fun _ s => i - (intOf s).toNat)
      case atStart => exact ⟨0, rfl, by omega, rfl⟩
      case round =>
        obtain ⟨k, rfl, hk, rfl⟩ := hrel
        by_cases hki : k < i
        · obtain ⟨b1, e1, c1⟩ := at_nat HC3.out k (by rw [HWL.out]; exact hki)
          subst e1
          have hsum := HSS.out k
          obtain ⟨q, hq⟩ : ∃ q, wsum ws k = q := ⟨_, rfl⟩
          obtain ⟨x, hxx⟩ : ∃ x, ws.getD k 0 = x := ⟨_, rfl⟩
          rw [hxx] at c1
          rw [hq, hxx] at hsum
          rw [hq]
          have HSU := Lib.hid hsum
          clear hq hxx hsum
          go_wp2_with fail
          refine (add_any q x _).mono ?_
          rintro e w' ⟨rfl, rfl⟩
          go_wp2_with fail
          go_round
          case rel => exact ⟨k + 1, by go_num, by omega, by rw [HSU.out]⟩
          case measure => simp [intOf]; omega
        · obtain rfl : k = i := by omega
          obtain ⟨t0, t1, -⟩ := HWS.out k (Nat.le_refl _)
          obtain ⟨T, hT⟩ : ∃ T, wsum ws k = T := ⟨_, rfl⟩
          have hV := HV.out
          rw [hT] at hV t0 t1 ⊢
          obtain ⟨d0, d1⟩ := rbelow_range seed place T t0 t1
          have hw1 : IntKind.u64.wrap T = T := by simp [IntKind.wrap, IntKind.bits, IntKind.signed]; omega
          obtain ⟨D, hD⟩ : ∃ D, rbelow seed place T = D := ⟨_, rfl⟩
          rw [hD] at hV d0 d1
          have HDD := Lib.hid hD
          have hw2 : IntKind.i64.wrap D = D := by simp [IntKind.wrap, IntKind.bits, IntKind.signed]; omega
          have HV2 := Lib.hid hV
          clear hT hV hD HV
          go_wp2_with fail
          refine (rbelow_any seed place T _ t0 (by omega)).mono ?_
          rw [HDD.out]
          rintro e w' ⟨rfl, rfl⟩
          go_wp2_with fail
          go_loop [20, 70] (fun v s => ∃ j : Nat, s = .int .i64 j ∧ j ≤ k ∧ v = .int .i64 (D - wsum ws j) ∧ Hid (∀ h, h < j → wsum ws (h + 1) ≤ D)) (fun _ s => k - (intOf s).toNat)
          case atStart => exact ⟨0, rfl, by omega, by simp [wsum, sumTo], Lib.hid (fun h hh => absurd hh (Nat.not_lt_zero _))⟩
          case round =>
            obtain ⟨j, rfl, hj, rfl, hall⟩ := hrel
            by_cases hjk : j < k
            · obtain ⟨b1, e1, c1⟩ := at_nat HC3.out j (by rw [HWL.out]; exact hjk)
              subst e1
              obtain ⟨q0, q1, hq2⟩ := HWS.out j (by omega)
              obtain ⟨hq3, x0, x1⟩ := hq2 hjk
              obtain ⟨p, hp, hpe⟩ := HIN.out j hjk
              obtain ⟨b2, e2, c2⟩ := at_nat HCL.out j (by rw [HM.out]; exact hjk)
              subst e2
              have HHit := Lib.hid (fun hd => vpk_hit ws D k j hjk hall.out hd)
              obtain ⟨q, hq⟩ : ∃ q, wsum ws j = q := ⟨_, rfl⟩
              obtain ⟨x, hxx⟩ : ∃ x, ws.getD j 0 = x := ⟨_, rfl⟩
              rw [hxx] at c1 hq3 x0 x1
              rw [hq] at hq3 q0 q1
              rw [hq]
              have HQ := Lib.hid hq3
              clear hq hxx hq2 hq3
              by_cases hd : D - q - x < 0
              · have g1 : decide (D - q - x < 0) = true := decide_eq_true hd
                have HR := Lib.hid (show L.getD j 0 = r by rw [← HV2.out, HHit.out (by rw [HQ.out]; omega)])
                rw [HR.out] at c2
                clear hd
                go_wp2_with fail
                go_ret
                exact ⟨rfl, HBF.out⟩
              · have g1 : decide (D - q - x < 0) = false := decide_eq_false hd
                clear hd HHit
                go_wp2_with fail
                go_round
                case rel => exact ⟨j + 1, by go_num, by omega, by rw [HQ.out]; go_num, Lib.hid (fun h hh => by
                  by_cases e : h = j
                  · subst e; rw [HQ.out]; have := of_decide_eq_false g1; omega
                  · exact hall.out h (by omega))⟩
                case measure => simp [intOf]; omega
            · obtain rfl : j = k := by omega
              have HR := Lib.hid (show L.getD (j - 1) 0 = r by rw [← HV2.out, vpk_none ws D j hall.out])
              obtain ⟨j, rfl⟩ : ∃ j', j = j' + 1 := ⟨j - 1, by omega⟩
              obtain ⟨b2, e2, c2⟩ := at_nat HCL.out j (by rw [HM.out]; omega)
              subst e2
              rw [show L.getD j 0 = r from HR.out] at c2
              go_wp2_with fail
              go_ret
              exact ⟨rfl, HBF.out⟩

/-- sample.Draw. -/
theorem draw_any (A : Option Addr) (c : Nat) (xs : List Int) (top heat seed place : Int) (w : World) (hx : (Kd.int .i64).C w A xs.length xs) (hc : xs.length ≤ c) (hn : xs.length ≤ 4096) (hh1 : heat ≤ 9223372036854775807) :
    Calls Tryz.prog 47 #[.slice A xs.length c, .int .i64 top, .int .i64 heat, .int .u64 seed, .int .u64 place] w fun e w' => e = .returned (.int .i64 (vdraw xs top heat seed place)) ∧ Below w.heap.size w w' := by
  by_cases h : heat < 1 ∨ xs.length = 0
  · exact draw_best A c xs top heat seed place w hx hc hn h
  · exact draw_main A c xs top heat seed place w hx hc hn (by omega) (by omega) hh1

end Go.Proofs.YtdfgmdmcdnnhfaaGreat

namespace Go.Proofs.YtdfgmdmcdnnhfaaGreat
open Go.RowKit Go.Shelf Go.Proofs.YtdfgmdmcdnnhfaaGreatW.PrintWords Go.Proofs.YtdfgmdmcdnnhfaaGreatW.PrintLast Go.Proofs.YtdfgmdmcdnnhfaaGreatW.PrintMore
set_option linter.unusedVariables false
set_option linter.unusedSimpArgs false
set_option maxRecDepth 100000
attribute [local go_sem] gb_max2 gb_min2 gb_max_two gb_min_two gb_max_three gb_min_three

theorem rdraw_best (A : Option Addr) (c : Nat) (xs : List Int) (top heat seed place : Int) (w : World) (hx : (Kd.int .i64).C w A xs.length xs) (hc : xs.length ≤ c) (hn : xs.length ≤ 4096) (h0 : heat < 1 ∨ xs.length = 0) :
    Calls Tryz.prog 54 #[.slice A xs.length c, .int .i64 top, .int .i64 heat, .int .u64 seed, .int .u64 place] w fun e w' => e = .returned (.int .i64 (vdraw xs top heat seed place)) ∧ Below w.heap.size w w' := by
  have hv : vdraw xs top heat seed place = vbest xs := by unfold vdraw; rw [if_pos h0]
  rw [hv]
  obtain ⟨n, hnn⟩ : ∃ n, xs.length = n := ⟨_, rfl⟩
  have HX := Lib.hid hx
  rw [hnn] at h0 ⊢
  have HN := Lib.hid hnn
  have HC := Lib.hid hc
  have HL := Lib.hid hn
  clear hx hnn hv hc hn
  by_cases h2 : n = 0
  · subst h2
    clear h0
    go_enter Tryz.func54, Tryz.ntmps54
    go_wp2_with fail
    have hs := rsbest_any A c xs w HX.out HC.out HL.out
    rw [HN.out] at hs
    refine hs.mono ?_
    rintro e W1 ⟨rfl, hb1⟩
    have HB := Lib.hid hb1
    clear hb1 hs
    go_wp2_with fail
    go_ret
    exact ⟨rfl, HB.out⟩
  · have g1 : (n == 0) = false := by simpa using h2
    have g0 : decide (heat < 1) = true := decide_eq_true (by omega)
    have h3 : 0 < n := by omega
    clear h0
    go_enter Tryz.func54, Tryz.ntmps54
    go_wp2_with fail
    have hs := rsbest_any A c xs w HX.out HC.out HL.out
    rw [HN.out] at hs
    refine hs.mono ?_
    rintro e W1 ⟨rfl, hb1⟩
    have HB := Lib.hid hb1
    clear hb1 hs
    go_wp2_with fail
    go_ret
    exact ⟨rfl, HB.out⟩

set_option maxRecDepth 100000 in
set_option maxHeartbeats 1000000 in
/-- The document's Draw where weights tell. -/
theorem rdraw_main (A : Option Addr) (c : Nat) (xs : List Int) (top heat seed place : Int) (w : World) (hx : (Kd.int .i64).C w A xs.length xs) (hc : xs.length ≤ c) (hn : xs.length ≤ 4096) (h1 : ¬ heat < 1) (h2 : 0 < xs.length) (hh1 : heat ≤ 9223372036854775807) :
    Calls Tryz.prog 54 #[.slice A xs.length c, .int .i64 top, .int .i64 heat, .int .u64 seed, .int .u64 place] w fun e w' => e = .returned (.int .i64 (vdraw xs top heat seed place)) ∧ Below w.heap.size w w' := by
  obtain ⟨r, hr⟩ : ∃ r, vdraw xs top heat seed place = r := ⟨_, rfl⟩
  have hv : (vtop xs (max top 1)).getD (vpk (vwts xs top heat) (vleft xs top heat seed place) (vtop xs (max top 1)).length) 0 = r := by rw [← hr]; unfold vdraw; rw [if_neg (by omega)]
  have hst := vsome_tab xs top heat
  have hin := fun j hj => vtop_in xs (max top 1) j hj
  have hlen := vtop_len xs (max top 1)
  unfold vleft vwts at hv
  obtain ⟨n, hnn⟩ : ∃ n, xs.length = n := ⟨_, rfl⟩
  have HX := Lib.hid (fun (W : World) (hb : Below w.heap.size w W) => Kd.C_below hx hb)
  rw [hr]
  rw [hnn] at h2 HX hc hn hin hlen ⊢
  have HN := Lib.hid hnn
  have HM0 := Lib.hid hlen
  obtain ⟨m, hm⟩ : ∃ m, (vtop xs (max top 1)).length = m := ⟨_, rfl⟩
  rw [hm] at hv hst hin hlen
  have hm1 : 0 < m := by omega
  have hmn : m ≤ 4096 := by omega
  have HM := Lib.hid hm
  have HV := Lib.hid hv
  have HST := Lib.hid hst
  have HIN := Lib.hid hin
  have HWS := Lib.hid (fun i hi => wsum_is (vsome xs top heat) (by rw [vsome_len, hm]; exact hmn) i hi)
  have hsl : (vsome xs top heat).length = m := by rw [vsome_len, hm]
  have hwl : (vsoft (vsome xs top heat)).length = m := by rw [vsoft_len, hsl]
  rw [hsl] at HWS
  have HSL := Lib.hid hsl
  have HWL := Lib.hid hwl
  have g0 : decide (heat < 1) = false := decide_eq_false h1
  have HC := Lib.hid hc
  have HL := Lib.hid hn
  have hh0 : -9223372036854775808 ≤ heat := by omega
  have HH1 := Lib.hid hh1
  clear hx hnn hv hc hn hst hin hlen hm hsl hwl h1
  have hne : (n == 0) = false := by simp; omega
  go_enter Tryz.func54, Tryz.ntmps54
  go_wp2_with fail
  have hx := HX.out _ (Below.refl _ _)
  have hc := HC.out
  rw [← HN.out] at hx hc ⊢
  refine (rtop_any _ _ xs (max top 1) w hx hc (by rw [HN.out]; exact HL.out)).mono ?_
  rintro e W1 ⟨v1, rfl, ho1, hb1⟩
  have HB1 := Lib.hid hb1
  obtain ⟨L, hLL⟩ : ∃ L, vtop xs (max top 1) = L := ⟨_, rfl⟩
  rw [hLL] at ho1 HM HV HST HIN
  obtain ⟨A1, k1, rfl, hk1, hC1⟩ := ho1.reads_n HM.out
  have HC1 := Lib.hid hC1
  clear ho1 hb1 hC1 hx hc hLL
  rw [HN.out]
  obtain ⟨ys, hys⟩ : ∃ ys, vsome xs top heat = ys := ⟨_, rfl⟩
  rw [hys] at HV HST HWS HSL HWL
  clear hys
  go_wp2_with fail
  go_loopw [12, 13] (fun v s wr => ∃ i : Nat, s = .int .i64 i ∧ i ≤ m ∧ Own wr W1.heap.size 2 v (tab i fun j => vheat xs heat (L.getD j 0)) ∧ Below W1.heap.size W1 wr) (fun _ s _ => m - (intOf s).toNat)
  case atStart => exact ⟨0, rfl, by omega, Kd.R_nil _ _ _ _ _, Below.refl _ _⟩
  case round =>
    obtain ⟨i, rfl, hi, ho, hb⟩ := hrel
    have HO := Lib.hid ho
    have HB := Lib.hid hb
    have HBW := Lib.hid (below_then HB1.out HB1.out.size hb)
    have hsz := hb.size
    clear ho hb
    by_cases him : i < m
    · obtain ⟨p, hp, hpe⟩ := HIN.out i him
      obtain ⟨b1, e1, c1⟩ := at_nat (Kd.C_below HC1.out HB.out) i (by rw [HM.out]; exact him)
      subst e1
      rw [hpe] at c1
      obtain ⟨b2, e2, c2⟩ := at_nat (HX.out _ HBW.out |> fun h => by rw [← HN.out] at h; exact h) p (by rw [HN.out]; exact hp)
      subst e2
      have hT : tab (i + 1) (fun j => vheat xs heat (L.getD j 0)) = tab i (fun j => vheat xs heat (L.getD j 0)) ++ [fdiv (fmul (xs.getD p 0) (fint 4)) (fint heat)] := by rw [tab_succ, hpe]; unfold vheat; rw [Int.toNat_natCast]
      have hlt : (tab i fun j => vheat xs heat (L.getD j 0)).length ≤ 1000000 := by rw [tab_len]; omega
      obtain ⟨S, hS⟩ : ∃ S, (tab i fun j => vheat xs heat (L.getD j 0)) = S := ⟨_, rfl⟩
      obtain ⟨x, hxx⟩ : ∃ x, xs.getD p 0 = x := ⟨_, rfl⟩
      rw [hS, hxx] at hT
      rw [hxx] at c2
      rw [hS] at HO
      rw [hS] at hlt
      have HT := Lib.hid hT
      clear hpe hS hxx hT
      go_wp2_with fail
      go_region_law (first
        | (refine own_append_step (w0 := W1) wr.drew _ W1.heap.size rfl _ _ 55 2 rfl Tryz.underlying55 infoI64 _ S (fdiv (fmul x (fint 4)) (fint heat)) wr.heap.size rfl rfl rfl rfl (HO.out.below (below_drew (Below.refl _ _))) (below_drew HB.out) hsz hlt ?_; intro v1 w1 ho1 hb1)
        | (go_simp; first
          | (go_at_call 79; refine (rfint_any _ _ (by omega) (by first | omega | exact HH1.out)).mono ?_; rintro e w' ⟨rfl, rfl⟩)
          | (go_at_call 53; refine (rmul_any _ _ _).mono ?_; rintro e w' ⟨rfl, rfl⟩)
          | (go_at_call 80; refine (rdiv_any _ _ _).mono ?_; rintro e w' ⟨rfl, rfl⟩)))
      all_goals
        have HO1 := Lib.hid ho1
        have HBN := Lib.hid hb1
        clear ho1 hb1
        go_wp2_with fail
        go_roundw
        case rel => exact ⟨i + 1, by go_num, by omega, by rw [HT.out]; exact HO1.out, HBN.out⟩
        case measure => simp [intOf]; omega
    · obtain rfl : i = m := by omega
      have ho := HO.out
      rw [HST.out] at ho
      obtain ⟨A2, k2, rfl, hk2, hC2⟩ := ho.reads_n HSL.out
      have HC2 := Lib.hid hC2
      clear ho hC2 HO
      go_wp2_with fail
      have hs := rsoft_any A2 k2 ys wr HC2.out (by rw [HSL.out]; exact hk2) (by rw [HSL.out]; exact hmn)
      rw [HSL.out] at hs
      refine hs.mono ?_
      rintro e W2 ⟨v2, rfl, ho2, hb2⟩
      have HBF := Lib.hid (below_then HBW.out HBW.out.size hb2)
      have HCL := Lib.hid (Kd.C_below HC1.out (below_then HB.out hsz hb2))
      obtain ⟨ws, hws⟩ : ∃ ws, vsoft ys = ws := ⟨_, rfl⟩
      rw [hws] at ho2 HV HWS HWL
      obtain ⟨A3, k3, rfl, hk3, hC3⟩ := ho2.reads_n HWL.out
      have HC3 := Lib.hid hC3
      have HSS := Lib.hid (fun k => show fadd (wsum ws k) (ws.getD k 0) = wsum ws (k + 1) from rfl)
      clear hws ho2 hb2 hC3 hs HC2 hi him
      go_wp2_with fail
      go_loopw [15, 16] (fun v s wq => ∃ k : Nat, s = .int .i64 k ∧ k ≤ i ∧ v = .int .i64 (wsum ws k) ∧ Drawn0 W2 wq) (fun _ s _ => i - (intOf s).toNat)
      case atStart => exact ⟨0, rfl, by omega, rfl, Drawn0.refl _⟩
      case round =>
        obtain ⟨k, rfl, hk, rfl, hdr⟩ := hrel
        have HD0 := Lib.hid hdr
        have HC3' := Lib.hid (Kd.C_below HC3.out hdr.below)
        clear hdr
        by_cases hki : k < i
        · obtain ⟨b1, e1, c1⟩ := at_nat HC3'.out k (by rw [HWL.out]; exact hki)
          subst e1
          have hsum := HSS.out k
          obtain ⟨q, hq⟩ : ∃ q, wsum ws k = q := ⟨_, rfl⟩
          obtain ⟨x, hxx⟩ : ∃ x, ws.getD k 0 = x := ⟨_, rfl⟩
          rw [hxx] at c1
          rw [hq, hxx] at hsum
          rw [hq]
          have HSU := Lib.hid hsum
          clear hq hxx hsum
          go_wp2_with fail
          refine (radd_any q x _).mono ?_
          rintro e w' ⟨rfl, rfl⟩
          go_wp2_with fail
          go_roundw
          case rel => exact ⟨k + 1, by go_num, by omega, by rw [HSU.out], HD0.out⟩
          case measure => simp [intOf]; omega
        · obtain rfl : k = i := by omega
          have HBG := Lib.hid (HBF.out.trans (HD0.out.below.mono HBF.out.size))
          have HCLd := Lib.hid (Kd.C_below HCL.out HD0.out.below)
          obtain ⟨t0, t1, -⟩ := HWS.out k (Nat.le_refl _)
          obtain ⟨T, hT⟩ : ∃ T, wsum ws k = T := ⟨_, rfl⟩
          have hV := HV.out
          rw [hT] at hV t0 t1 ⊢
          obtain ⟨d0, d1⟩ := rbelow_range seed place T t0 t1
          have hw1 : IntKind.u64.wrap T = T := by simp [IntKind.wrap, IntKind.bits, IntKind.signed]; omega
          obtain ⟨D, hD⟩ : ∃ D, rbelow seed place T = D := ⟨_, rfl⟩
          rw [hD] at hV d0 d1
          have HDD := Lib.hid hD
          have hw2 : IntKind.i64.wrap D = D := by simp [IntKind.wrap, IntKind.bits, IntKind.signed]; omega
          have HV2 := Lib.hid hV
          clear hT hV hD HV
          go_wp2_with fail
          refine (rrbelow_any seed place T _ t0 (by omega)).mono ?_
          rw [HDD.out]
          rintro e W3 ⟨rfl, hd3⟩
          have HB3 := Lib.hid (HBG.out.trans (hd3.below.mono HBG.out.size))
          have HC4 := Lib.hid (Kd.C_below HC3'.out hd3.below)
          have HCM := Lib.hid (Kd.C_below HCLd.out hd3.below)
          clear hd3
          go_wp2_with fail
          go_loop [18, 19] (fun v s => ∃ j : Nat, s = .int .i64 j ∧ j ≤ k ∧ v = .int .i64 (wsum ws j) ∧ Hid (∀ h, h < j → wsum ws (h + 1) ≤ D)) (fun _ s => k - (intOf s).toNat)
          case atStart => exact ⟨0, rfl, by omega, by simp [wsum, sumTo], Lib.hid (fun h hh => absurd hh (Nat.not_lt_zero _))⟩
          case round =>
            obtain ⟨j, rfl, hj, rfl, hall⟩ := hrel
            by_cases hjk : j < k
            · obtain ⟨b1, e1, c1⟩ := at_nat HC4.out j (by rw [HWL.out]; exact hjk)
              subst e1
              have hsum := HSS.out j
              obtain ⟨p, hp, hpe⟩ := HIN.out j hjk
              obtain ⟨b2, e2, c2⟩ := at_nat HCM.out j (by rw [HM.out]; exact hjk)
              subst e2
              have HHit := Lib.hid (fun hd => vpk_hit ws D k j hjk hall.out hd)
              obtain ⟨q, hq⟩ : ∃ q, wsum ws j = q := ⟨_, rfl⟩
              obtain ⟨x, hxx⟩ : ∃ x, ws.getD j 0 = x := ⟨_, rfl⟩
              obtain ⟨q2, hq2⟩ : ∃ q2, wsum ws (j + 1) = q2 := ⟨_, rfl⟩
              rw [hxx] at c1 hsum
              rw [hq, hq2] at hsum
              rw [hq]
              have HQ := Lib.hid hq2
              have HSU := Lib.hid hsum
              clear hq hxx hsum hq2
              go_wp2_with fail
              refine (radd_any q x _).mono ?_
              rw [HSU.out]
              rintro e w' ⟨rfl, rfl⟩
              by_cases hd : D < q2
              · have g1 : decide (D < q2) = true := decide_eq_true hd
                have HR := Lib.hid (show L.getD j 0 = r by rw [← HV2.out, HHit.out (by rw [HQ.out]; exact hd)])
                rw [HR.out] at c2
                clear hd
                go_wp2_with fail
                go_ret
                exact ⟨rfl, HB3.out⟩
              · have g1 : decide (D < q2) = false := decide_eq_false hd
                clear hd HHit
                go_wp2_with fail
                go_round
                case rel => exact ⟨j + 1, by go_num, by omega, by rw [HQ.out], Lib.hid (fun h hh => by
                  by_cases e : h = j
                  · subst e; rw [HQ.out]; have := of_decide_eq_false g1; omega
                  · exact hall.out h (by omega))⟩
                case measure => simp [intOf]; omega
            · obtain rfl : j = k := by omega
              have HR := Lib.hid (show L.getD (j - 1) 0 = r by rw [← HV2.out, vpk_none ws D j hall.out])
              obtain ⟨j, rfl⟩ : ∃ j', j = j' + 1 := ⟨j - 1, by omega⟩
              obtain ⟨b2, e2, c2⟩ := at_nat HCM.out j (by rw [HM.out]; omega)
              subst e2
              rw [show L.getD j 0 = r from HR.out] at c2
              go_wp2_with fail
              go_ret
              exact ⟨rfl, HB3.out⟩

/-- The document's Draw. -/
theorem rdraw_any (A : Option Addr) (c : Nat) (xs : List Int) (top heat seed place : Int) (w : World) (hx : (Kd.int .i64).C w A xs.length xs) (hc : xs.length ≤ c) (hn : xs.length ≤ 4096) (hh1 : heat ≤ 9223372036854775807) :
    Calls Tryz.prog 54 #[.slice A xs.length c, .int .i64 top, .int .i64 heat, .int .u64 seed, .int .u64 place] w fun e w' => e = .returned (.int .i64 (vdraw xs top heat seed place)) ∧ Below w.heap.size w w' := by
  by_cases h : heat < 1 ∨ xs.length = 0
  · exact rdraw_best A c xs top heat seed place w hx hc hn h
  · exact rdraw_main A c xs top heat seed place w hx hc hn (by omega) (by omega) hh1

end Go.Proofs.YtdfgmdmcdnnhfaaGreat

namespace Go.Proofs.YtdfgmdmcdnnhfaaGreat
open Go.RowKit Go.Shelf Go.Proofs.YtdfgmdmcdnnhfaaGreatW.PrintWords Go.Proofs.YtdfgmdmcdnnhfaaGreatW.PrintLast Go.Proofs.YtdfgmdmcdnnhfaaGreatW.PrintMore
set_option linter.unusedVariables false
set_option linter.unusedSimpArgs false
set_option maxRecDepth 100000

def Far11 (n : Nat) (w : World) (e : Ending) (w' : World) : Prop := e = .returned (.bool (decide (200 < n))) ∧ w = w'
/-- A variable of four numbers, and that nothing older has turned. -/
def Box4 (B : Nat) (w0 : World) (t h s p : Int) (W : World) : Prop :=
  W.cell? ⟨B, 0, none⟩ = some (.int .i64 t) ∧ W.cell? ⟨B, 1, none⟩ = some (.int .i64 h) ∧ W.cell? ⟨B, 2, none⟩ = some (.int .u64 s) ∧ W.cell? ⟨B, 3, none⟩ = some (.int .u64 p) ∧ Hid (Below w0.heap.size w0 W)
theorem Box4.step {B : Nat} {w0 W W' : World} {t h s p : Int} (hS : Box4 B w0 t h s p W) (hb : Below W.heap.size W W') : Box4 B w0 t h s p W' := by
  obtain ⟨h1, h2, h3, h4, h5⟩ := hS
  have hl := World.block_lt_of_cell? W _ h1
  exact ⟨(hb.cell (p := ⟨B, 0, none⟩) hl).trans h1, (hb.cell (p := ⟨B, 1, none⟩) hl).trans h2, (hb.cell (p := ⟨B, 2, none⟩) hl).trans h3, (hb.cell (p := ⟨B, 3, none⟩) hl).trans h4, Lib.hid (below_then h5.out h5.out.size hb)⟩
theorem Box4.below {B : Nat} {w0 W : World} {t h s p : Int} (hS : Box4 B w0 t h s p W) : Below w0.heap.size w0 W := hS.2.2.2.2.out

theorem sdecide1 : vbest [3, 9, 9] = 1 := by decide +kernel
theorem sdecide2 : vdraw [3, 9, 9] 3 0 1 1 = 1 := by decide +kernel
theorem sdecide3 : vdraw [3, 9, 9] 1 5 1 1 = 1 := by decide +kernel
theorem sdecide4 : vbest [] = -1 := by decide +kernel

end Go.Proofs.YtdfgmdmcdnnhfaaGreat
