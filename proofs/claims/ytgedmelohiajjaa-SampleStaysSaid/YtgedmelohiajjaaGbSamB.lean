/- The contract of sample.Draw. -/
import Derived.Test.YtgedmelohiajjaaGbSamA
namespace Go.Proofs.Ytgedmelohiajjaa
open Go.RowKit Go.Shelf Go.Proofs.YtgedmelohiajjaaW.PrintWords Go.Proofs.YtgedmelohiajjaaW.PrintLast Go.Proofs.YtgedmelohiajjaaW.PrintMore
set_option linter.unusedVariables false
set_option linter.unusedSimpArgs false
attribute [local go_sem] gb_max2 gb_min2 gb_max_two gb_min_two gb_max_three gb_min_three

/-- sample.Draw where weights tell. -/
theorem draw_main (A : Option Addr) (c : Nat) (xs : List Int) (top heat seed place : Int) (w : World) (hx : (Kd.int .i64).C w A xs.length xs) (hc : xs.length ≤ c) (hn : xs.length ≤ 4096) (h1 : ¬ heat < 1) (h2 : 0 < xs.length) (hh1 : heat ≤ 9223372036854775807) :
    Calls Try.prog 41 #[.slice A xs.length c, .int .i64 top, .int .i64 heat, .int .u64 seed, .int .u64 place] w fun e w' => e = .returned (.int .i64 (vdraw xs top heat seed place)) ∧ Below w.heap.size w w' := by
  obtain ⟨r, hr⟩ : ∃ r, vdraw xs top heat seed place = r := ⟨_, rfl⟩
  have hv : (vtop xs (max top 1)).getD (vpk (vwts xs top heat) (vleft xs top heat seed place) (vtop xs (max top 1)).length) 0 = r := by rw [← hr]; unfold vdraw; rw [if_neg (by omega)]
  have hst := vsome_tab xs top heat
  have hin := fun j hj => vtop_in xs (max top 1) j hj
  have hlen := vtop_len xs (max top 1)
  unfold vleft vwts at hv
  obtain ⟨n, hnn⟩ : ∃ n, xs.length = n := ⟨_, rfl⟩
  have HX := Lib.hid (fun (W : World) (hb : Below w.heap.size w W) => Kd.C_below hx hb)
  rw [hr]
  rw [hnn] at h2 HX hc hn hin hlen ⊢
  have HN := Lib.hid hnn
  have HM0 := Lib.hid hlen
  obtain ⟨m, hm⟩ : ∃ m, (vtop xs (max top 1)).length = m := ⟨_, rfl⟩
  rw [hm] at hv hst hin hlen
  have hm1 : 0 < m := by omega
  have hmn : m ≤ 4096 := by omega
  have HM := Lib.hid hm
  have HV := Lib.hid hv
  have HST := Lib.hid hst
  have HIN := Lib.hid hin
  have HWS := Lib.hid (fun i hi => wsum_is (vsome xs top heat) (by rw [vsome_len, hm]; exact hmn) i hi)
  have hsl : (vsome xs top heat).length = m := by rw [vsome_len, hm]
  have hwl : (vsoft (vsome xs top heat)).length = m := by rw [vsoft_len, hsl]
  rw [hsl] at HWS
  have HSL := Lib.hid hsl
  have HWL := Lib.hid hwl
  have g0 : decide (heat < 1) = false := decide_eq_false h1
  have heg := enters_of Try.func76 (by kernel_rfl) rfl
  have HC := Lib.hid hc
  have HL := Lib.hid hn
  have hh0 : -9223372036854775808 ≤ heat := by omega
  have HH1 := Lib.hid hh1
  clear hx hnn hv hc hn hst hin hlen hm hsl hwl h1
  have hne : (n == 0) = false := by simp; omega
  go_enter Try.func41, Try.ntmps41
  go_wp2_with fail
  obtain ⟨W0, hW0⟩ : ∃ W0, (w.alloc (.cells #[.slice A n c] 22)).alloc (.cells #[.int .i64 heat] 3) = W0 := ⟨_, rfl⟩
  have hb0 : Below w.heap.size w W0 := by rw [← hW0]; exact below_alloc (below_alloc (Below.refl _ w) _) _
  obtain ⟨B1, hB1⟩ : ∃ B, w.heap.size = B := ⟨_, rfl⟩
  have k1 : W0.cell? ⟨B1, 0, none⟩ = some (.slice A n c) := by rw [← hW0, ← hB1]; simp
  have k2 : W0.cell? ⟨B1 + 1, 0, none⟩ = some (.int .i64 heat) := by rw [← hW0, ← hB1]; simp
  have HBB := Lib.hid hB1
  have HB0 := Lib.hid hb0
  have HK1 := Lib.hid k1
  have HK2 := Lib.hid k2
  have l1 := World.block_lt_of_cell? W0 _ k1
  have l2 := World.block_lt_of_cell? W0 _ k2
  rw [hW0, hB1]
  clear hW0 k1 k2 hb0 hB1
  have hx := HX.out _ HB0.out
  have hc := HC.out
  rw [← HN.out] at hx hc ⊢
  refine (top_any _ _ xs (max top 1) W0 hx hc (by rw [HN.out]; exact HL.out)).mono ?_
  rintro e W1 ⟨v1, rfl, ho1, hb1⟩
  have HE1 := Lib.hid hb1
  have HB1 := Lib.hid (below_then HB0.out HB0.out.size hb1)
  obtain ⟨L, hLL⟩ : ∃ L, vtop xs (max top 1) = L := ⟨_, rfl⟩
  rw [hLL] at ho1 HM HV HST HIN
  obtain ⟨A1, k1, rfl, hk1, hC1⟩ := ho1.reads_n HM.out
  have HC1 := Lib.hid hC1
  clear ho1 hb1 hC1 hx hc hLL
  rw [HN.out]
  obtain ⟨ys, hys⟩ : ∃ ys, vsome xs top heat = ys := ⟨_, rfl⟩
  rw [hys] at HV HST HWS HSL HWL
  clear hys
  go_wp2_with fail
  go_loopw [13, 39] (fun v s wr => ∃ i : Nat, s = .int .i64 i ∧ i ≤ m ∧ Own wr W1.heap.size 2 v (tab i fun j => vheat xs heat (L.getD j 0)) ∧ Below W1.heap.size W1 wr) (fun _ s _ => m - (intOf s).toNat)
  case atStart => exact ⟨0, rfl, by omega, Kd.R_nil _ _ _ _ _, Below.refl _ _⟩
  case round =>
    obtain ⟨i, rfl, hi, ho, hb⟩ := hrel
    have HO := Lib.hid ho
    have HB := Lib.hid hb
    have HBW := Lib.hid (below_then HB1.out HB1.out.size hb)
    have HBE := Lib.hid (below_then HE1.out HE1.out.size hb)
    have hsz := hb.size
    clear ho hb
    by_cases him : i < m
    · obtain ⟨p, hp, hpe⟩ := HIN.out i him
      obtain ⟨b1, e1, c1⟩ := at_nat (Kd.C_below HC1.out HB.out) i (by rw [HM.out]; exact him)
      subst e1
      rw [hpe] at c1
      have HT := Lib.hid (show tab (i + 1) (fun j => vheat xs heat (L.getD j 0)) = tab i (fun j => vheat xs heat (L.getD j 0)) ++ [vheat xs heat p] by rw [tab_succ, hpe])
      have hlt : (tab i fun j => vheat xs heat (L.getD j 0)).length ≤ 1000000 := by rw [tab_len]; omega
      obtain ⟨S, hS⟩ : ∃ S, (tab i fun j => vheat xs heat (L.getD j 0)) = S := ⟨_, rfl⟩
      rw [hS] at HO HT hlt
      clear hpe hS
      go_wp2_with fail
      refine (heated_any A c xs heat B1 (B1 + 1) p wr (HX.out _ HBW.out |> fun h => by rw [HN.out]; exact h) (by rw [HN.out]; exact hp) (by rw [HN.out]; exact (HBE.out.cell (p := ⟨B1, 0, none⟩) l1).trans HK1.out) ((HBE.out.cell (p := ⟨B1 + 1, 0, none⟩) l2).trans HK2.out) hh0 HH1.out).mono ?_
      rintro e w2 ⟨rfl, hd⟩
      have ho2 := HO.out.below (hd.below)
      have hb2 := HB.out.trans (hd.below.mono hsz)
      have hsz2 := hb2.size
      have HO2 := Lib.hid ho2
      have HB2 := Lib.hid hb2
      clear ho2 hb2 hd
      go_wp2_with (at_builtin; refine own_append (w0 := W1) w2 _ W1.heap.size rfl _ _ 22 2 rfl Try.underlying22 infoI64 _ S (vheat xs heat p) w2.heap.size rfl rfl rfl rfl HO2.out HB2.out hsz2 hlt ?_; intro v1 w1 ho1 hb1; have HO1 := Lib.hid ho1; have HBN := Lib.hid hb1; clear ho1 hb1)
      go_roundw
      case rel => exact ⟨i + 1, by go_num, by omega, by rw [HT.out]; exact HO1.out, HBN.out⟩
      case measure => simp [intOf]; omega
    · obtain rfl : i = m := by omega
      have ho := HO.out
      rw [HST.out] at ho
      obtain ⟨A2, k2, rfl, hk2, hC2⟩ := ho.reads_n HSL.out
      have HC2 := Lib.hid hC2
      clear ho hC2 HO
      go_wp2_with fail
      have hs := soft_any A2 k2 ys wr HC2.out (by rw [HSL.out]; exact hk2) (by rw [HSL.out]; exact hmn)
      rw [HSL.out] at hs
      refine hs.mono ?_
      rintro e W2 ⟨v2, rfl, ho2, hb2⟩
      have HBF := Lib.hid (below_then HBW.out HBW.out.size hb2)
      have HCL := Lib.hid (Kd.C_below HC1.out (below_then HB.out hsz hb2))
      obtain ⟨ws, hws⟩ : ∃ ws, vsoft ys = ws := ⟨_, rfl⟩
      rw [hws] at ho2 HV HWS HWL
      obtain ⟨A3, k3, rfl, hk3, hC3⟩ := ho2.reads_n HWL.out
      have HC3 := Lib.hid hC3
      have HSS := Lib.hid (fun k => show fadd (wsum ws k) (ws.getD k 0) = wsum ws (k + 1) from rfl)
      clear hws ho2 hb2 hC3 hs HC2 hi him
      go_wp2_with fail
      go_loop [17, 54] (fun v s => ∃ k : Nat, s = .int .i64 k ∧ k ≤ i ∧ v = .int .i64 (wsum ws k)) (fun _ s => i - (intOf s).toNat)
      case atStart => exact ⟨0, rfl, by omega, rfl⟩
      case round =>
        obtain ⟨k, rfl, hk, rfl⟩ := hrel
        by_cases hki : k < i
        · obtain ⟨b1, e1, c1⟩ := at_nat HC3.out k (by rw [HWL.out]; exact hki)
          subst e1
          have hsum := HSS.out k
          obtain ⟨q, hq⟩ : ∃ q, wsum ws k = q := ⟨_, rfl⟩
          obtain ⟨x, hxx⟩ : ∃ x, ws.getD k 0 = x := ⟨_, rfl⟩
          rw [hxx] at c1
          rw [hq, hxx] at hsum
          rw [hq]
          have HSU := Lib.hid hsum
          clear hq hxx hsum
          go_wp2_with fail
          refine (add_any q x _).mono ?_
          rintro e w' ⟨rfl, rfl⟩
          go_wp2_with fail
          go_round
          case rel => exact ⟨k + 1, by go_num, by omega, by rw [HSU.out]⟩
          case measure => simp [intOf]; omega
        · obtain rfl : k = i := by omega
          obtain ⟨t0, t1, -⟩ := HWS.out k (Nat.le_refl _)
          obtain ⟨T, hT⟩ : ∃ T, wsum ws k = T := ⟨_, rfl⟩
          have hV := HV.out
          rw [hT] at hV t0 t1 ⊢
          obtain ⟨d0, d1⟩ := rbelow_range seed place T t0 t1
          have hw1 : IntKind.u64.wrap T = T := by simp [IntKind.wrap, IntKind.bits, IntKind.signed]; omega
          obtain ⟨D, hD⟩ : ∃ D, rbelow seed place T = D := ⟨_, rfl⟩
          rw [hD] at hV d0 d1
          have HDD := Lib.hid hD
          have hw2 : IntKind.i64.wrap D = D := by simp [IntKind.wrap, IntKind.bits, IntKind.signed]; omega
          have HV2 := Lib.hid hV
          clear hT hV hD HV
          go_wp2_with fail
          refine (rbelow_any seed place T _ t0 (by omega)).mono ?_
          rw [HDD.out]
          rintro e w' ⟨rfl, rfl⟩
          go_wp2_with fail
          go_loop [20, 70] (fun v s => ∃ j : Nat, s = .int .i64 j ∧ j ≤ k ∧ v = .int .i64 (D - wsum ws j) ∧ Hid (∀ h, h < j → wsum ws (h + 1) ≤ D)) (fun _ s => k - (intOf s).toNat)
          case atStart => exact ⟨0, rfl, by omega, by simp [wsum, sumTo], Lib.hid (fun h hh => absurd hh (Nat.not_lt_zero _))⟩
          case round =>
            obtain ⟨j, rfl, hj, rfl, hall⟩ := hrel
            by_cases hjk : j < k
            · obtain ⟨b1, e1, c1⟩ := at_nat HC3.out j (by rw [HWL.out]; exact hjk)
              subst e1
              obtain ⟨q0, q1, hq2⟩ := HWS.out j (by omega)
              obtain ⟨hq3, x0, x1⟩ := hq2 hjk
              obtain ⟨p, hp, hpe⟩ := HIN.out j hjk
              obtain ⟨b2, e2, c2⟩ := at_nat HCL.out j (by rw [HM.out]; exact hjk)
              subst e2
              have HHit := Lib.hid (fun hd => vpk_hit ws D k j hjk hall.out hd)
              obtain ⟨q, hq⟩ : ∃ q, wsum ws j = q := ⟨_, rfl⟩
              obtain ⟨x, hxx⟩ : ∃ x, ws.getD j 0 = x := ⟨_, rfl⟩
              rw [hxx] at c1 hq3 x0 x1
              rw [hq] at hq3 q0 q1
              rw [hq]
              have HQ := Lib.hid hq3
              clear hq hxx hq2 hq3
              by_cases hd : D - q - x < 0
              · have g1 : decide (D - q - x < 0) = true := decide_eq_true hd
                have HR := Lib.hid (show L.getD j 0 = r by rw [← HV2.out, HHit.out (by rw [HQ.out]; omega)])
                rw [HR.out] at c2
                clear hd
                go_wp2_with fail
                go_ret
                exact ⟨rfl, HBF.out⟩
              · have g1 : decide (D - q - x < 0) = false := decide_eq_false hd
                clear hd HHit
                go_wp2_with fail
                go_round
                case rel => exact ⟨j + 1, by go_num, by omega, by rw [HQ.out]; go_num, Lib.hid (fun h hh => by
                  by_cases e : h = j
                  · subst e; rw [HQ.out]; have := of_decide_eq_false g1; omega
                  · exact hall.out h (by omega))⟩
                case measure => simp [intOf]; omega
            · obtain rfl : j = k := by omega
              have HR := Lib.hid (show L.getD (j - 1) 0 = r by rw [← HV2.out, vpk_none ws D j hall.out])
              obtain ⟨j, rfl⟩ : ∃ j', j = j' + 1 := ⟨j - 1, by omega⟩
              obtain ⟨b2, e2, c2⟩ := at_nat HCL.out j (by rw [HM.out]; omega)
              subst e2
              rw [show L.getD j 0 = r from HR.out] at c2
              go_wp2_with fail
              go_ret
              exact ⟨rfl, HBF.out⟩

/-- sample.Draw. -/
theorem draw_any (A : Option Addr) (c : Nat) (xs : List Int) (top heat seed place : Int) (w : World) (hx : (Kd.int .i64).C w A xs.length xs) (hc : xs.length ≤ c) (hn : xs.length ≤ 4096) (hh1 : heat ≤ 9223372036854775807) :
    Calls Try.prog 41 #[.slice A xs.length c, .int .i64 top, .int .i64 heat, .int .u64 seed, .int .u64 place] w fun e w' => e = .returned (.int .i64 (vdraw xs top heat seed place)) ∧ Below w.heap.size w w' := by
  by_cases h : heat < 1 ∨ xs.length = 0
  · exact draw_best A c xs top heat seed place w hx hc hn h
  · exact draw_main A c xs top heat seed place w hx hc hn (by omega) (by omega) hh1

end Go.Proofs.Ytgedmelohiajjaa
