/- What was cut off and made anew is the same; a memory that was handed on stays as it is. -/
import Derived.Test.YtdfgmdmcdnnhfaaRows
import Derived.WalkKit
import Derived.ProofKit
import Derived.OpenShut
import Derived.ShutString
import Derived.ChangeOld
import Derived.Below
import Derived.Test.YtdfgmdmcdnnhfaaOpn
import Derived.Test.YtdfgmdmcdnnhfaaAtX
import Derived.Test.YtdfgmdmcdnnhfaaOpE
namespace Go.Proofs.Ytdfgmdmcdnnhfaa.attnCuts
open Go.ChangeShapes Go.WideShapes Go.ChangeAt Go.RowKit
open Go.ChangeMaps (open_string shut_string)
set_option linter.unusedVariables false
set_option linter.unusedSimpArgs false
open Go.Proofs.YtdfgmdmcdnnhfaaW.PrintWords Go.Proofs.YtdfgmdmcdnnhfaaW.PrintLast Go.Proofs.YtdfgmdmcdnnhfaaW.PrintMore

theorem own : ownKnob Try.prog.godebug = none := by kernel_rfl
theorem laidOut : laidOutB Try.prog = true := by kernel_rfl

set_option maxRecDepth 100000
/-- The configuration's box at g. -/
def BxK (c : Cfg) (g : Nat) (w0 W : World) : Prop := W.cell? ⟨g, 0, none⟩ = some (.int .u64 c.seed) ∧ W.cell? ⟨g, 1, none⟩ = some (.int .i64 c.vocab) ∧ W.cell? ⟨g, 2, none⟩ = some (.int .i64 c.dim) ∧ W.cell? ⟨g, 3, none⟩ = some (.int .i64 c.layers) ∧ W.cell? ⟨g, 4, none⟩ = some (.int .i64 c.top) ∧ W.cell? ⟨g, 5, none⟩ = some (.int .i64 c.heat) ∧ Hid (Below w0.heap.size w0 W)
theorem BxK.step {c : Cfg} {g : Nat} {w0 W W' : World} (hS : BxK c g w0 W) (hb : Below W.heap.size W W') : BxK c g w0 W' := by
  obtain ⟨h0, h1, h2, h3, h4, h5, h6⟩ := hS
  exact ⟨pw_cell_below hb h0, pw_cell_below hb h1, pw_cell_below hb h2, pw_cell_below hb h3, pw_cell_below hb h4, pw_cell_below hb h5, Lib.hid (below_then h6.out h6.out.size hb)⟩
theorem BxK.below {c : Cfg} {g : Nat} {w0 W : World} (hS : BxK c g w0 W) : Below w0.heap.size w0 W := hS.2.2.2.2.2.2.out
theorem bdN (w : World) (n : Nat) : Below w.heap.size w (w.drewN n) := ⟨rfl, rfl, rfl, Nat.le_refl _, fun _ _ => rfl⟩
attribute [local go_sem] gb_max2 gb_min2 gb_max_two gb_min_two gb_max_three gb_min_three run_cfg1 run_cfg2 run_cfg3
set_option maxHeartbeats 2000000 in
theorem walk (cs0 : Array Value) (x0 : Cfg) (a1 : Option Addr) (len1 cap1 : Nat) (x1 : List (List Int)) (a2 : Int) (w : World) (k0 : KCfg.K w x0 cs0.toList) (gd0 : (CfgW) x0) (k1 : KTab.K w x1 [.slice a1 len1 cap1]) (gd1 : (fun xss => (∀ xs ∈ xss, (∀ x ∈ xs, (Lit.int .i64 x).wf = true) ∧ xs.length ≤ maxLen) ∧ xss.length ≤ maxLen) x1) (gd2 : (Lit.int .i64 a2).wf = true) :
    Calls Try.prog 6 #[.agg cs0, .slice a1 len1 cap1, .int .i64 a2] w fun e w' => e = .returned (.bool true) ∧ Below w.heap.size w w' := by
  obtain rfl := cfg_cells k0
  obtain ⟨rfl, hcx, hx⟩ := slice_came k1
  obtain ⟨l, hl⟩ : ∃ l, x1 = l := ⟨_, rfl⟩
  subst hl
  have HCV := Lib.hid (show x0.v = .agg #[.int .u64 x0.seed, .int .i64 x0.vocab, .int .i64 x0.dim, .int .i64 x0.layers, .int .i64 x0.top, .int .i64 x0.heat] from rfl)
  have HX := Lib.hid (fun (W' : World) (hb : Below w.heap.size w W') => show Rows_ W' a1 x1 from Kd.C_below hx hb)
  obtain ⟨W0, hW0⟩ : ∃ W0, w.alloc (.cells #[.int .u64 x0.seed, .int .i64 x0.vocab, .int .i64 x0.dim, .int .i64 x0.layers, .int .i64 x0.top, .int .i64 x0.heat] 24) = W0 := ⟨_, rfl⟩
  have hS0 : BxK x0 w.heap.size w W0 := by
    have h1 := heap_alloc_new w (.cells #[.int .u64 x0.seed, .int .i64 x0.vocab, .int .i64 x0.dim, .int .i64 x0.layers, .int .i64 x0.top, .int .i64 x0.heat] 24)
    rw [hW0] at h1
    refine ⟨?_, ?_, ?_, ?_, ?_, ?_, Lib.hid ?_⟩
    all_goals first | (rw [blk_cell h1]; rfl) | (rw [← hW0]; exact below_alloc (Below.refl _ w) _)
  have HSZ := Lib.hid (show W0.heap.size = w.heap.size + 1 by rw [← hW0]; simp)
  obtain ⟨g, hg⟩ : ∃ g, w.heap.size = g := ⟨_, rfl⟩
  rw [hg] at hS0
  have HG := Lib.hid hg
  have HW0 := Lib.hid hW0
  have HFAR := Lib.hid (far10_any (W0.alloc (.cells #[.slice a1 x1.length cap1] 39)) none (some ⟨W0.heap.size, 0, none⟩) 0 0 1 [x1] (tabs1 W0 _ a1 cap1 x1 (HX.out W0 hS0.below) hcx))
  obtain ⟨n, hn⟩ : ∃ n, x1.length = n := ⟨_, rfl⟩
  have hn9 : n ≤ 9223372036854775807 := by rw [← hn]; exact hx.2.1
  have HS1 := Lib.hid (hS0.step (below_alloc (Below.refl _ W0) (.cells #[.slice a1 x1.length cap1] 39)))
  rw [hn] at hcx HFAR HS1
  rw [hn]
  have HN := Lib.hid hn
  obtain ⟨z0, z1, z2, z3, z4, z5, -⟩ := id hS0
  clear k0 k1 gd0 gd1 gd2 hx hg hW0 hn hS0
  go_enter Try.func6, Try.ntmps6
  go_wp2_with fail
  rw [HW0.out]
  rw [show w.heap.size + 1 = W0.heap.size from HSZ.out.symm]
  try rw [HG.out]
  refine HFAR.out.mono ?_
  unfold FarR
  rintro e W1 ⟨far, rfl, hfar, hd⟩
  have HS1 := Lib.hid (HS1.out.step hd.below)
  have HFR := Lib.hid hfar
  clear hd hfar z0 z1 z2 z3 z4 z5
  obtain ⟨z0, z1, z2, z3, z4, z5, -⟩ := id HS1.out
  cases far with
  | true =>
    go_wp2_with fail
    refine (alive10_any _).mono ?_
    rintro e W2 ⟨rfl, hb⟩
    have HS2 := Lib.hid (HS1.out.step hb)
    clear hb
    go_wp2_with fail
    go_ret
    exact ⟨rfl, HS2.out.below⟩
  | false =>
    by_cases h6 : 6 < n
    · go_wp2_with fail
      refine (alive10_any _).mono ?_
      rintro e W2 ⟨rfl, hb⟩
      have HS2 := Lib.hid (HS1.out.step hb)
      clear hb
      go_wp2_with fail
      go_ret
      exact ⟨rfl, HS2.out.below⟩
    · have HSH := Lib.hid (near_short ((HFR.out rfl).2 x1 (by simp)).2)
      by_cases hok : x0.ok
      · have HNW := Lib.hid (new_ok x0 hok W1)
        rw [HCV.out] at HNW
        have HOK := Lib.hid hok
        have hL := hok.2.2.1
        have hmin : min (max x0.layers 0) 4 = x0.layers := by omega
        have HMIN := Lib.hid hmin
        clear hok hL hmin
        go_wp2_with fail
        refine HNW.out.mono ?_
        unfold NewYes
        rintro e W2 ⟨p, rfl, hM, hb⟩
        have HS2 := Lib.hid (HS1.out.step hb)
        have HMo := Lib.hid (fun (W' : World) (hb : Below W2.heap.size W2 W') => hM.below hb)
        clear hM hb HNW z0 z1 z2 z3 z4 z5
        obtain ⟨z0, z1, z2, z3, z4, z5, -⟩ := id HS2.out
        go_wp2_with fail
        refine (anewG_any x0.layers W2).mono ?_
        rintro e W3 ⟨q, rfl, hm, hb⟩
        rw [HMIN.out] at hm
        have HS3 := Lib.hid (HS2.out.step hb)
        have HM3 := Lib.hid (show MemG (Bt W2.heap.size W3.heap.size) W3 q x0.layers (aPs x0 x1 0) from hm)
        have HB3 := Lib.hid hb
        have HX2 := Lib.hid (fun (W' : World) (hb : Below W2.heap.size W2 W') => HX.out W' (below_then HS2.out.below HS2.out.below.size hb))
        clear hm hb z0 z1 z2 z3 z4 z5
        go_wp2_with fail
        go_loopw [9, 10, 43] (fun m v s wr => ∃ (i q : Nat) (v' : Value) (F : Nat → Prop), v' = v ∧ m = .pointer (some ⟨q, 0, none⟩) ∧ s = .int .i64 i ∧ i ≤ n ∧ Hid (MemG F wr q x0.layers (aPs x0 x1 i)) ∧ Hid (KRow.R 25 wr W2.heap.size (fun _ => True) v (aYs x0 x1 i)) ∧ Hid (∀ k, v.ownBlock = some k → ¬ F k) ∧ Hid (Below W2.heap.size W2 wr)) (fun _ _ s _ => n - (intOf s).toNat)
        case atStart => exact ⟨0, q, _, _, rfl, rfl, rfl, by omega, HM3, Lib.hid (Kd.R_nil _ _ _ _ _), Lib.hid (fun k hk => by simp [Value.ownBlock] at hk), HB3⟩
        case round =>
          obtain ⟨i, q, v, F, rfl, rfl, rfl, hi, HMi, HRi, HVi, HBi⟩ := hrel
          by_cases hin : i < n
          · obtain ⟨b, A', c', e1, q0, hc', hC'⟩ := (HX2.out W2 (Below.refl _ _)).at_ i (by rw [HN.out]; exact hin)
            have q1 := pw_cell_below HBi.out q0
            subst e1
            have hl1 := HSH.out i
            have HTH := Lib.hid (thru_at wr p x0 HOK.out (HMo.out _ HBi.out) F q (aPs x0 x1 i) HMi.out (aPs_ok x0 HOK.out x1 i) (by rw [aPs_len]; omega) A' c' (x1.getD i []) (Kd.C_below hC' HBi.out) hc' hl1)
            have HYE := Lib.hid (show aYs x0 x1 i ++ [ty x0 (aPs x0 x1 i) (x1.getD i [])] = aYs x0 x1 (i + 1) from rfl)
            have HYL := Lib.hid (aYs_len x0 x1 i)
            rw [show aPs x0 x1 i ++ [tp x0 (aPs x0 x1 i) (x1.getD i [])] = aPs x0 x1 (i + 1) from rfl] at HTH
            obtain ⟨Y, hY⟩ : ∃ Y, ty x0 (aPs x0 x1 i) (x1.getD i []) = Y := ⟨_, rfl⟩
            rw [hY] at HTH HYE
            obtain ⟨m, hm⟩ : ∃ m, (x1.getD i []).length = m := ⟨_, rfl⟩
            rw [hm] at q1 HTH
            unfold ThruR at HTH
            clear hC' hc' q0 hl1 hY hm
            go_wp2_with fail
            refine HTH.out.mono ?_
            rintro e w2 ⟨A3, c3, q2, rfl, ho2, hm2, hb2⟩
            have HM2 := Lib.hid hm2
            have HLT := Lib.hid (fun k (hk : v.ownBlock = some k) => by
              obtain ⟨inner, ho⟩ := Kd.R_own HRi.out
              exact own_lt ho k hk)
            have HNV := Lib.hid (fun k (hk : v.ownBlock = some k) (hf : FU F (Bt wr.heap.size w2.heap.size) k) => by
              rcases hf with hf | hf
              · exact HVi.out k hk hf
              · have h1 := HLT.out k hk; have h2 := hf.1; omega)
            have HO2 := Lib.hid (Kd.R_below HRi.out hb2)
            obtain ⟨inner, hown⟩ := Kd.R_own HRi.out
            have HN2 := Lib.hid (Kd.R_lower (Kd.R_new ho2 hown) HBi.out.size)
            have HB2 := Lib.hid (below_then HBi.out HBi.out.size hb2)
            have hsz2 := HB2.out.size
            clear ho2 hb2 hown hm2 q1
            go_wp2_with (at_builtin; refine Kd.R_append KRow (w0 := W2) (W := w2) W2.heap.size rfl _ _ 39 25 (.slice none 0 0) 24 rfl Try.underlying39 infoRow rfl (by decide) (by decide) v (aYs x0 x1 i) Y [.slice A3 Y.length c3] (fun _ => True) (fun k => True ∧ some k ≠ v.ownBlock) (by rfl) (by rfl) ⟨_, rfl, HN2.out⟩ (fun _ h => h) (fun _ _ => trivial) HO2.out HB2.out hsz2 (by rw [HYL.out]; omega) ?_; intro v5 w5 hr5 hb5 hg5 hat5; have HR5 := Lib.hid hr5; have HB5 := Lib.hid hb5; have HM5 := Lib.hid (HM2.out.grown hg5 (fun k hf he => HNV.out k he.symm hf)); have HV5 := Lib.hid (show ∀ k, v5.ownBlock = some k → ¬ FU F (Bt wr.heap.size w2.heap.size) k from fun k hk hf => by
              rcases hat5 with h | ⟨b, h, hle⟩
              · exact HNV.out k (h ▸ hk) hf
              · rw [h] at hk; injection hk with hk; have := HM2.out.2 k hf; omega); clear hr5 hb5 hg5 hat5)
            go_roundw
            case rel => exact ⟨i + 1, q2, _, _, rfl, rfl, by go_num, by omega, HM5, by rw [← HYE.out]; exact HR5, HV5, HB5⟩
            case measure => simp [intOf]; omega
          · have hin' : i = n := by omega
            subst hin'
            obtain ⟨k, hk⟩ : ∃ k : Nat, min (max a2 0) (i : Int) = k := ⟨(min (max a2 0) (i : Int)).toNat, by omega⟩
            have hki : k ≤ i := by omega
            have HCUT := Lib.hid (acutG_any F wr q x0.layers a2 (aPs x0 x1 i) HMi.out (by rw [aPs_len]; omega))
            rw [aPs_len, hk, Int.toNat_natCast, aPs_take x0 x1 i k hki] at HCUT
            unfold CutG at HCUT
            obtain ⟨z0, z1, z2, z3, z4, z5, -⟩ := id (HS2.out.step HBi.out)
            go_wp2_with fail
            refine HCUT.out.mono ?_
            rintro e W4 ⟨qc, rfl, hmc, hb⟩
            have HMC := Lib.hid hmc
            have HME := Lib.hid (HMi.out.below hb)
            have HB4 := Lib.hid (below_then HBi.out HBi.out.size hb)
            obtain ⟨Ao, co, rfl, -, hCo⟩ := Kd.R_reads HRi.out
            rw [aYs_len]
            have HCO := Lib.hid (show Rows_ W4 Ao (aYs x0 x1 i) from Kd.C_below hCo hb)
            have HLE := Lib.hid (fun u : Nat => alen_any (W4.drewN u) qc x0.layers (aPs x0 x1 k) (hmc.mem.below (bdN W4 u)))
            have HLY := Lib.hid (fun u : Nat => alay_any (W4.drewN u) qc x0.layers (aPs x0 x1 k) (hmc.mem.below (bdN W4 u)))
            rw [aPs_len] at HLE
            have y3 := pw_cell_below hb z3
            have hkk : min (max a2 0) (i : Int) = k := hk
            have hk1 : (if (if a2 < 0 then (0:Int) else a2) < i then (if a2 < 0 then (0:Int) else a2) else i) = k := by
              rw [← hk]; split <;> split <;> omega
            have hkz : ((k : Int) != (k : Int)) = false := by simp
            have hlz : (x0.layers != x0.layers) = false := by simp
            clear hmc hb hCo hk z0 z1 z2 z3 z4 z5 HMi HRi HVi HCUT
            go_wp2_with fail
            go_quiet (first
              | (go_at_call 27; exact Calls.quiet_of_same (HLE.out _))
              | (go_at_call 29; exact Calls.quiet_of_same (HLY.out _)))
            have HMC := Lib.hid (HMC.out.below (bdN W4 nq))
            have HME := Lib.hid (HME.out.below (bdN W4 nq))
            have HCO := Lib.hid (show Rows_ (W4.drewN nq) Ao (aYs x0 x1 i) from Kd.C_below HCO.out (bdN W4 nq))
            have HB4 := Lib.hid (below_then HB4.out HB4.out.size (bdN W4 nq))
            obtain ⟨W5, hW5⟩ : ∃ W5, W4.drewN nq = W5 := ⟨_, rfl⟩
            rw [hW5] at HMC HME HCO HB4
            rw [hW5]
            clear y3 hW5 HLE HLY hkz hlz
            have HX5 := Lib.hid (fun (W' : World) (hb : Below W5.heap.size W5 W') => HX2.out W' (below_then HB4.out HB4.out.size hb))
            have HMo5 := Lib.hid (fun (W' : World) (hb : Below W5.heap.size W5 W') => HMo.out W' (below_then HB4.out HB4.out.size hb))
            have HXL := Lib.hid (show x1.length = i from HN.out)
            clear HX2 HX HMo HN
            go_wp2_with fail
            go_loopw [17, 18] (fun m s wr => ∃ (j q : Nat) (F : Nat → Prop), m = .pointer (some ⟨q, 0, none⟩) ∧ s = .int .i64 j ∧ k ≤ j ∧ j ≤ i ∧ Hid (MemG F wr q x0.layers (aPs x0 x1 j)) ∧ Hid (Below W5.heap.size W5 wr)) (fun _ s _ => i - (intOf s).toNat)
            case atStart => exact ⟨k, qc, _, rfl, rfl, by omega, by omega, HMC, Lib.hid (Below.refl _ _)⟩
            case round =>
              obtain ⟨j, q2, G, rfl, rfl, hkj, hji, HMj, HBj⟩ := hrel
              by_cases hjn : j < i
              · obtain ⟨b, Aa, ca, e1, q0, hca, hCa⟩ := (HX5.out W5 (Below.refl _ _)).at_ 0 (by rw [HXL.out]; omega)
                have q1 := pw_cell_below HBj.out q0
                subst e1
                have hl0 := HSH.out 0
                have HT0 := Lib.hid (thru_at wr p x0 HOK.out (HMo5.out _ HBj.out) G q2 (aPs x0 x1 j) HMj.out (aPs_ok x0 HOK.out x1 j) (by rw [aPs_len]; omega) Aa ca (x1.getD 0 []) (Kd.C_below hCa HBj.out) hca hl0)
                obtain ⟨m0, hm0⟩ : ∃ m, (x1.getD 0 []).length = m := ⟨_, rfl⟩
                rw [hm0] at q1 HT0
                unfold ThruR at HT0
                rw [show b.add 0 = b by simp [Addr.add]] at q1
                clear hCa hca q0 hl0 hm0
                go_wp2_with fail
                refine HT0.out.mono ?_
                rintro e w2 ⟨A3, c3, q3, rfl, -, -, hb2⟩
                have HMj := Lib.hid (HMj.out.below hb2)
                have HBj := Lib.hid (below_then HBj.out HBj.out.size hb2)
                clear hb2 HT0 q1
                obtain ⟨b2, Ab, cb, e1, q0, hcb, hCb⟩ := (HX5.out W5 (Below.refl _ _)).at_ j (by rw [HXL.out]; omega)
                obtain rfl : b = b2 := by injection e1
                have q1 := pw_cell_below HBj.out q0
                have hl0 := HSH.out j
                have HT0 := Lib.hid (thru_at w2 p x0 HOK.out (HMo5.out _ HBj.out) G q2 (aPs x0 x1 j) HMj.out (aPs_ok x0 HOK.out x1 j) (by rw [aPs_len]; omega) Ab cb (x1.getD j []) (Kd.C_below hCb HBj.out) hcb hl0)
                have HYJ := Lib.hid (aYs_get x0 x1 i j hjn)
                have hyl := ty_le x0 (aPs x0 x1 j) (x1.getD j [])
                rw [show aPs x0 x1 j ++ [tp x0 (aPs x0 x1 j) (x1.getD j [])] = aPs x0 x1 (j + 1) from rfl] at HT0
                obtain ⟨Y, hY⟩ : ∃ Y, ty x0 (aPs x0 x1 j) (x1.getD j []) = Y := ⟨_, rfl⟩
                rw [hY] at HT0 HYJ hyl
                have hY4 : Y.length ≤ 4096 := Nat.le_trans hyl hl0
                obtain ⟨m1, hm1⟩ : ∃ m, (x1.getD j []).length = m := ⟨_, rfl⟩
                rw [hm1] at q1 HT0
                unfold ThruR at HT0
                clear hCb hcb q0 hl0 hm1 hyl hY e1
                go_wp2_with fail
                refine HT0.out.mono ?_
                rintro e w3 ⟨A4, c4, q4, rfl, ho, hm4, hb3⟩
                have HC4 := Lib.hid ho.rd.2
                have hc4 := ho.rd.1
                have HM4 := Lib.hid hm4
                have HBj := Lib.hid (below_then HBj.out HBj.out.size hb3)
                clear ho hm4 hb3 HT0 q1
                obtain ⟨bo, Ac, cc, e1, q0, hcc, hCc⟩ := (show Rows_ w3 Ao (aYs x0 x1 i) from Kd.C_below HCO.out HBj.out).at_ j (by rw [aYs_len]; exact hjn)
                rw [HYJ.out] at q0 hcc hCc
                subst e1
                have HSM := Lib.hid (same_any A4 Ac c4 cc Y Y w3 HC4.out hCc hc4 hcc (by omega) (by omega))
                rw [decide_eq_true (show Y = Y from rfl)] at HSM
                clear hCc
                go_wp2_with fail
                refine HSM.out.mono ?_
                rintro e w4 ⟨rfl, hd⟩
                have HM4 := Lib.hid (HM4.out.below hd.below)
                have HBj := Lib.hid (below_then HBj.out HBj.out.size hd.below)
                clear hd HSM q0
                go_wp2_with fail
                go_roundw
                case rel => exact ⟨j + 1, q4, _, rfl, by go_num, by omega, by omega, HM4, HBj⟩
                case measure => simp [intOf]; omega
              · have hji' : j = i := by omega
                subst hji'
                have HSA := Lib.hid (asame_any wr q2 q x0.layers x0.layers _ _ (aPs x0 x1 j) (aPs x0 x1 j) HMj.out.mem (HME.out.below HBj.out).mem (aPs_ok x0 HOK.out x1 j) (aPs_ok x0 HOK.out x1 j) (by have := HOK.out.2.2.1; omega) (by have := HOK.out.2.2.1; omega) (by rw [aPs_len]; omega) (by rw [aPs_len]; omega))
                rw [decide_eq_true (show x0.layers = x0.layers ∧ aPs x0 x1 j = aPs x0 x1 j from ⟨rfl, rfl⟩)] at HSA
                go_wp2_with fail
                refine HSA.out.mono ?_
                rintro e w2 ⟨rfl, hb2⟩
                have HBj := Lib.hid (below_then HBj.out HBj.out.size hb2)
                have HLC := Lib.hid (alen_any w2 qc x0.layers (aPs x0 x1 k) (HMC.out.below HBj.out).mem)
                rw [aPs_len] at HLC
                clear hb2 HSA
                go_wp2_with fail
                refine HLC.out.mono ?_
                rintro e w3 ⟨rfl, hw⟩
                replace hw := hw.symm
                subst hw
                go_wp2_with fail
                refine (alive10_any _).mono ?_
                rintro e w4 ⟨rfl, hb⟩
                have HBE := Lib.hid (below_then HS2.out.below HS2.out.below.size (below_then HB4.out HB4.out.size (below_then HBj.out HBj.out.size hb)))
                clear hb
                go_wp2_with fail
                go_ret
                exact ⟨rfl, HBE.out⟩
      · have HNB := Lib.hid (new_bad x0 hok W1)
        rw [HCV.out] at HNB
        go_wp2_with fail
        refine HNB.out.mono ?_
        unfold NewNo
        rintro e W4 ⟨rfl, hb⟩
        have HS4 := Lib.hid (HS1.out.step hb)
        clear hb z0 z1 z2 z3 z4 z5
        go_wp2_with fail
        refine (alive10_any _).mono ?_
        rintro e W5 ⟨rfl, hb⟩
        have HS5 := Lib.hid (HS4.out.step hb)
        clear hb
        go_wp2_with fail
        go_ret
        exact ⟨rfl, HS5.out.below⟩

set_option maxRecDepth 100000 in
theorem lifted (os : Os) (started : os.Started) (H : Type) (enc : TypeId × Value → H) :
    ReturnsInHanded {} Try.checked os 6 .any (Rows.attnCutsSpec.pre6 enc Try.prog Try.f6 Rows.attnCutsRow.domain false) (Rows.attnCutsSpec.post enc Try.prog Try.f6 false true false false) := by
  refine returnsInHanded_of_change (C := Try.checked) own started (by kernel_rfl) Try.func6
    (ChangeSpec.witness6 (enc := enc) (C := Try.checked) false ⟨#[], #[.agg #[.int .u64 0, .int .i64 0, .int .i64 0, .int .i64 0, .int .i64 0, .int .i64 0], .slice none 0 0, .int .i64 0], []⟩ 8 (by kernel_rfl) (by kernel_rfl) (by kernel_rfl) (by kernel_rfl)) ?_
  intro W base args ds gs before hval0 hW hcnd _
  have hval : ∀ (j : Nat) t v, Try.f6.params[j]? = some t → args[j]? = some v → Value.okWide Try.prog W .any base t v := hval0
  have hW' := hW
  obtain ⟨p, q, hA0, hV, rfl, hfz, hnd⟩ := hW
  have hA : DataW.TrodAll enc Try.prog W 0 (fun _ => true) true Try.f6.params.toList args.toList ds p := hA0
  rw [Try.params6] at hA hval
  obtain ⟨v0, vs0, d0, ds0, p0, q0, hargs, rfl, rfl, h0, r0⟩ := trodAll_cons hA
  obtain ⟨v1, vs1, d1, ds1, p1, q1, rfl, rfl, rfl, h1, r1⟩ := trodAll_cons r0
  obtain ⟨v2, vs2, d2, ds2, p2, q2, rfl, rfl, rfl, h2, r2⟩ := trodAll_cons r1
  obtain ⟨rfl, rfl, rfl⟩ := trodAll_nil r2
  obtain rfl : args = #[v0, v1, v2] := by cases args; simp_all
  obtain ⟨rfl, rfl⟩ := trodVars_none hV
  have k0 := h0
  have lt0 : ∀ x ∈ p0, x.block < W.heap.size := by obtain ⟨m, hm⟩ := k0; exact DataW.trod_lt m _ _ _ hm
  obtain ⟨cs0, rfl, _⟩ := okWide_struct Try.underlying24 (hval 0 24 v0 rfl rfl)
  obtain ⟨x0, y0, g0⟩ : ∃ x, KCfg.K W x cs0.toList ∧ (CfgW) x := by obtain ⟨m, hm⟩ := k0; exact op_cfg _ _ _ m _ _ hm
  have k1 := h1
  have lt1 : ∀ x ∈ p1, x.block < W.heap.size := by obtain ⟨m, hm⟩ := k1; exact DataW.trod_lt m _ _ _ hm
  obtain ⟨a1, len1, cap1, rfl⟩ := okWide_slice Try.underlying39 (hval 1 39 v1 rfl rfl)
  obtain ⟨x1, y1, g1⟩ : ∃ x, KTab.K W x [.slice a1 len1 cap1] ∧ (fun xss => (∀ xs ∈ xss, (∀ x ∈ xs, (Lit.int .i64 x).wf = true) ∧ xs.length ≤ maxLen) ∧ xss.length ≤ maxLen) x := by obtain ⟨m, hm⟩ := k1; exact op_tab _ _ _ m _ _ hm
  have k2 := h2
  have lt2 : ∀ x ∈ p2, x.block < W.heap.size := by obtain ⟨m, hm⟩ := k2; exact DataW.trod_lt m _ _ _ hm
  obtain ⟨a2, rfl, rfl, rfl, g2⟩ := open_int Try.underlying3 (hval 2 3 v2 rfl rfl) h2
  clear hA0 hval0
  refine (walk cs0 x0 a1 len1 cap1 x1 a2 W y0 g0 y1 g1 g2).mono fun e W' ⟨he, bel⟩ => ?_
  subst he
  exact ⟨_, rfl, _, _, _, [], _, [], hW', trodAll_mk1 (shut_bool Try.underlying4 _), (trodAll_cons_mk (Below.trod laidOut (by kernel_rfl) (of_decide_eq_true (by kernel_rfl)) k0 bel lt0) (trodAll_cons_mk (Below.trod laidOut (by kernel_rfl) (of_decide_eq_true (by kernel_rfl)) k1 bel lt1) (trodAll_cons_mk (Below.trod laidOut (by kernel_rfl) (of_decide_eq_true (by kernel_rfl)) k2 bel lt2) trodAll_mk0))), rfl, bel.frame _, fun h => by cases h⟩

theorem over : Rows.attnCutsRow.holds Try.pinned (OpenSpec.ofChange Rows.attnCutsSpec) :=
  OpenClaim.holds_of_wide 6 Try.f6 rfl rfl rfl rfl rfl rfl rfl ⟨rfl, rfl, rfl, rfl, rfl⟩ rfl rfl rfl rfl rfl (by kernel_rfl) Try.func6 (by kernel_rfl)
    (of_decide_eq_true (by kernel_rfl)) (by unfold Func.isWrapper; first | (rw [if_pos (by decide +kernel)]; kernel_rfl) | (rw [if_neg (by decide +kernel)]; exact ⟨rfl, rfl⟩))
    (fun os started H enc _ => lifted os started H enc)

theorem proved : Rows.AttnCutsSaid := over
end Go.Proofs.Ytdfgmdmcdnnhfaa.attnCuts
