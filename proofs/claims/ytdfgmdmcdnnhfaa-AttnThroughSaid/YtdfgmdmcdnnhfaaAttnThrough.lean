/- What all layers make of any vectors, one behind the other, are the document's. -/
import Derived.Test.YtdfgmdmcdnnhfaaRows
import Derived.WalkKit
import Derived.ProofKit
import Derived.OpenShut
import Derived.ShutString
import Derived.ChangeOld
import Derived.Below
import Derived.Test.YtdfgmdmcdnnhfaaOpn
import Derived.Test.YtdfgmdmcdnnhfaaAtY
import Derived.Test.YtdfgmdmcdnnhfaaOpE
namespace Go.Proofs.Ytdfgmdmcdnnhfaa.attnThrough
open Go.ChangeShapes Go.WideShapes Go.ChangeAt Go.RowKit
open Go.ChangeMaps (open_string shut_string)
set_option linter.unusedVariables false
set_option linter.unusedSimpArgs false
open Go.Proofs.YtdfgmdmcdnnhfaaW.PrintWords Go.Proofs.YtdfgmdmcdnnhfaaW.PrintLast Go.Proofs.YtdfgmdmcdnnhfaaW.PrintMore

theorem own : ownKnob Try.prog.godebug = none := by kernel_rfl
theorem laidOut : laidOutB Try.prog = true := by kernel_rfl

set_option maxRecDepth 100000
/-- The configuration's box at g. -/
def BxK (c : Cfg) (g : Nat) (w0 W : World) : Prop := W.cell? ⟨g, 0, none⟩ = some (.int .u64 c.seed) ∧ W.cell? ⟨g, 1, none⟩ = some (.int .i64 c.vocab) ∧ W.cell? ⟨g, 2, none⟩ = some (.int .i64 c.dim) ∧ W.cell? ⟨g, 3, none⟩ = some (.int .i64 c.layers) ∧ W.cell? ⟨g, 4, none⟩ = some (.int .i64 c.top) ∧ W.cell? ⟨g, 5, none⟩ = some (.int .i64 c.heat) ∧ Hid (Below w0.heap.size w0 W)
theorem BxK.step {c : Cfg} {g : Nat} {w0 W W' : World} (hS : BxK c g w0 W) (hb : Below W.heap.size W W') : BxK c g w0 W' := by
  obtain ⟨h0, h1, h2, h3, h4, h5, h6⟩ := hS
  exact ⟨pw_cell_below hb h0, pw_cell_below hb h1, pw_cell_below hb h2, pw_cell_below hb h3, pw_cell_below hb h4, pw_cell_below hb h5, Lib.hid (below_then h6.out h6.out.size hb)⟩
theorem BxK.below {c : Cfg} {g : Nat} {w0 W : World} (hS : BxK c g w0 W) : Below w0.heap.size w0 W := hS.2.2.2.2.2.2.out
theorem bdN (w : World) (n : Nat) : Below w.heap.size w (w.drewN n) := ⟨rfl, rfl, rfl, Nat.le_refl _, fun _ _ => rfl⟩
theorem infoRP : (Try.prog.info? 56).map (fun i => (i.zero, i.size, i.bytes)) = some (some (.agg #[.slice none 0 0, .slice none 0 0]), 2, 48) := by kernel_rfl
theorem tw_M {b base : Nat} {w : World} {u v : Value} {K V : List (List Int)} (h : TW b w u v K V) (hb : base ≤ b) : KPl.M w base (fun k => b ≤ k) (K, V) [u, v] :=
  ⟨[u], [v], rfl, ⟨u, rfl, Kd.R_mono (Kd.R_lower (Kd.R_bound h.hu) hb) (fun k hk => hk.2.1)⟩, ⟨v, rfl, Kd.R_mono (Kd.R_lower (Kd.R_bound h.hv) hb) (fun k hk => hk.2.1)⟩⟩
attribute [local go_sem] gb_max2 gb_min2 gb_max_two gb_min_two gb_max_three gb_min_three run_cfg1 run_cfg2 run_cfg3
set_option maxHeartbeats 2000000 in
theorem walk (cs0 : Array Value) (x0 : Cfg) (a1 : Option Addr) (len1 cap1 : Nat) (x1 : List (List Int)) (w : World) (k0 : KCfg.K w x0 cs0.toList) (gd0 : (CfgW) x0) (k1 : KTab.K w x1 [.slice a1 len1 cap1]) (gd1 : (fun xss => (∀ xs ∈ xss, (∀ x ∈ xs, (Lit.int .i64 x).wf = true) ∧ xs.length ≤ maxLen) ∧ xss.length ≤ maxLen) x1) :
    Calls Try.prog 5 #[.agg cs0, .slice a1 len1 cap1] w fun e w' => e = .returned (.bool true) ∧ Below w.heap.size w w' := by
  obtain rfl := cfg_cells k0
  obtain ⟨rfl, hcx, hx⟩ := slice_came k1
  obtain ⟨l, hl⟩ : ∃ l, x1 = l := ⟨_, rfl⟩
  subst hl
  have HCV := Lib.hid (show x0.v = .agg #[.int .u64 x0.seed, .int .i64 x0.vocab, .int .i64 x0.dim, .int .i64 x0.layers, .int .i64 x0.top, .int .i64 x0.heat] from rfl)
  have HX := Lib.hid (fun (W' : World) (hb : Below w.heap.size w W') => show Rows_ W' a1 x1 from Kd.C_below hx hb)
  obtain ⟨W0, hW0⟩ : ∃ W0, w.alloc (.cells #[.int .u64 x0.seed, .int .i64 x0.vocab, .int .i64 x0.dim, .int .i64 x0.layers, .int .i64 x0.top, .int .i64 x0.heat] 24) = W0 := ⟨_, rfl⟩
  have hS0 : BxK x0 w.heap.size w W0 := by
    have h1 := heap_alloc_new w (.cells #[.int .u64 x0.seed, .int .i64 x0.vocab, .int .i64 x0.dim, .int .i64 x0.layers, .int .i64 x0.top, .int .i64 x0.heat] 24)
    rw [hW0] at h1
    refine ⟨?_, ?_, ?_, ?_, ?_, ?_, Lib.hid ?_⟩
    all_goals first | (rw [blk_cell h1]; rfl) | (rw [← hW0]; exact below_alloc (Below.refl _ w) _)
  have HSZ := Lib.hid (show W0.heap.size = w.heap.size + 1 by rw [← hW0]; simp)
  obtain ⟨g, hg⟩ : ∃ g, w.heap.size = g := ⟨_, rfl⟩
  rw [hg] at hS0
  have HG := Lib.hid hg
  have HW0 := Lib.hid hW0
  have HFAR := Lib.hid (far10_any (W0.alloc (.cells #[.slice a1 x1.length cap1] 39)) none (some ⟨W0.heap.size, 0, none⟩) 0 0 1 [x1] (tabs1 W0 _ a1 cap1 x1 (HX.out W0 hS0.below) hcx))
  obtain ⟨n, hn⟩ : ∃ n, x1.length = n := ⟨_, rfl⟩
  have hn9 : n ≤ 9223372036854775807 := by rw [← hn]; exact hx.2.1
  have HS1 := Lib.hid (hS0.step (below_alloc (Below.refl _ W0) (.cells #[.slice a1 x1.length cap1] 39)))
  rw [hn] at hcx HFAR HS1
  rw [hn]
  have HN := Lib.hid hn
  obtain ⟨z0, z1, z2, z3, z4, z5, -⟩ := id hS0
  clear k0 k1 gd0 gd1 hx hg hW0 hn hS0
  go_enter Try.func5, Try.ntmps5
  go_wp2_with fail
  rw [HW0.out]
  rw [show w.heap.size + 1 = W0.heap.size from HSZ.out.symm]
  try rw [HG.out]
  refine HFAR.out.mono ?_
  unfold FarR
  rintro e W1 ⟨far, rfl, hfar, hd⟩
  have HS1 := Lib.hid (HS1.out.step hd.below)
  have HFR := Lib.hid hfar
  clear hd hfar z0 z1 z2 z3 z4 z5
  obtain ⟨z0, z1, z2, z3, z4, z5, -⟩ := id HS1.out
  cases far with
  | true =>
    go_wp2_with fail
    refine (alive10_any _).mono ?_
    rintro e W2 ⟨rfl, hb⟩
    have HS2 := Lib.hid (HS1.out.step hb)
    clear hb
    go_wp2_with fail
    go_ret
    exact ⟨rfl, HS2.out.below⟩
  | false =>
    by_cases h6 : 6 < n
    · go_wp2_with fail
      refine (alive10_any _).mono ?_
      rintro e W2 ⟨rfl, hb⟩
      have HS2 := Lib.hid (HS1.out.step hb)
      clear hb
      go_wp2_with fail
      go_ret
      exact ⟨rfl, HS2.out.below⟩
    · have HSH := Lib.hid (near_short ((HFR.out rfl).2 x1 (by simp)).2)
      by_cases hok : x0.ok
      · have HNW := Lib.hid (new_ok x0 hok W1)
        rw [HCV.out] at HNW
        have HOK := Lib.hid hok
        have hL := hok.2.2.1
        have hmin : min (max x0.layers 0) 4 = x0.layers := by omega
        have HMIN := Lib.hid hmin
        clear hok hL hmin
        go_wp2_with fail
        refine HNW.out.mono ?_
        unfold NewYes
        rintro e W2 ⟨p, rfl, hM, hb⟩
        have HS2 := Lib.hid (HS1.out.step hb)
        have HMo := Lib.hid (fun (W' : World) (hb : Below W2.heap.size W2 W') => hM.below hb)
        clear hM hb HNW z0 z1 z2 z3 z4 z5
        obtain ⟨z0, z1, z2, z3, z4, z5, -⟩ := id HS2.out
        go_wp2_with fail
        refine (anewG_any x0.layers W2).mono ?_
        rintro e W3 ⟨q, rfl, hm, hb⟩
        rw [HMIN.out] at hm
        have HS3 := Lib.hid (HS2.out.step hb)
        have HM3 := Lib.hid (show MemG (Bt W2.heap.size W3.heap.size) W3 q x0.layers (aPs x0 x1 0) from hm)
        have HB3 := Lib.hid hb
        have HX2 := Lib.hid (fun (W' : World) (hb : Below W2.heap.size W2 W') => HX.out W' (below_then HS2.out.below HS2.out.below.size hb))
        clear hm hb z0 z1 z2 z3 z4 z5
        go_wp2_with fail
        go_loopw [7, 8, 37] (fun m v s wr => ∃ (i q : Nat) (v' : Value) (F : Nat → Prop), v' = v ∧ m = .pointer (some ⟨q, 0, none⟩) ∧ s = .int .i64 i ∧ i ≤ n ∧ Hid (MemG F wr q x0.layers (aPs x0 x1 i)) ∧ Hid (KPl.R 56 wr W2.heap.size (fun _ => True) v (aPs x0 x1 i)) ∧ Hid (∀ k, v.ownBlock = some k → ¬ F k) ∧ Hid (Below W2.heap.size W2 wr)) (fun _ _ s _ => n - (intOf s).toNat)
        case atStart => exact ⟨0, q, _, _, rfl, rfl, rfl, by omega, HM3, Lib.hid (Kd.R_nil _ _ _ _ _), Lib.hid (fun k hk => by simp [Value.ownBlock] at hk), HB3⟩
        case round =>
          obtain ⟨i, q, v, F, rfl, rfl, rfl, hi, HMi, HRi, HVi, HBi⟩ := hrel
          by_cases hin : i < n
          · obtain ⟨b, A', c', e1, q0, hc', hC'⟩ := (HX2.out W2 (Below.refl _ _)).at_ i (by rw [HN.out]; exact hin)
            have q1 := pw_cell_below HBi.out q0
            subst e1
            have hl1 := HSH.out i
            have HTH := Lib.hid (thru_at wr p x0 HOK.out (HMo.out _ HBi.out) F q (aPs x0 x1 i) HMi.out (aPs_ok x0 HOK.out x1 i) (by rw [aPs_len]; omega) A' c' (x1.getD i []) (Kd.C_below hC' HBi.out) hc' hl1)
            have hyl := ty_le x0 (aPs x0 x1 i) (x1.getD i [])
            obtain ⟨PA, pc, hv, hpc, hPC⟩ := Kd.R_reads HRi.out
            rw [aPs_len] at hv
            subst hv
            have HRT := Lib.hid (fun (W' : World) (hb : Below wr.heap.size wr W') => rthru_any W' x0 HOK.out (aPs x0 x1 i) PA pc (Kd.C_below hPC hb) hpc (aPs_ok x0 HOK.out x1 i) (by rw [aPs_len]; omega) A' c' (x1.getD i []) (Kd.C_below hC' (below_then HBi.out HBi.out.size hb)) hc' hl1)
            rw [HCV.out, aPs_len] at HRT
            have HTP := Lib.hid (show aPs x0 x1 i ++ [(aThru x0 (aPs x0 x1 i) (x1.getD i []) x0.layers.toNat).2] = aPs x0 x1 (i + 1) from rfl)
            rw [show aPs x0 x1 i ++ [tp x0 (aPs x0 x1 i) (x1.getD i [])] = aPs x0 x1 (i + 1) from rfl] at HTH
            obtain ⟨T, hT⟩ : ∃ T, aThru x0 (aPs x0 x1 i) (x1.getD i []) x0.layers.toNat = T := ⟨_, rfl⟩
            unfold ty at HTH hyl
            rw [hT] at HTH HRT HTP hyl
            obtain ⟨Y, KK, VV⟩ := T
            dsimp only at HTH HRT HTP hyl
            have hY4 : Y.length ≤ 4096 := Nat.le_trans hyl hl1
            have HYL := Lib.hid (aPs_len x0 x1 i)
            have HYL1 := Lib.hid (aPs_len x0 x1 (i + 1))
            obtain ⟨m, hm⟩ : ∃ m, (x1.getD i []).length = m := ⟨_, rfl⟩
            rw [hm] at q1 HTH HRT
            unfold ThruR at HTH
            unfold RThruR at HRT
            clear hC' hc' q0 hl1 hT hm hyl hPC hpc
            go_wp2_with fail
            refine HTH.out.mono ?_
            rintro e w2 ⟨A3, c3, q2, rfl, ho2, hm2, hb2⟩
            have HM2 := Lib.hid hm2
            have HC2 := Lib.hid ho2.rd.2
            have hc3 := ho2.rd.1
            have HRT2 := Lib.hid (HRT.out w2 hb2)
            have HO2 := Lib.hid (Kd.R_below HRi.out hb2)
            have HB2 := Lib.hid (below_then HBi.out HBi.out.size hb2)
            have HLT := Lib.hid (fun k (hk : (Value.slice PA i pc).ownBlock = some k) => by
              obtain ⟨inner, ho⟩ := Kd.R_own HRi.out
              exact own_lt ho k hk)
            have HNV := Lib.hid (fun k (hk : (Value.slice PA i pc).ownBlock = some k) (hf : FU F (Bt wr.heap.size w2.heap.size) k) => by
              rcases hf with hf | hf
              · exact HVi.out k hk hf
              · have h1 := HLT.out k hk; have h2 := hf.1; omega)
            have HM0 := Lib.hid (HMi.out.mem.below hb2)
            have HLT2 := Lib.hid (fun k (hk : (Value.slice PA i pc).ownBlock = some k) => Nat.lt_of_lt_of_le (HLT.out k hk) hb2.size)
            obtain ⟨z0, z1, z2, z3, z4, z5, -⟩ := id (HS2.out.step HB2.out)
            clear ho2 hb2 hm2 q1 HTH HRT
            go_wp2_with fail
            refine HRT2.out.mono ?_
            rintro e w3 ⟨A4, c4, u4, v4, rfl, hc4, hC4, htw, hb3⟩
            obtain ⟨Au, cu, hu4, -, -⟩ := Kd.R_reads htw.hu
            obtain ⟨Av, cv, hv4, -, -⟩ := Kd.R_reads htw.hv
            have hba := below_alloc hb3 (.cells #[u4, v4] 56)
            have HM2 := Lib.hid (HM2.out.below hba)
            have HC2 := Lib.hid (Kd.C_below HC2.out hba)
            have HC4 := Lib.hid (Kd.C_below hC4 (below_alloc (Below.refl _ w3) (.cells #[u4, v4] 56)))
            have HTW := Lib.hid (htw.below (below_alloc (Below.refl _ w3) (.cells #[u4, v4] 56)))
            have HM0 := Lib.hid (HM0.out.below hba)
            have HO2 := Lib.hid (Kd.R_below HO2.out hba)
            have HBX := Lib.hid (below_then HB2.out HB2.out.size hba)
            have HBK := Lib.hid (heap_alloc_new w3 (.cells #[u4, v4] 56))
            obtain ⟨wa, hwa⟩ : ∃ wa, w3.alloc (.cells #[u4, v4] 56) = wa := ⟨_, rfl⟩
            obtain ⟨g4, hg4⟩ : ∃ g, w3.heap.size = g := ⟨_, rfl⟩
            have HSM := Lib.hid (same_any A3 A4 c3 c4 Y Y wa (by rw [← hwa]; exact HC2.out) (by rw [← hwa]; exact HC4.out) hc3 hc4 (by omega) (by omega))
            rw [decide_eq_true (show Y = Y from rfl)] at HSM
            have HWA := Lib.hid (And.intro hwa hg4)
            rw [hwa] at HM2 HTW HM0 HO2 HBX HBK
            rw [hg4] at HBK
            have HBW := Lib.hid (show w2.heap.size ≤ wa.heap.size by rw [← hwa]; exact hba.size)
            obtain ⟨nk, hnk⟩ : ∃ m, KK.length = m := ⟨_, rfl⟩
            obtain ⟨nv, hnv⟩ : ∃ m, VV.length = m := ⟨_, rfl⟩
            rw [hnk] at hu4
            rw [hnv] at hv4
            have HU4 := Lib.hid (And.intro hnk hnv)
            subst hu4 hv4
            clear hnk hnv
            clear hba hb3 hc4 hC4 htw hwa hg4 z0 z1 z2 z3 z4 z5 HC2 HC4
            go_wp2_with fail
            rw [HWA.out.1, HWA.out.2]
            refine HSM.out.mono ?_
            rintro e w5 ⟨rfl, hd⟩
            have HM2 := Lib.hid (HM2.out.below hd.below)
            have HM0 := Lib.hid (HM0.out.below hd.below)
            have HO2 := Lib.hid (Kd.R_below HO2.out hd.below)
            have HTW := Lib.hid (HTW.out.below hd.below)
            have HB5 := Lib.hid (below_then HBX.out HBX.out.size hd.below)
            have HBK := Lib.hid (blk_below HBK.out hd.below)
            have HBW := Lib.hid (Nat.le_trans HBW.out hd.below.size)
            have HLA := Lib.hid (alen_any w5 q2 x0.layers (aPs x0 x1 (i + 1)) HM2.out.mem)
            have HLB := Lib.hid (alen_any w5 q x0.layers (aPs x0 x1 i) HM0.out)
            rw [HYL1.out] at HLA
            rw [HYL.out] at HLB
            have e1 : ((i + 1 : Nat) : Int) = (i : Int) + 1 := by omega
            rw [e1] at HLA
            have e2 : (((i : Int) + 1) != (i : Int) + 1) = false := by simp
            have e3 : ((i : Int) != (i : Int)) = false := by simp
            clear hd HSM e1
            go_wp2_with fail
            refine HLA.out.mono ?_
            rintro e w6 ⟨rfl, hw⟩
            replace hw := hw.symm
            subst hw
            go_wp2_with fail
            refine HLB.out.mono ?_
            rintro e w6 ⟨rfl, hw⟩
            replace hw := hw.symm
            subst hw
            have s0 := blk_cell HBK.out 0
            have s1 := blk_cell HBK.out 1
            have HM9 := Lib.hid (tw_M HTW.out HB2.out.size)
            go_wp2_with (at_builtin; refine Kd.R_append KPl (w0 := W2) (W := w5) W2.heap.size rfl _ _ 52 56 (.agg #[.slice none 0 0, .slice none 0 0]) 48 rfl Try.underlying52 infoRP (by rfl) (by decide) (by decide) (.slice PA i pc) (aPs x0 x1 i) (KK, VV) [.slice Au nk cu, .slice Av nv cv] (fun _ => True) (fun k => w2.heap.size ≤ k) (by rfl) (by rfl) HM9.out (fun k hk => ⟨trivial, fun he => by have := HLT2.out k he.symm; omega⟩) (fun _ _ => trivial) HO2.out HB5.out HB5.out.size (by rw [HYL.out]; omega) ?_; intro v5 w6 hr5 hb5 hg5 hat5; rw [HTP.out] at hr5; have HR5 := Lib.hid hr5; have HB6 := Lib.hid hb5; have HM6 := Lib.hid (HM2.out.grown hg5 (fun k hf he => HNV.out k he.symm hf)); have HV5 := Lib.hid (show ∀ k, v5.ownBlock = some k → ¬ FU F (Bt wr.heap.size w2.heap.size) k from fun k hk hf => by
              rcases hat5 with h | ⟨b, h, hle⟩
              · exact HNV.out k (h ▸ hk) hf
              · rw [h] at hk; injection hk with hk; have := HM2.out.2 k hf; omega); clear hr5 hb5 hg5 hat5)
            go_roundw
            case rel => exact ⟨i + 1, q2, _, _, rfl, rfl, by go_num, by omega, HM6, HR5, HV5, HB6⟩
            case measure => simp [intOf]; omega
          · go_wp2_with fail
            refine (alive10_any _).mono ?_
            rintro e w5 ⟨rfl, hb⟩
            have HBE := Lib.hid (below_then HS2.out.below HS2.out.below.size (below_then HBi.out HBi.out.size hb))
            clear hb
            go_wp2_with fail
            go_ret
            exact ⟨rfl, HBE.out⟩
      · have HNB := Lib.hid (new_bad x0 hok W1)
        rw [HCV.out] at HNB
        go_wp2_with fail
        refine HNB.out.mono ?_
        unfold NewNo
        rintro e W4 ⟨rfl, hb⟩
        have HS4 := Lib.hid (HS1.out.step hb)
        clear hb z0 z1 z2 z3 z4 z5
        go_wp2_with fail
        refine (alive10_any _).mono ?_
        rintro e W5 ⟨rfl, hb⟩
        have HS5 := Lib.hid (HS4.out.step hb)
        clear hb
        go_wp2_with fail
        go_ret
        exact ⟨rfl, HS5.out.below⟩

set_option maxRecDepth 100000 in
theorem lifted (os : Os) (started : os.Started) (H : Type) (enc : TypeId × Value → H) :
    ReturnsInHanded {} Try.checked os 5 .any (Rows.attnThroughSpec.pre6 enc Try.prog Try.f5 Rows.attnThroughRow.domain false) (Rows.attnThroughSpec.post enc Try.prog Try.f5 false true false false) := by
  refine returnsInHanded_of_change (C := Try.checked) own started (by kernel_rfl) Try.func5
    (ChangeSpec.witness6 (enc := enc) (C := Try.checked) false ⟨#[], #[.agg #[.int .u64 0, .int .i64 0, .int .i64 0, .int .i64 0, .int .i64 0, .int .i64 0], .slice none 0 0], []⟩ 8 (by kernel_rfl) (by kernel_rfl) (by kernel_rfl) (by kernel_rfl)) ?_
  intro W base args ds gs before hval0 hW hcnd _
  have hval : ∀ (j : Nat) t v, Try.f5.params[j]? = some t → args[j]? = some v → Value.okWide Try.prog W .any base t v := hval0
  have hW' := hW
  obtain ⟨p, q, hA0, hV, rfl, hfz, hnd⟩ := hW
  have hA : DataW.TrodAll enc Try.prog W 0 (fun _ => true) true Try.f5.params.toList args.toList ds p := hA0
  rw [Try.params5] at hA hval
  obtain ⟨v0, vs0, d0, ds0, p0, q0, hargs, rfl, rfl, h0, r0⟩ := trodAll_cons hA
  obtain ⟨v1, vs1, d1, ds1, p1, q1, rfl, rfl, rfl, h1, r1⟩ := trodAll_cons r0
  obtain ⟨rfl, rfl, rfl⟩ := trodAll_nil r1
  obtain rfl : args = #[v0, v1] := by cases args; simp_all
  obtain ⟨rfl, rfl⟩ := trodVars_none hV
  have k0 := h0
  have lt0 : ∀ x ∈ p0, x.block < W.heap.size := by obtain ⟨m, hm⟩ := k0; exact DataW.trod_lt m _ _ _ hm
  obtain ⟨cs0, rfl, _⟩ := okWide_struct Try.underlying24 (hval 0 24 v0 rfl rfl)
  obtain ⟨x0, y0, g0⟩ : ∃ x, KCfg.K W x cs0.toList ∧ (CfgW) x := by obtain ⟨m, hm⟩ := k0; exact op_cfg _ _ _ m _ _ hm
  have k1 := h1
  have lt1 : ∀ x ∈ p1, x.block < W.heap.size := by obtain ⟨m, hm⟩ := k1; exact DataW.trod_lt m _ _ _ hm
  obtain ⟨a1, len1, cap1, rfl⟩ := okWide_slice Try.underlying39 (hval 1 39 v1 rfl rfl)
  obtain ⟨x1, y1, g1⟩ : ∃ x, KTab.K W x [.slice a1 len1 cap1] ∧ (fun xss => (∀ xs ∈ xss, (∀ x ∈ xs, (Lit.int .i64 x).wf = true) ∧ xs.length ≤ maxLen) ∧ xss.length ≤ maxLen) x := by obtain ⟨m, hm⟩ := k1; exact op_tab _ _ _ m _ _ hm
  clear hA0 hval0
  refine (walk cs0 x0 a1 len1 cap1 x1 W y0 g0 y1 g1).mono fun e W' ⟨he, bel⟩ => ?_
  subst he
  exact ⟨_, rfl, _, _, _, [], _, [], hW', trodAll_mk1 (shut_bool Try.underlying4 _), (trodAll_cons_mk (Below.trod laidOut (by kernel_rfl) (of_decide_eq_true (by kernel_rfl)) k0 bel lt0) (trodAll_cons_mk (Below.trod laidOut (by kernel_rfl) (of_decide_eq_true (by kernel_rfl)) k1 bel lt1) trodAll_mk0)), rfl, bel.frame _, fun h => by cases h⟩

theorem over : Rows.attnThroughRow.holds Try.pinned (OpenSpec.ofChange Rows.attnThroughSpec) :=
  OpenClaim.holds_of_wide 5 Try.f5 rfl rfl rfl rfl rfl rfl rfl ⟨rfl, rfl, rfl, rfl, rfl⟩ rfl rfl rfl rfl rfl (by kernel_rfl) Try.func5 (by kernel_rfl)
    (of_decide_eq_true (by kernel_rfl)) (by unfold Func.isWrapper; first | (rw [if_pos (by decide +kernel)]; kernel_rfl) | (rw [if_neg (by decide +kernel)]; exact ⟨rfl, rfl⟩))
    (fun os started H enc _ => lifted os started H enc)

theorem proved : Rows.AttnThroughSaid := over
end Go.Proofs.Ytdfgmdmcdnnhfaa.attnThrough
