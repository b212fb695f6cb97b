/- What follows is what the document says. -/
import Derived.Test.YtdfgmdmcdnnhfaaGreatRows
import Derived.WalkKit
import Derived.ProofKit
import Derived.OpenShut
import Derived.ShutString
import Derived.ChangeOld
import Derived.Below
import Derived.Test.YtdfgmdmcdnnhfaaGreatOpn
import Derived.Test.YtdfgmdmcdnnhfaaGreatDzE
namespace Go.Proofs.YtdfgmdmcdnnhfaaGreat.decodeRefs
open Go.ChangeShapes Go.WideShapes Go.ChangeAt Go.RowKit
open Go.ChangeMaps (open_string shut_string)
set_option linter.unusedVariables false
set_option linter.unusedSimpArgs false
open Go.Proofs.YtdfgmdmcdnnhfaaGreatW.PrintWords Go.Proofs.YtdfgmdmcdnnhfaaGreatW.PrintLast Go.Proofs.YtdfgmdmcdnnhfaaGreatW.PrintMore

theorem own : ownKnob Tryz.prog.godebug = none := by kernel_rfl
theorem laidOut : laidOutB Tryz.prog = true := by kernel_rfl

set_option maxRecDepth 100000
attribute [local go_sem] gb_max2 gb_min2 gb_max_two gb_min_two gb_max_three gb_min_three run_cfg1 run_cfg2 run_cfg3
set_option maxHeartbeats 2000000 in
theorem walk (cs0 : Array Value) (x0 : Cfg) (cs1 : Array Value) (x1 : JobV) (w : World) (k0 : KCfg.K w x0 cs0.toList) (gd0 : (CfgW) x0) (k1 : KJob.K w x1 cs1.toList) (gd1 : (JobG) x1) :
    Calls Tryz.prog 3 #[.agg cs0, .agg cs1] w fun e w' => e = .returned (.bool true) ∧ Below w.heap.size w w' := by
  obtain rfl := cfg_cells k0
  obtain ⟨A, ca, rfl, hca, hx⟩ := job_cells k1
  obtain ⟨sd, xs, most⟩ := x1
  dsimp only at hca hx ⊢
  have HCV := Lib.hid (show x0.v = .agg #[.int .u64 x0.seed, .int .i64 x0.vocab, .int .i64 x0.dim, .int .i64 x0.layers, .int .i64 x0.top, .int .i64 x0.heat] from rfl)
  have HX := Lib.hid (fun (W' : World) (hb : Below w.heap.size w W') => Kd.C_below hx hb)
  obtain ⟨n, hn⟩ : ∃ n, xs.length = n := ⟨_, rfl⟩
  rw [hn] at hca ⊢
  have HN := Lib.hid hn
  obtain ⟨W0, hW0⟩ : ∃ W0, (w.alloc (.cells #[.int .u64 x0.seed, .int .i64 x0.vocab, .int .i64 x0.dim, .int .i64 x0.layers, .int .i64 x0.top, .int .i64 x0.heat] 24)).alloc (.cells #[.int .u64 sd, .slice A n ca, .int .i64 most] 27) = W0 := ⟨_, rfl⟩
  have hS := BCJ.new x0 sd (.slice A n ca) most w
  rw [hW0] at hS
  obtain ⟨g, hg⟩ : ∃ g, w.heap.size = g := ⟨_, rfl⟩
  obtain ⟨j, hj⟩ : ∃ j, g + 1 = j := ⟨_, rfl⟩
  rw [hg, hj] at hS
  have HS := Lib.hid hS
  have HW := Lib.hid hW0
  have HG := Lib.hid hg
  have HJ := Lib.hid hj
  clear k0 k1 gd0 gd1 hx hn hW0 hg hj hS
  obtain ⟨z0, z1, z2, z3, z4, z5, y0, y1, y2, -⟩ := id HS.out
  by_cases hok : x0.ok
  · have HNW := Lib.hid (new_ok x0 hok W0)
    rw [HCV.out] at HNW
    have HOK := Lib.hid hok
    clear hok
    go_enter Tryz.func3, Tryz.ntmps3
    go_wp2_with fail
    try rw [HG.out]
    try rw [HJ.out]
    rw [HW.out]
    refine HNW.out.mono ?_
    unfold NewYes
    rintro e W1 ⟨p, rfl, hM, hb⟩
    have HMo := Lib.hid (fun (W' : World) (hb : Below W1.heap.size W1 W') => hM.below hb)
    have HS1 := Lib.hid (HS.out.step hb)
    clear hM hb HNW z0 z1 z2 z3 z4 z5 y0 y1 y2
    obtain ⟨z0, z1, z2, z3, z4, z5, y0, y1, y2, -⟩ := id HS1.out
    go_wp2_with fail
    refine (far12_any W1 sd most A n ca).mono ?_
    obtain ⟨fb, hfb⟩ : ∃ b, decide (FarJ n most) = b := ⟨_, rfl⟩
    rw [hfb]
    rintro e W2 ⟨rfl, hb⟩
    have HS2 := Lib.hid (HS1.out.step hb)
    have HB2 := Lib.hid hb
    clear hb hfb z0 z1 z2 z3 z4 z5 y0 y1 y2
    obtain ⟨z0, z1, z2, z3, z4, z5, y0, y1, y2, -⟩ := id HS2.out
    cases fb with
    | true =>
      go_wp2_with fail
      refine (dref_none _ sd most A n ca).mono ?_
      rintro e W3 ⟨rfl, hb⟩
      have HS3 := Lib.hid (HS2.out.step hb)
      clear hb
      go_wp2_with fail
      refine (alive12_any _).mono ?_
      rintro e W4 ⟨rfl, hb⟩
      have HBE := Lib.hid (below_then HS3.out.b HS3.out.b.size hb)
      clear hb
      go_wp2_with fail
      go_ret
      exact ⟨rfl, HBE.out⟩
    | false =>
      have HRM := Lib.hid (fun (W : World) (hx : (Kd.int .i64).C W A xs.length xs) => rmay_any x0 sd most A ca xs W hx)
      have HDM := Lib.hid (fun (W : World) (hx : (Kd.int .i64).C W A xs.length xs) => dmay_any x0 sd most A ca xs W hx)
      rw [HCV.out, HN.out] at HRM HDM
      by_cases hjk : Jok x0 xs most
      · have HJK := Lib.hid hjk
        rw [decide_eq_true hjk] at HRM HDM
        clear hjk
        have HR1 := Lib.hid (dref_yes W2 p x0 HOK.out (HMo.out W2 HB2.out) sd most A ca xs (HX.out W2 HS2.out.b) HJK.out)
        have HR2 := Lib.hid (fun (W : World) (hx : (Kd.int .i64).C W A xs.length xs) => rref_any x0 HOK.out sd most A ca xs W hx HJK.out)
        have hl5 : (dRef x0 sd xs most).length ≤ 256 := by have h := dOut_le x0 sd most.toNat (0 :: xs); have h1 := HJK.out.1; have h2 := HJK.out.2.1; unfold dRef; omega
        obtain ⟨o1, ho1⟩ : ∃ o, dRef x0 sd xs most = o := ⟨_, rfl⟩
        rw [ho1] at HR1 HR2 hl5
        obtain ⟨k1, hk1⟩ : ∃ n, o1.length = n := ⟨_, rfl⟩
        unfold RefY at HR1
        unfold RRefR at HR2
        rw [hk1] at HR1 HR2 hl5
        rw [HN.out] at HR1
        rw [HCV.out, HN.out] at HR2
        have HK1 := Lib.hid hk1
        clear ho1 hk1
        go_wp2_with fail
        refine HR1.out.mono ?_
        rintro e W3 ⟨A1, c1, rfl, hO1, hb⟩
        have HO1 := Lib.hid hO1
        have HS3 := Lib.hid (HS2.out.step hb)
        clear hO1 hb z0 z1 z2 z3 z4 z5 y0 y1 y2
        obtain ⟨z0, z1, z2, z3, z4, z5, y0, y1, y2, -⟩ := id HS3.out
        go_wp2_with fail
        refine (HRM.out W3 (by have h := HX.out W3 HS3.out.b; rw [HN.out] at h; exact h)).mono ?_
        rintro e W4 ⟨rfl, hb⟩
        have HO4 := Lib.hid (HO1.out.below hb)
        have HS4 := Lib.hid (HS3.out.step hb)
        clear hb z0 z1 z2 z3 z4 z5 y0 y1 y2
        obtain ⟨z0, z1, z2, z3, z4, z5, y0, y1, y2, -⟩ := id HS4.out
        go_wp2_with fail
        refine (HDM.out W4 (by have h := HX.out W4 HS4.out.b; rw [HN.out] at h; exact h)).mono ?_
        rintro e W5 ⟨rfl, hb⟩
        have HO5 := Lib.hid (HO4.out.below hb)
        have HS5 := Lib.hid (HS4.out.step hb)
        clear hb z0 z1 z2 z3 z4 z5 y0 y1 y2
        obtain ⟨z0, z1, z2, z3, z4, z5, y0, y1, y2, -⟩ := id HS5.out
        go_wp2_with fail
        refine (HR2.out W5 (by have h := HX.out W5 HS5.out.b; rw [HN.out] at h; exact h)).mono ?_
        rintro e W6 ⟨A6, c6, rfl, hc6, hC6, hb⟩
        have HO6 := Lib.hid (HO5.out.below hb)
        have HS6 := Lib.hid (HS5.out.step hb)
        have HC6 := Lib.hid hC6
        clear hb hC6 z0 z1 z2 z3 z4 z5 y0 y1 y2
        obtain ⟨A7, c7, hv7, hc7, hC7⟩ := Own.reads_n HO6.out HK1.out
        injection hv7 with h1 h2 h3
        subst h1 h3
        have HSA := Lib.hid (isame_any A1 A6 c1 c6 o1 o1 W6 hC7 (by rw [HK1.out]; exact HC6.out) (by rw [HK1.out]; exact hc7) (by rw [HK1.out]; exact hc6) (by rw [HK1.out]; omega) (by rw [HK1.out]; omega))
        rw [HK1.out, decide_eq_true rfl] at HSA
        clear hC7
        go_wp2_with fail
        refine HSA.out.mono ?_
        rintro e W8 ⟨rfl, hd8⟩
        have HS8 := Lib.hid (HS6.out.step hd8.below)
        clear hd8
        go_wp2_with fail
        refine (alive12_any _).mono ?_
        rintro e W9 ⟨rfl, hb⟩
        have HBE := Lib.hid (below_then HS8.out.b HS8.out.b.size hb)
        clear hb
        go_wp2_with fail
        go_ret
        exact ⟨rfl, HBE.out⟩
      · have HJK := Lib.hid hjk
        rw [decide_eq_false hjk] at HRM HDM
        clear hjk
        have HR1 := Lib.hid (dref_no W2 p x0 HOK.out (HMo.out W2 HB2.out) sd most A ca xs (HX.out W2 HS2.out.b) HJK.out)
        unfold RefN at HR1
        rw [HN.out] at HR1
        go_wp2_with fail
        refine HR1.out.mono ?_
        rintro e W3 ⟨rfl, hb⟩
        have HS3 := Lib.hid (HS2.out.step hb)
        clear hb z0 z1 z2 z3 z4 z5 y0 y1 y2
        obtain ⟨z0, z1, z2, z3, z4, z5, y0, y1, y2, -⟩ := id HS3.out
        go_wp2_with fail
        refine (HRM.out W3 (by have h := HX.out W3 HS3.out.b; rw [HN.out] at h; exact h)).mono ?_
        rintro e W4 ⟨rfl, hb⟩
        have HS4 := Lib.hid (HS3.out.step hb)
        clear hb z0 z1 z2 z3 z4 z5 y0 y1 y2
        obtain ⟨z0, z1, z2, z3, z4, z5, y0, y1, y2, -⟩ := id HS4.out
        go_wp2_with fail
        refine (HDM.out W4 (by have h := HX.out W4 HS4.out.b; rw [HN.out] at h; exact h)).mono ?_
        rintro e W5 ⟨rfl, hb⟩
        have HS5 := Lib.hid (HS4.out.step hb)
        clear hb z0 z1 z2 z3 z4 z5 y0 y1 y2
        go_wp2_with fail
        refine (alive12_any _).mono ?_
        rintro e W6 ⟨rfl, hb⟩
        have HBE := Lib.hid (below_then HS5.out.b HS5.out.b.size hb)
        clear hb
        go_wp2_with fail
        go_ret
        exact ⟨rfl, HBE.out⟩
  · have HNB := Lib.hid (new_bad x0 hok W0)
    rw [HCV.out] at HNB
    clear hok
    go_enter Tryz.func3, Tryz.ntmps3
    go_wp2_with fail
    try rw [HG.out]
    try rw [HJ.out]
    rw [HW.out]
    refine HNB.out.mono ?_
    unfold NewNo
    rintro e W1 ⟨rfl, hb⟩
    have HS1 := Lib.hid (HS.out.step hb)
    clear hb z0 z1 z2 z3 z4 z5 y0 y1 y2
    obtain ⟨z0, z1, z2, z3, z4, z5, y0, y1, y2, -⟩ := id HS1.out
    go_wp2_with fail
    refine (dref_none _ sd most A n ca).mono ?_
    rintro e W3 ⟨rfl, hb⟩
    have HS3 := Lib.hid (HS1.out.step hb)
    clear hb
    go_wp2_with fail
    refine (alive12_any _).mono ?_
    rintro e W4 ⟨rfl, hb⟩
    have HBE := Lib.hid (below_then HS3.out.b HS3.out.b.size hb)
    clear hb
    go_wp2_with fail
    go_ret
    exact ⟨rfl, HBE.out⟩

set_option maxRecDepth 100000 in
theorem lifted (os : Os) (started : os.Started) (H : Type) (enc : TypeId × Value → H) :
    ReturnsInHanded {} Tryz.checked os 3 .any (Rows.decodeRefsSpec.pre6 enc Tryz.prog Tryz.f3 Rows.decodeRefsRow.domain false) (Rows.decodeRefsSpec.post enc Tryz.prog Tryz.f3 false true false false) := by
  refine returnsInHanded_of_change (C := Tryz.checked) own started (by kernel_rfl) Tryz.func3
    (ChangeSpec.witness6 (enc := enc) (C := Tryz.checked) false ⟨#[], #[.agg #[.int .u64 0, .int .i64 0, .int .i64 0, .int .i64 0, .int .i64 0, .int .i64 0], .agg #[.int .u64 0, .slice none 0 0, .int .i64 0]], []⟩ 8 (by kernel_rfl) (by kernel_rfl) (by kernel_rfl) (by kernel_rfl)) ?_
  intro W base args ds gs before hval0 hW hcnd _
  have hval : ∀ (j : Nat) t v, Tryz.f3.params[j]? = some t → args[j]? = some v → Value.okWide Tryz.prog W .any base t v := hval0
  have hW' := hW
  obtain ⟨p, q, hA0, hV, rfl, hfz, hnd⟩ := hW
  have hA : DataW.TrodAll enc Tryz.prog W 0 (fun _ => true) true Tryz.f3.params.toList args.toList ds p := hA0
  rw [Tryz.params3] at hA hval
  obtain ⟨v0, vs0, d0, ds0, p0, q0, hargs, rfl, rfl, h0, r0⟩ := trodAll_cons hA
  obtain ⟨v1, vs1, d1, ds1, p1, q1, rfl, rfl, rfl, h1, r1⟩ := trodAll_cons r0
  obtain ⟨rfl, rfl, rfl⟩ := trodAll_nil r1
  obtain rfl : args = #[v0, v1] := by cases args; simp_all
  obtain ⟨rfl, rfl⟩ := trodVars_none hV
  have k0 := h0
  have lt0 : ∀ x ∈ p0, x.block < W.heap.size := by obtain ⟨m, hm⟩ := k0; exact DataW.trod_lt m _ _ _ hm
  obtain ⟨cs0, rfl, _⟩ := okWide_struct Tryz.underlying24 (hval 0 24 v0 rfl rfl)
  obtain ⟨x0, y0, g0⟩ : ∃ x, KCfg.K W x cs0.toList ∧ (CfgW) x := by obtain ⟨m, hm⟩ := k0; exact op_cfg _ _ _ m _ _ hm
  have k1 := h1
  have lt1 : ∀ x ∈ p1, x.block < W.heap.size := by obtain ⟨m, hm⟩ := k1; exact DataW.trod_lt m _ _ _ hm
  obtain ⟨cs1, rfl, _⟩ := okWide_struct Tryz.underlying27 (hval 1 27 v1 rfl rfl)
  obtain ⟨x1, y1, g1⟩ : ∃ x, KJob.K W x cs1.toList ∧ (JobG) x := by obtain ⟨m, hm⟩ := k1; exact op_job _ _ _ m _ _ hm
  clear hA0 hval0
  refine (walk cs0 x0 cs1 x1 W y0 g0 y1 g1).mono fun e W' ⟨he, bel⟩ => ?_
  subst he
  exact ⟨_, rfl, _, _, _, [], _, [], hW', trodAll_mk1 (shut_bool Tryz.underlying4 _), (trodAll_cons_mk (Below.trod laidOut (by kernel_rfl) (of_decide_eq_true (by kernel_rfl)) k0 bel lt0) (trodAll_cons_mk (Below.trod laidOut (by kernel_rfl) (of_decide_eq_true (by kernel_rfl)) k1 bel lt1) trodAll_mk0)), rfl, bel.frame _, fun h => by cases h⟩

theorem over : Rows.decodeRefsRow.holds Tryz.pinned (OpenSpec.ofChange Rows.decodeRefsSpec) :=
  OpenClaim.holds_of_wide 3 Tryz.f3 rfl rfl rfl rfl rfl rfl rfl ⟨rfl, rfl, rfl, rfl, rfl⟩ rfl rfl rfl rfl rfl (by kernel_rfl) Tryz.func3 (by kernel_rfl)
    (of_decide_eq_true (by kernel_rfl)) (by unfold Func.isWrapper; first | (rw [if_pos (by decide +kernel)]; kernel_rfl) | (rw [if_neg (by decide +kernel)]; exact ⟨rfl, rfl⟩))
    (fun os started H enc _ => lifted os started H enc)

theorem proved : Rows.DecodeRefsSaid := over
end Go.Proofs.YtdfgmdmcdnnhfaaGreat.decodeRefs
