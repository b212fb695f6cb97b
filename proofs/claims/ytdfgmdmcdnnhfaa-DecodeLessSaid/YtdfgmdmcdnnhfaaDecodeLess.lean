/- With a lesser Most less follows, and that is its beginning. -/
import Derived.Test.YtdfgmdmcdnnhfaaRows
import Derived.WalkKit
import Derived.ProofKit
import Derived.OpenShut
import Derived.ShutString
import Derived.ChangeOld
import Derived.Below
import Derived.Test.YtdfgmdmcdnnhfaaOpn
import Derived.Test.YtdfgmdmcdnnhfaaDcJ
namespace Go.Proofs.Ytdfgmdmcdnnhfaa.decodeLess
open Go.ChangeShapes Go.WideShapes Go.ChangeAt Go.RowKit
open Go.ChangeMaps (open_string shut_string)
set_option linter.unusedVariables false
set_option linter.unusedSimpArgs false
open Go.Proofs.YtdfgmdmcdnnhfaaW.PrintWords Go.Proofs.YtdfgmdmcdnnhfaaW.PrintLast Go.Proofs.YtdfgmdmcdnnhfaaW.PrintMore

theorem own : ownKnob Try.prog.godebug = none := by kernel_rfl
theorem laidOut : laidOutB Try.prog = true := by kernel_rfl

set_option maxRecDepth 100000
attribute [local go_sem] gb_max2 gb_min2 gb_max_two gb_min_two gb_max_three gb_min_three run_cfg1 run_cfg2 run_cfg3
set_option maxHeartbeats 2000000 in
theorem walk (cs0 : Array Value) (x0 : Cfg) (cs1 : Array Value) (x1 : JobV) (a2 : Int) (w : World) (k0 : KCfg.K w x0 cs0.toList) (gd0 : (CfgW) x0) (k1 : KJob.K w x1 cs1.toList) (gd1 : (JobG) x1) (gd2 : (Lit.int .i64 a2).wf = true) :
    Calls Try.prog 9 #[.agg cs0, .agg cs1, .int .i64 a2] w fun e w' => e = .returned (.bool true) ∧ Below w.heap.size w w' := by
  obtain rfl := cfg_cells k0
  obtain ⟨A, ca, rfl, hca, hx⟩ := job_cells k1
  obtain ⟨sd, xs, most⟩ := x1
  dsimp only at hca hx ⊢
  have HCV := Lib.hid (show x0.v = .agg #[.int .u64 x0.seed, .int .i64 x0.vocab, .int .i64 x0.dim, .int .i64 x0.layers, .int .i64 x0.top, .int .i64 x0.heat] from rfl)
  have HX := Lib.hid (fun (W' : World) (hb : Below w.heap.size w W') => Kd.C_below hx hb)
  obtain ⟨n, hn⟩ : ∃ n, xs.length = n := ⟨_, rfl⟩
  rw [hn] at hca ⊢
  have HN := Lib.hid hn
  obtain ⟨W0, hW0⟩ : ∃ W0, (w.alloc (.cells #[.int .u64 x0.seed, .int .i64 x0.vocab, .int .i64 x0.dim, .int .i64 x0.layers, .int .i64 x0.top, .int .i64 x0.heat] 24)).alloc (.cells #[.int .u64 sd, .slice A n ca, .int .i64 most] 66) = W0 := ⟨_, rfl⟩
  have hS := BCJ.new x0 sd (.slice A n ca) most w
  rw [hW0] at hS
  obtain ⟨g, hg⟩ : ∃ g, w.heap.size = g := ⟨_, rfl⟩
  obtain ⟨j, hj⟩ : ∃ j, g + 1 = j := ⟨_, rfl⟩
  rw [hg, hj] at hS
  have HS := Lib.hid hS
  have HW := Lib.hid hW0
  have HG := Lib.hid hg
  have HJ := Lib.hid hj
  clear k0 k1 gd0 gd1 gd2 hx hn hW0 hg hj hS
  obtain ⟨z0, z1, z2, z3, z4, z5, y0, y1, y2, -⟩ := id HS.out
  by_cases hok : x0.ok
  · have HNW := Lib.hid (new_ok x0 hok W0)
    rw [HCV.out] at HNW
    have HOK := Lib.hid hok
    clear hok
    go_enter Try.func9, Try.ntmps9
    go_wp2_with fail
    try rw [HG.out]
    try rw [HJ.out]
    rw [HW.out]
    refine HNW.out.mono ?_
    unfold NewYes
    rintro e W1 ⟨p, rfl, hM, hb⟩
    have HMo := Lib.hid (fun (W' : World) (hb : Below W1.heap.size W1 W') => hM.below hb)
    have HS1 := Lib.hid (HS.out.step hb)
    clear hM hb HNW z0 z1 z2 z3 z4 z5 y0 y1 y2
    obtain ⟨z0, z1, z2, z3, z4, z5, y0, y1, y2, -⟩ := id HS1.out
    go_wp2_with fail
    refine (far12_any W1 sd most A n ca).mono ?_
    obtain ⟨fb, hfb⟩ : ∃ b, decide (FarJ n most) = b := ⟨_, rfl⟩
    rw [hfb]
    rintro e W2 ⟨rfl, hb⟩
    have HS2 := Lib.hid (HS1.out.step hb)
    have HB2 := Lib.hid hb
    clear hb hfb z0 z1 z2 z3 z4 z5 y0 y1 y2
    obtain ⟨z0, z1, z2, z3, z4, z5, y0, y1, y2, -⟩ := id HS2.out
    cases fb with
    | true =>
      go_wp2_with fail
      refine (alive12_any _).mono ?_
      rintro e W3 ⟨rfl, hb⟩
      have HBE := Lib.hid (below_then HS2.out.b HS2.out.b.size hb)
      clear hb
      go_wp2_with fail
      go_ret
      exact ⟨rfl, HBE.out⟩
    | false =>
      have HMY := Lib.hid (dmay_any x0 sd most A ca xs W2 (HX.out W2 HS2.out.b))
      rw [HCV.out, HN.out] at HMY
      by_cases hjk : Jok x0 xs most
      · have HJK := Lib.hid hjk
        rw [decide_eq_true hjk] at HMY
        clear hjk
        go_wp2_with fail
        refine HMY.out.mono ?_
        rintro e W3 ⟨rfl, hb⟩
        have HS3 := Lib.hid (HS2.out.step hb)
        have HB3 := Lib.hid (below_then HB2.out HB2.out.size hb)
        clear hb z0 z1 z2 z3 z4 z5 y0 y1 y2
        obtain ⟨z0, z1, z2, z3, z4, z5, y0, y1, y2, -⟩ := id HS3.out
        obtain ⟨K, hK⟩ : ∃ K, min (max a2 0) most = K := ⟨_, rfl⟩
        have hKi : (if (if a2 < 0 then 0 else a2) < most then (if a2 < 0 then 0 else a2) else most) = K := by rw [← hK]; split <;> split <;> omega
        have HKm := Lib.hid (show 0 ≤ K ∧ K ≤ most ∧ most ≤ 256 by have h1 := HJK.out.1; have h2 := HJK.out.2.1; rw [← hK]; omega)
        have q := heap_alloc_new W3 (.cells #[.int .u64 sd, .slice A n ca, .int .i64 most] 66)
        obtain ⟨x0', x1', x2', x3', x4', x5', y0', y1', y2', -⟩ := id (HS3.out.step (below_alloc (Below.refl _ _) (.cells #[.int .u64 sd, .slice A n ca, .int .i64 most] 66)))
        have q0 := blk_cell q 0
        have q1 := blk_cell q 1
        have q2 := blk_cell q 2
        obtain ⟨W5, hW5⟩ : ∃ W5, W3.alloc (.cells #[.int .u64 sd, .slice A n ca, .int .i64 K] 66) = W5 := ⟨_, rfl⟩
        have hb5 : Below W3.heap.size W3 W5 := by rw [← hW5]; exact below_alloc (Below.refl _ _) _
        have hk5 := heap_alloc_new W3 (.cells #[.int .u64 sd, .slice A n ca, .int .i64 K] 66)
        rw [hW5] at hk5
        have HW3 := Lib.hid (show W3.heap.size < W5.heap.size from blk_lt hk5)
        have HS5 := Lib.hid (HS3.out.step hb5)
        have HK5 := Lib.hid hk5
        have HB5 := Lib.hid hb5
        have HW5 := Lib.hid hW5
        have HX5 := Lib.hid (HX.out W5 HS5.out.b)
        have HR1 := Lib.hid (dref_yes W5 p x0 HOK.out (HMo.out W5 (below_then HB3.out HB3.out.size hb5)) sd most A ca xs HX5.out HJK.out)
        have HJ2 := Lib.hid (show Jok x0 xs K from ⟨by have := HKm.out; omega, by have := HKm.out; omega, HJK.out.2.2⟩)
        have HR2 := Lib.hid (fun (W' : World) (hb : Below W5.heap.size W5 W') => dref_yes W' p x0 HOK.out (HMo.out W' (below_then (below_then HB3.out HB3.out.size HB5.out) (Below.size (below_then HB3.out HB3.out.size HB5.out)) hb)) sd K A ca xs (HX.out W' (below_then HS5.out.b HS5.out.b.size hb)) HJ2.out)
        obtain ⟨o1, ho1⟩ : ∃ o, dRef x0 sd xs most = o := ⟨_, rfl⟩
        obtain ⟨o2, ho2⟩ : ∃ o, dRef x0 sd xs K = o := ⟨_, rfl⟩
        have HO12 := Lib.hid (show o2 = o1.take K.toNat by rw [← ho1, ← ho2]; exact dOut_take x0 sd most.toNat K.toNat (0 :: xs) (by have := HKm.out; omega))
        have HL1 := Lib.hid (show o1.length ≤ 256 by rw [← ho1]; have h := dOut_le x0 sd most.toNat (0 :: xs); have := HKm.out; unfold dRef; omega)
        rw [ho1] at HR1
        rw [ho2] at HR2
        rw [HN.out] at HR1 HR2
        obtain ⟨n1, hn1⟩ : ∃ n, o1.length = n := ⟨_, rfl⟩
        obtain ⟨n2, hn2⟩ : ∃ n, o2.length = n := ⟨_, rfl⟩
        obtain ⟨κ, rfl⟩ : ∃ κ : Nat, K = κ := ⟨K.toNat, by have := HKm.out; omega⟩
        have h12 : n2 = min κ n1 := by rw [← hn2, HO12.out, List.length_take, hn1]; omega
        have h1m : n1 ≤ 256 := by rw [← hn1]; exact HL1.out
        have HN1 := Lib.hid hn1
        have HN2 := Lib.hid hn2
        obtain ⟨v0, v1, v2, v3, v4, v5, v6, v7, v8, -⟩ := id HS5.out
        have q3 := blk_cell hk5 0
        have q4 := blk_cell hk5 1
        have q5 := blk_cell hk5 2
        unfold RefY at HR1 HR2
        rw [HN1.out] at HR1
        rw [HN2.out] at HR2
        clear z0 z1 z2 z3 z4 z5 q x0' x1' x2' x3' x4' x5' y0' y1' hb5 hk5 hW5 hn1 hn2 ho1 ho2
        rw [← HW5.out] at v6 v7 v8
        go_wp2_with fail
        rw [HW5.out]
        refine HR1.out.mono ?_
        rintro e W6 ⟨A1, c1, rfl, hO1, hb6⟩
        have HOa := Lib.hid hO1
        have HS6 := Lib.hid (HS5.out.step hb6)
        have HK6 := Lib.hid (Eq.trans (hb6.block W3.heap.size HW3.out) HK5.out)
        have HB6 := Lib.hid hb6
        clear hO1 hb6 y0 y1 y2 v0 v1 v2 v3 v4 v5 v6 v7 v8 q0 q1 q2 q3 q4 q5
        obtain ⟨v0, v1, v2, v3, v4, v5, v6, v7, v8, -⟩ := id HS6.out
        have q3 := blk_cell HK6.out 0
        have q4 := blk_cell HK6.out 1
        have q5 := blk_cell HK6.out 2
        go_wp2_with fail
        refine (HR2.out W6 HB6.out).mono ?_
        rintro e W7 ⟨A2, c2, rfl, hO2, hb7⟩
        have HOb := Lib.hid hO2
        have HS7 := Lib.hid (HS6.out.step hb7)
        have q6 := pw_cell_below hb7 q3
        have q7 := pw_cell_below hb7 q4
        have q8 := pw_cell_below hb7 q5
        have HO7 := Lib.hid (HOa.out.below hb7)
        clear hO2 hb7 v0 v1 v2 v3 v4 v5 v6 v7 v8 q3 q4 q5
        obtain ⟨v0, v1, v2, v3, v4, v5, v6, v7, v8, -⟩ := id HS7.out
        obtain ⟨Ax, cx, hvx, hcx, hCx⟩ := (HO7.out).reads
        obtain ⟨Ay, cy, hvy, hcy, hCy⟩ := (HOb.out).reads
        injection hvx with h1 h2 h3
        clear h2
        subst h1 h3
        injection hvy with h1 h2 h3
        clear h2
        subst h1 h3
        obtain ⟨jx, hjx⟩ : ∃ j, min n1 κ = j := ⟨_, rfl⟩
        have hjm : min (n1 : Int) (κ : Int) = ((jx : Nat) : Int) := by omega
        have hCt := Kd.C_take (m := jx) hCx (by rw [HN1.out]; omega)
        have hlt : (o1.take jx).length = jx := by rw [List.length_take, HN1.out]; omega
        have hE : o2 = o1.take jx := by
          rw [HO12.out]
          by_cases h : κ ≤ n1
          · rw [show jx = ((κ : Int)).toNat by omega]
          · rw [List.take_of_length_le (by rw [HN1.out]; omega), List.take_of_length_le (by rw [HN1.out]; omega)]
        have HE := Lib.hid hE
        clear hE
        have HSA := Lib.hid (isame_any A2 A1 c2 c1 o2 (o1.take jx) W7 (by rw [HN2.out]; rw [HN2.out] at hCy; exact hCy) hCt (by rw [HN2.out]; rw [HN2.out] at hcy; exact hcy) (by rw [hlt]; rw [HN1.out] at hcx; omega) (by rw [HN2.out]; omega) (by rw [hlt]; omega))
        rw [hlt, HN2.out, decide_eq_true HE.out] at HSA
        rw [HN1.out] at hcx
        have hcut := cutI2 A1 n1 c1 jx (by omega) hcx
        have hle : ((n2 : Nat) : Int) ≤ κ := by omega
        clear hCt hlt hCx hCy hcy h12 hjx
        go_wp2_with fail
        refine HSA.out.mono ?_
        rintro e W8 ⟨rfl, hd8⟩
        have HS8 := Lib.hid (HS7.out.step hd8.below)
        clear hd8
        go_wp2_with fail
        refine (alive12_any _).mono ?_
        rintro e W9 ⟨rfl, hb⟩
        have HBE := Lib.hid (below_then HS8.out.b HS8.out.b.size hb)
        clear hb
        go_wp2_with fail
        go_ret
        exact ⟨rfl, HBE.out⟩
      · rw [decide_eq_false hjk] at HMY
        clear hjk
        go_wp2_with fail
        refine HMY.out.mono ?_
        rintro e W3 ⟨rfl, hb⟩
        have HS3 := Lib.hid (HS2.out.step hb)
        clear hb
        go_wp2_with fail
        refine (alive12_any _).mono ?_
        rintro e W4 ⟨rfl, hb⟩
        have HBE := Lib.hid (below_then HS3.out.b HS3.out.b.size hb)
        clear hb
        go_wp2_with fail
        go_ret
        exact ⟨rfl, HBE.out⟩
  · have HNB := Lib.hid (new_bad x0 hok W0)
    rw [HCV.out] at HNB
    clear hok
    go_enter Try.func9, Try.ntmps9
    go_wp2_with fail
    try rw [HG.out]
    try rw [HJ.out]
    rw [HW.out]
    refine HNB.out.mono ?_
    unfold NewNo
    rintro e W1 ⟨rfl, hb⟩
    have HS1 := Lib.hid (HS.out.step hb)
    clear hb z0 z1 z2 z3 z4 z5 y0 y1 y2
    go_wp2_with fail
    refine (alive12_any _).mono ?_
    rintro e W2 ⟨rfl, hb⟩
    have HBE := Lib.hid (below_then HS1.out.b HS1.out.b.size hb)
    clear hb
    go_wp2_with fail
    go_ret
    exact ⟨rfl, HBE.out⟩

set_option maxRecDepth 100000 in
theorem lifted (os : Os) (started : os.Started) (H : Type) (enc : TypeId × Value → H) :
    ReturnsInHanded {} Try.checked os 9 .any (Rows.decodeLessSpec.pre6 enc Try.prog Try.f9 Rows.decodeLessRow.domain false) (Rows.decodeLessSpec.post enc Try.prog Try.f9 false true false false) := by
  refine returnsInHanded_of_change (C := Try.checked) own started (by kernel_rfl) Try.func9
    (ChangeSpec.witness6 (enc := enc) (C := Try.checked) false ⟨#[], #[.agg #[.int .u64 0, .int .i64 0, .int .i64 0, .int .i64 0, .int .i64 0, .int .i64 0], .agg #[.int .u64 0, .slice none 0 0, .int .i64 0], .int .i64 0], []⟩ 8 (by kernel_rfl) (by kernel_rfl) (by kernel_rfl) (by kernel_rfl)) ?_
  intro W base args ds gs before hval0 hW hcnd _
  have hval : ∀ (j : Nat) t v, Try.f9.params[j]? = some t → args[j]? = some v → Value.okWide Try.prog W .any base t v := hval0
  have hW' := hW
  obtain ⟨p, q, hA0, hV, rfl, hfz, hnd⟩ := hW
  have hA : DataW.TrodAll enc Try.prog W 0 (fun _ => true) true Try.f9.params.toList args.toList ds p := hA0
  rw [Try.params9] at hA hval
  obtain ⟨v0, vs0, d0, ds0, p0, q0, hargs, rfl, rfl, h0, r0⟩ := trodAll_cons hA
  obtain ⟨v1, vs1, d1, ds1, p1, q1, rfl, rfl, rfl, h1, r1⟩ := trodAll_cons r0
  obtain ⟨v2, vs2, d2, ds2, p2, q2, rfl, rfl, rfl, h2, r2⟩ := trodAll_cons r1
  obtain ⟨rfl, rfl, rfl⟩ := trodAll_nil r2
  obtain rfl : args = #[v0, v1, v2] := by cases args; simp_all
  obtain ⟨rfl, rfl⟩ := trodVars_none hV
  have k0 := h0
  have lt0 : ∀ x ∈ p0, x.block < W.heap.size := by obtain ⟨m, hm⟩ := k0; exact DataW.trod_lt m _ _ _ hm
  obtain ⟨cs0, rfl, _⟩ := okWide_struct Try.underlying24 (hval 0 24 v0 rfl rfl)
  obtain ⟨x0, y0, g0⟩ : ∃ x, KCfg.K W x cs0.toList ∧ (CfgW) x := by obtain ⟨m, hm⟩ := k0; exact op_cfg _ _ _ m _ _ hm
  have k1 := h1
  have lt1 : ∀ x ∈ p1, x.block < W.heap.size := by obtain ⟨m, hm⟩ := k1; exact DataW.trod_lt m _ _ _ hm
  obtain ⟨cs1, rfl, _⟩ := okWide_struct Try.underlying66 (hval 1 66 v1 rfl rfl)
  obtain ⟨x1, y1, g1⟩ : ∃ x, KJob.K W x cs1.toList ∧ (JobG) x := by obtain ⟨m, hm⟩ := k1; exact op_job _ _ _ m _ _ hm
  have k2 := h2
  have lt2 : ∀ x ∈ p2, x.block < W.heap.size := by obtain ⟨m, hm⟩ := k2; exact DataW.trod_lt m _ _ _ hm
  obtain ⟨a2, rfl, rfl, rfl, g2⟩ := open_int Try.underlying3 (hval 2 3 v2 rfl rfl) h2
  clear hA0 hval0
  refine (walk cs0 x0 cs1 x1 a2 W y0 g0 y1 g1 g2).mono fun e W' ⟨he, bel⟩ => ?_
  subst he
  exact ⟨_, rfl, _, _, _, [], _, [], hW', trodAll_mk1 (shut_bool Try.underlying4 _), (trodAll_cons_mk (Below.trod laidOut (by kernel_rfl) (of_decide_eq_true (by kernel_rfl)) k0 bel lt0) (trodAll_cons_mk (Below.trod laidOut (by kernel_rfl) (of_decide_eq_true (by kernel_rfl)) k1 bel lt1) (trodAll_cons_mk (Below.trod laidOut (by kernel_rfl) (of_decide_eq_true (by kernel_rfl)) k2 bel lt2) trodAll_mk0))), rfl, bel.frame _, fun h => by cases h⟩

theorem over : Rows.decodeLessRow.holds Try.pinned (OpenSpec.ofChange Rows.decodeLessSpec) :=
  OpenClaim.holds_of_wide 9 Try.f9 rfl rfl rfl rfl rfl rfl rfl ⟨rfl, rfl, rfl, rfl, rfl⟩ rfl rfl rfl rfl rfl (by kernel_rfl) Try.func9 (by kernel_rfl)
    (of_decide_eq_true (by kernel_rfl)) (by unfold Func.isWrapper; first | (rw [if_pos (by decide +kernel)]; kernel_rfl) | (rw [if_neg (by decide +kernel)]; exact ⟨rfl, rfl⟩))
    (fun os started H enc _ => lifted os started H enc)

theorem proved : Rows.DecodeLessSaid := over
end Go.Proofs.Ytdfgmdmcdnnhfaa.decodeLess
