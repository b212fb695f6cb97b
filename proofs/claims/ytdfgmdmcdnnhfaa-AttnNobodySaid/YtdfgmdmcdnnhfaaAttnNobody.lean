/- A nil memory is one of no layers; one of another number of layers counts as an empty one. -/
import Derived.Test.YtdfgmdmcdnnhfaaRows
import Derived.WalkKit
import Derived.ProofKit
import Derived.OpenShut
import Derived.ShutString
import Derived.ChangeOld
import Derived.Below
import Derived.Test.YtdfgmdmcdnnhfaaOpn
import Derived.Test.YtdfgmdmcdnnhfaaAtX
import Derived.Test.YtdfgmdmcdnnhfaaOpE
namespace Go.Proofs.Ytdfgmdmcdnnhfaa.attnNobody
open Go.ChangeShapes Go.WideShapes Go.ChangeAt Go.RowKit
open Go.ChangeMaps (open_string shut_string)
set_option linter.unusedVariables false
set_option linter.unusedSimpArgs false
open Go.Proofs.YtdfgmdmcdnnhfaaW.PrintWords Go.Proofs.YtdfgmdmcdnnhfaaW.PrintLast Go.Proofs.YtdfgmdmcdnnhfaaW.PrintMore

theorem own : ownKnob Try.prog.godebug = none := by kernel_rfl
theorem laidOut : laidOutB Try.prog = true := by kernel_rfl

set_option maxRecDepth 100000
/-- The configuration's box at g. -/
def BxK (c : Cfg) (g : Nat) (w0 W : World) : Prop := W.cell? ⟨g, 0, none⟩ = some (.int .u64 c.seed) ∧ W.cell? ⟨g, 1, none⟩ = some (.int .i64 c.vocab) ∧ W.cell? ⟨g, 2, none⟩ = some (.int .i64 c.dim) ∧ W.cell? ⟨g, 3, none⟩ = some (.int .i64 c.layers) ∧ W.cell? ⟨g, 4, none⟩ = some (.int .i64 c.top) ∧ W.cell? ⟨g, 5, none⟩ = some (.int .i64 c.heat) ∧ Hid (Below w0.heap.size w0 W)
theorem BxK.step {c : Cfg} {g : Nat} {w0 W W' : World} (hS : BxK c g w0 W) (hb : Below W.heap.size W W') : BxK c g w0 W' := by
  obtain ⟨h0, h1, h2, h3, h4, h5, h6⟩ := hS
  exact ⟨pw_cell_below hb h0, pw_cell_below hb h1, pw_cell_below hb h2, pw_cell_below hb h3, pw_cell_below hb h4, pw_cell_below hb h5, Lib.hid (below_then h6.out h6.out.size hb)⟩
theorem BxK.below {c : Cfg} {g : Nat} {w0 W : World} (hS : BxK c g w0 W) : Below w0.heap.size w0 W := hS.2.2.2.2.2.2.out
attribute [local go_sem] gb_max2 gb_min2 gb_max_two gb_min_two gb_max_three gb_min_three run_cfg1 run_cfg2 run_cfg3
set_option maxHeartbeats 2000000 in
theorem walk (cs0 : Array Value) (x0 : Cfg) (a1 : Option Addr) (len1 cap1 : Nat) (x1 : List Int) (a2 : Int) (w : World) (k0 : KCfg.K w x0 cs0.toList) (gd0 : (CfgW) x0) (k1 : KRow.K w x1 [.slice a1 len1 cap1]) (gd1 : (fun xs => (∀ x ∈ xs, (Lit.int .i64 x).wf = true) ∧ xs.length ≤ maxLen) x1) (gd2 : (Lit.int .i64 a2).wf = true) :
    Calls Try.prog 7 #[.agg cs0, .slice a1 len1 cap1, .int .i64 a2] w fun e w' => e = .returned (.bool true) ∧ Below w.heap.size w w' := by
  obtain rfl := cfg_cells k0
  obtain ⟨rfl, hcx, hx⟩ := slice_came k1
  obtain ⟨c, hc⟩ : ∃ c, x0 = c := ⟨_, rfl⟩
  subst hc
  have HCV := Lib.hid (show x0.v = .agg #[.int .u64 x0.seed, .int .i64 x0.vocab, .int .i64 x0.dim, .int .i64 x0.layers, .int .i64 x0.top, .int .i64 x0.heat] from rfl)
  have HX := Lib.hid (fun (W' : World) (hb : Below w.heap.size w W') => Kd.C_below hx hb)
  obtain ⟨W0, hW0⟩ : ∃ W0, w.alloc (.cells #[.int .u64 x0.seed, .int .i64 x0.vocab, .int .i64 x0.dim, .int .i64 x0.layers, .int .i64 x0.top, .int .i64 x0.heat] 24) = W0 := ⟨_, rfl⟩
  have hS0 : BxK x0 w.heap.size w W0 := by
    have h1 := heap_alloc_new w (.cells #[.int .u64 x0.seed, .int .i64 x0.vocab, .int .i64 x0.dim, .int .i64 x0.layers, .int .i64 x0.top, .int .i64 x0.heat] 24)
    rw [hW0] at h1
    refine ⟨?_, ?_, ?_, ?_, ?_, ?_, Lib.hid ?_⟩
    all_goals first | (rw [blk_cell h1]; rfl) | (rw [← hW0]; exact below_alloc (Below.refl _ w) _)
  obtain ⟨g, hg⟩ : ∃ g, w.heap.size = g := ⟨_, rfl⟩
  rw [hg] at hS0
  have HG := Lib.hid hg
  have HW0 := Lib.hid hW0
  obtain ⟨L, hL⟩ : ∃ L, min (max a2 0) 4 = L := ⟨_, rfl⟩
  have hL' : (if (if a2 < 0 then (0:Int) else a2) < 4 then (if a2 < 0 then (0:Int) else a2) else 4) = L := by
    rw [← hL]; split <;> split <;> omega
  have HNL := Lib.hid (fun W' => anew_any a2 W')
  rw [hL] at HNL
  have HFAR := Lib.hid (fun W' => far10_any W' a1 none x1.length cap1 0 [] ⟨rfl, by simp, fun h => absurd h (Nat.lt_irrefl 0)⟩)
  obtain ⟨n, hn⟩ : ∃ n, x1.length = n := ⟨_, rfl⟩
  rw [hn] at hcx HFAR
  rw [hn]
  have HN := Lib.hid hn
  have HS0 := Lib.hid hS0
  obtain ⟨z0, z1, z2, z3, z4, z5, -⟩ := id hS0
  clear k0 k1 gd0 gd1 gd2 hx hg hW0 hL hn hS0
  go_enter Try.func7, Try.ntmps7
  go_wp2_with fail
  rw [HW0.out]
  try rw [HG.out]
  refine (HFAR.out W0).mono ?_
  unfold FarR
  rintro e W1 ⟨far, rfl, hfar, hd⟩
  have HS1 := Lib.hid (HS0.out.step hd.below)
  have HFR := Lib.hid hfar
  clear hd hfar z0 z1 z2 z3 z4 z5
  obtain ⟨z0, z1, z2, z3, z4, z5, -⟩ := id HS1.out
  cases far with
  | true =>
    go_wp2_with fail
    refine (alive10_any _).mono ?_
    rintro e W2 ⟨rfl, hb⟩
    have HS2 := Lib.hid (HS1.out.step hb)
    clear hb
    go_wp2_with fail
    go_ret
    exact ⟨rfl, HS2.out.below⟩
  | false =>
    have HX40 := Lib.hid (HFR.out rfl).1
    go_wp2_with fail
    refine (alen_nil _).mono ?_
    rintro e W2 ⟨rfl, hw⟩
    replace hw := hw.symm
    subst hw
    go_wp2_with fail
    refine (alay_nil _).mono ?_
    rintro e W2 ⟨rfl, hw⟩
    replace hw := hw.symm
    subst hw
    go_wp2_with fail
    refine (acut_nil _ _).mono ?_
    unfold CutP
    rintro e W2 ⟨q, rfl, hm, hb⟩
    have HM := Lib.hid hm
    have HS2 := Lib.hid (HS1.out.step hb)
    clear hm hb z0 z1 z2 z3 z4 z5
    go_wp2_with fail
    refine (alen_any _ q 0 [] HM.out).mono ?_
    rintro e W2 ⟨rfl, hw⟩
    replace hw := hw.symm
    subst hw
    go_wp2_with fail
    refine (asame_nil _).mono ?_
    rintro e W3 ⟨rfl, hw⟩
    replace hw := hw.symm
    subst hw
    go_wp2_with fail
    refine (HNL.out W2).mono ?_
    rintro e W3 ⟨q1, rfl, hm, hb⟩
    have HM := Lib.hid hm
    have HS3 := Lib.hid (HS2.out.step hb)
    clear hm hb
    go_wp2_with fail
    refine (alay_any _ q1 L [] HM.out).mono ?_
    rintro e W4 ⟨rfl, hw⟩
    replace hw := hw.symm
    subst hw
    have zL : (L != L) = false := by simp
    obtain ⟨z0, z1, z2, z3, z4, z5, -⟩ := id HS3.out
    by_cases hok : x0.ok
    · have HNW := Lib.hid (new_ok x0 hok W3)
      rw [HCV.out] at HNW
      have HOK := Lib.hid hok
      clear hok
      go_wp2_with fail
      refine HNW.out.mono ?_
      unfold NewYes
      rintro e W4 ⟨p, rfl, hM, hb⟩
      have HMo := Lib.hid hM
      have HS4 := Lib.hid (HS3.out.step hb)
      have HX4 := Lib.hid (fun (W' : World) (hb : Below W4.heap.size W4 W') => HX.out W' (below_then HS4.out.below HS4.out.below.size hb))
      clear hM hb HNW z0 z1 z2 z3 z4 z5 zL HM HX
      have hyl := ty_le x0 [] x1
      have HTA := Lib.hid (thru_none W4 p x0 HOK.out HMo.out a1 cap1 x1 (HX4.out _ (Below.refl _ _)) (by rw [HN.out]; exact hcx) (by rw [HN.out]; have := HX40.out; omega))
      have HTB := Lib.hid (fun (W' : World) (hb : Below W4.heap.size W4 W') q L hm => thru_new W' p x0 HOK.out (HMo.out.below hb) q L hm a1 cap1 x1 (HX4.out _ hb) (by rw [HN.out]; exact hcx) (by rw [HN.out]; have := HX40.out; omega))
      have HPK := Lib.hid (plok_tp x0 HOK.out [] [] x1 (plok_nil _))
      obtain ⟨Y, hY⟩ : ∃ Y, ty x0 [] x1 = Y := ⟨_, rfl⟩
      obtain ⟨T, hT⟩ : ∃ T, [tp x0 [] x1] = T := ⟨_, rfl⟩
      have hT1 : T.length = 1 := by rw [← hT]; rfl
      rw [List.nil_append] at HPK
      rw [hT] at HTA HTB HPK
      rw [hY] at HTA HTB hyl
      rw [HN.out] at HTA HTB hyl
      have hY40 : Y.length ≤ 40 := by have := HX40.out; omega
      have HT1 := Lib.hid hT1
      have HL4 : Hid (x0.layers.toNat ≤ 100) := Lib.hid (by have := HOK.out.2.2.1; omega)
      unfold ThruR at HTA HTB
      clear hY hT hT1 hyl
      go_wp2_with fail
      refine HTA.out.mono ?_
      rintro e W5 ⟨A1, c1, q2, rfl, ho, hm, hb⟩
      have HC1 := Lib.hid ho.rd.2
      have hl1 := ho.rd.1
      have HM2 := Lib.hid hm
      have HS5 := Lib.hid (HS4.out.step hb)
      have HB5 := Lib.hid hb
      clear ho hm hb HTA
      obtain ⟨z0, z1, z2, z3, z4, z5, -⟩ := id HS5.out
      go_wp2_with fail
      refine (anew_any _ _).mono ?_
      rintro e W6 ⟨q3, rfl, hm, hb⟩
      have HB6 := Lib.hid (below_then HB5.out HB5.out.size hb)
      have HTB1 := Lib.hid (HTB.out W6 HB6.out q3 _ hm)
      have HC1 := Lib.hid (Kd.C_below HC1.out hb)
      have HM2 := Lib.hid (HM2.out.below hb)
      clear hm hb z0 z1 z2 z3 z4 z5
      go_wp2_with fail
      refine HTB1.out.mono ?_
      rintro e W7 ⟨A2, c2, q4, rfl, ho, hm, hb⟩
      have HC2 := Lib.hid ho.rd.2
      have hl2 := ho.rd.1
      have HM4 := Lib.hid hm
      have HB7 := Lib.hid (below_then HB6.out HB6.out.size hb)
      have HC1 := Lib.hid (Kd.C_below HC1.out hb)
      have HM2 := Lib.hid (HM2.out.below hb)
      clear ho hm hb HTB1
      go_wp2_with fail
      refine (anew_any _ _).mono ?_
      rintro e W8 ⟨q5, rfl, hm, hb⟩
      have HB8 := Lib.hid (below_then HB7.out HB7.out.size hb)
      have HTB1 := Lib.hid (HTB.out W8 HB8.out q5 _ hm)
      have HC1 := Lib.hid (Kd.C_below HC1.out hb)
      have HC2 := Lib.hid (Kd.C_below HC2.out hb)
      have HM2 := Lib.hid (HM2.out.below hb)
      have HM4 := Lib.hid (HM4.out.below hb)
      clear hm hb HTB
      go_wp2_with fail
      refine HTB1.out.mono ?_
      rintro e W9 ⟨A3, c3, q6, rfl, ho, hm, hb⟩
      have HC3 := Lib.hid ho.rd.2
      have hl3 := ho.rd.1
      have HM6 := Lib.hid hm
      have HB9 := Lib.hid (below_then HB8.out HB8.out.size hb)
      have HC1 := Lib.hid (Kd.C_below HC1.out hb)
      have HC2 := Lib.hid (Kd.C_below HC2.out hb)
      have HM2 := Lib.hid (HM2.out.below hb)
      have HM4 := Lib.hid (HM4.out.below hb)
      clear ho hm hb HTB1
      have HE1 := Lib.hid (fun (W' : World) (hb : Below W9.heap.size W9 W') => same_any A1 A2 c1 c2 Y Y W' (Kd.C_below HC1.out hb) (Kd.C_below HC2.out hb) hl1 hl2 (by omega) (by omega))
      have HE2 := Lib.hid (fun (W' : World) (hb : Below W9.heap.size W9 W') => same_any A2 A3 c2 c3 Y Y W' (Kd.C_below HC2.out hb) (Kd.C_below HC3.out hb) hl2 hl3 (by omega) (by omega))
      have HE3 := Lib.hid (fun (W' : World) (hb : Below W9.heap.size W9 W') => asame_any W' q2 q4 x0.layers x0.layers _ _ T T (HM2.out.below hb) (HM4.out.below hb) HPK.out HPK.out HL4.out HL4.out (by rw [HT1.out]; omega) (by rw [HT1.out]; omega))
      have HE4 := Lib.hid (fun (W' : World) (hb : Below W9.heap.size W9 W') => asame_any W' q4 q6 x0.layers x0.layers _ _ T T (HM4.out.below hb) (HM6.out.below hb) HPK.out HPK.out HL4.out HL4.out (by rw [HT1.out]; omega) (by rw [HT1.out]; omega))
      rw [decide_eq_true (show Y = Y from rfl)] at HE1 HE2
      rw [decide_eq_true (show x0.layers = x0.layers ∧ T = T from ⟨rfl, rfl⟩)] at HE3 HE4
      go_wp2_with fail
      refine (HE1.out W9 (Below.refl _ _)).mono ?_
      rintro e W10 ⟨rfl, hd⟩
      have HD := Lib.hid hd.below
      clear hd
      go_wp2_with fail
      refine (HE2.out W10 HD.out).mono ?_
      rintro e W11 ⟨rfl, hd⟩
      have HD := Lib.hid (below_then HD.out HD.out.size hd.below)
      clear hd
      go_wp2_with fail
      refine (HE3.out W11 HD.out).mono ?_
      rintro e W12 ⟨rfl, hd⟩
      have HD := Lib.hid (below_then HD.out HD.out.size hd)
      clear hd
      go_wp2_with fail
      refine (HE4.out W12 HD.out).mono ?_
      rintro e W13 ⟨rfl, hd⟩
      have HD := Lib.hid (below_then HD.out HD.out.size hd)
      clear hd
      go_wp2_with fail
      refine (alive10_any _).mono ?_
      rintro e W14 ⟨rfl, hd⟩
      have HD := Lib.hid (below_then HD.out HD.out.size hd)
      clear hd
      go_wp2_with fail
      go_ret
      exact ⟨rfl, below_then HS4.out.below HS4.out.below.size (below_then HB9.out HB9.out.size HD.out)⟩
    · have HNB := Lib.hid (new_bad x0 hok W3)
      rw [HCV.out] at HNB
      go_wp2_with fail
      refine HNB.out.mono ?_
      unfold NewNo
      rintro e W4 ⟨rfl, hb⟩
      have HS4 := Lib.hid (HS3.out.step hb)
      clear hb z0 z1 z2 z3 z4 z5
      go_wp2_with fail
      refine (alive10_any _).mono ?_
      rintro e W5 ⟨rfl, hb⟩
      have HS5 := Lib.hid (HS4.out.step hb)
      clear hb
      go_wp2_with fail
      go_ret
      exact ⟨rfl, HS5.out.below⟩

set_option maxRecDepth 100000 in
theorem lifted (os : Os) (started : os.Started) (H : Type) (enc : TypeId × Value → H) :
    ReturnsInHanded {} Try.checked os 7 .any (Rows.attnNobodySpec.pre6 enc Try.prog Try.f7 Rows.attnNobodyRow.domain false) (Rows.attnNobodySpec.post enc Try.prog Try.f7 false true false false) := by
  refine returnsInHanded_of_change (C := Try.checked) own started (by kernel_rfl) Try.func7
    (ChangeSpec.witness6 (enc := enc) (C := Try.checked) false ⟨#[], #[.agg #[.int .u64 0, .int .i64 0, .int .i64 0, .int .i64 0, .int .i64 0, .int .i64 0], .slice none 0 0, .int .i64 0], []⟩ 8 (by kernel_rfl) (by kernel_rfl) (by kernel_rfl) (by kernel_rfl)) ?_
  intro W base args ds gs before hval0 hW hcnd _
  have hval : ∀ (j : Nat) t v, Try.f7.params[j]? = some t → args[j]? = some v → Value.okWide Try.prog W .any base t v := hval0
  have hW' := hW
  obtain ⟨p, q, hA0, hV, rfl, hfz, hnd⟩ := hW
  have hA : DataW.TrodAll enc Try.prog W 0 (fun _ => true) true Try.f7.params.toList args.toList ds p := hA0
  rw [Try.params7] at hA hval
  obtain ⟨v0, vs0, d0, ds0, p0, q0, hargs, rfl, rfl, h0, r0⟩ := trodAll_cons hA
  obtain ⟨v1, vs1, d1, ds1, p1, q1, rfl, rfl, rfl, h1, r1⟩ := trodAll_cons r0
  obtain ⟨v2, vs2, d2, ds2, p2, q2, rfl, rfl, rfl, h2, r2⟩ := trodAll_cons r1
  obtain ⟨rfl, rfl, rfl⟩ := trodAll_nil r2
  obtain rfl : args = #[v0, v1, v2] := by cases args; simp_all
  obtain ⟨rfl, rfl⟩ := trodVars_none hV
  have k0 := h0
  have lt0 : ∀ x ∈ p0, x.block < W.heap.size := by obtain ⟨m, hm⟩ := k0; exact DataW.trod_lt m _ _ _ hm
  obtain ⟨cs0, rfl, _⟩ := okWide_struct Try.underlying24 (hval 0 24 v0 rfl rfl)
  obtain ⟨x0, y0, g0⟩ : ∃ x, KCfg.K W x cs0.toList ∧ (CfgW) x := by obtain ⟨m, hm⟩ := k0; exact op_cfg _ _ _ m _ _ hm
  have k1 := h1
  have lt1 : ∀ x ∈ p1, x.block < W.heap.size := by obtain ⟨m, hm⟩ := k1; exact DataW.trod_lt m _ _ _ hm
  obtain ⟨a1, len1, cap1, rfl⟩ := okWide_slice Try.underlying25 (hval 1 25 v1 rfl rfl)
  obtain ⟨x1, y1, g1⟩ : ∃ x, KRow.K W x [.slice a1 len1 cap1] ∧ (fun xs => (∀ x ∈ xs, (Lit.int .i64 x).wf = true) ∧ xs.length ≤ maxLen) x := by obtain ⟨m, hm⟩ := k1; exact op_row _ _ _ m _ _ hm
  have k2 := h2
  have lt2 : ∀ x ∈ p2, x.block < W.heap.size := by obtain ⟨m, hm⟩ := k2; exact DataW.trod_lt m _ _ _ hm
  obtain ⟨a2, rfl, rfl, rfl, g2⟩ := open_int Try.underlying3 (hval 2 3 v2 rfl rfl) h2
  clear hA0 hval0
  refine (walk cs0 x0 a1 len1 cap1 x1 a2 W y0 g0 y1 g1 g2).mono fun e W' ⟨he, bel⟩ => ?_
  subst he
  exact ⟨_, rfl, _, _, _, [], _, [], hW', trodAll_mk1 (shut_bool Try.underlying4 _), (trodAll_cons_mk (Below.trod laidOut (by kernel_rfl) (of_decide_eq_true (by kernel_rfl)) k0 bel lt0) (trodAll_cons_mk (Below.trod laidOut (by kernel_rfl) (of_decide_eq_true (by kernel_rfl)) k1 bel lt1) (trodAll_cons_mk (Below.trod laidOut (by kernel_rfl) (of_decide_eq_true (by kernel_rfl)) k2 bel lt2) trodAll_mk0))), rfl, bel.frame _, fun h => by cases h⟩

theorem over : Rows.attnNobodyRow.holds Try.pinned (OpenSpec.ofChange Rows.attnNobodySpec) :=
  OpenClaim.holds_of_wide 7 Try.f7 rfl rfl rfl rfl rfl rfl rfl ⟨rfl, rfl, rfl, rfl, rfl⟩ rfl rfl rfl rfl rfl (by kernel_rfl) Try.func7 (by kernel_rfl)
    (of_decide_eq_true (by kernel_rfl)) (by unfold Func.isWrapper; first | (rw [if_pos (by decide +kernel)]; kernel_rfl) | (rw [if_neg (by decide +kernel)]; exact ⟨rfl, rfl⟩))
    (fun os started H enc _ => lifted os started H enc)

theorem proved : Rows.AttnNobodySaid := over
end Go.Proofs.Ytdfgmdmcdnnhfaa.attnNobody
