/- vec.Dot, vec.Add, vec.Scale and vec.Relu give the document's answers, for every two vectors and every number. -/
import Derived.Test.YtgedmelohiajjaaRows
import Derived.WalkKit
import Derived.ProofKit
import Derived.OpenShut
import Derived.ShutString
import Derived.ChangeOld
import Derived.Below
import Derived.Test.YtgedmelohiajjaaGbM
import Derived.Test.YtgedmelohiajjaaGbLaw8
namespace Go.Proofs.Ytgedmelohiajjaa.vecSums
open Go.ChangeShapes Go.WideShapes Go.ChangeAt Go.RowKit
open Go.ChangeMaps (open_string shut_string)
set_option linter.unusedVariables false
set_option linter.unusedSimpArgs false
open Go.Proofs.YtgedmelohiajjaaW.PrintWords Go.Proofs.YtgedmelohiajjaaW.PrintLast Go.Proofs.YtgedmelohiajjaaW.PrintMore

theorem own : ownKnob Try.prog.godebug = none := by kernel_rfl
theorem laidOut : laidOutB Try.prog = true := by kernel_rfl

def IsRow (k : IntKind) (w : World) (a : Option Addr) (len cap : Nat) (zs : List Int) : Prop :=
  (a = none ∧ len = 0 ∧ cap = 0 ∧ zs = []) ∨
  ∃ x, a = some x ∧ len ≤ cap ∧ cap ≤ maxLen ∧ zs.length = cap ∧ (∀ i, i < zs.length → w.cell? (x.add i) = some (.int k (zs.getD i 0))) ∧ ∀ n ∈ zs, (Lit.int k n).wf = true

theorem walk (a0 : Option Addr) (len0 cap0 : Nat) (z0 : List Int) (a1 : Option Addr) (len1 cap1 : Nat) (z1 : List Int) (a2 : Int) (w : World) (w0 : IsRow .i64 w a0 len0 cap0 z0) (w1 : IsRow .i64 w a1 len1 cap1 z1) (w2 : (Lit.int .i64 a2).wf = true) :
    Calls Try.prog 7 #[.slice a0 len0 cap0, .slice a1 len1 cap1, .int .i64 a2] w fun e w' => e = .returned (.bool true) ∧ Below w.heap.size w w' := by
  obtain ⟨xs, rfl, hxs, hcxs, -⟩ := isrow_C w0
  obtain ⟨ys, rfl, hys, hcys, -⟩ := isrow_C w1
  clear w0 w1
  have hr := rows2 w 22 a0 a1 cap0 cap1 xs ys hxs hys hcxs hcys
  have HR := Lib.hid hr
  have HX := Lib.hid (fun (W : World) (hb : Below w.heap.size w W) => Kd.C_below hxs hb)
  have HY := Lib.hid (fun (W : World) (hb : Below w.heap.size w W) => Kd.C_below hys hb)
  clear hr hxs hys
  by_cases hf : farB [xs, ys] = true
  · go_enter Try.func7, Try.ntmps7
    go_wp2_with fail
    refine (far_any _ _ [xs, ys] _ HR.out (by simp)).mono ?_
    unfold FarR
    rw [hf]
    rintro e w' ⟨rfl, rfl⟩
    go_wp2_with fail
    refine (alive_any _).mono ?_
    rintro e w1 ⟨rfl, hb⟩
    have HB := Lib.hid hb
    clear hb
    go_wp2_with fail
    go_ret
    exact ⟨rfl, below_then (below_alloc (Below.refl _ w) _) (by simp) HB.out⟩
  · have hf' : farB [xs, ys] = false := by simpa using hf
    obtain ⟨hn, hm⟩ := far2 xs ys hf'
    have HF := Lib.hid hf'
    have hl1 := vadd_len xs ys
    have hl2 : (vscale xs a2).length ≤ 1000 := by rw [vscale_len]; omega
    have hl3 : (vrelu xs).length ≤ 1000 := by unfold vrelu vmap; rw [tab_len]; omega
    clear hf hf'
    go_enter Try.func7, Try.ntmps7
    go_wp2_with fail
    refine (far_any _ _ [xs, ys] _ HR.out (by simp)).mono ?_
    unfold FarR
    rw [HF.out]
    rintro e w' ⟨rfl, rfl⟩
    obtain ⟨W0, hW0⟩ : ∃ W0, w.alloc (.cells #[.slice a0 xs.length cap0, .slice a1 ys.length cap1] 22) = W0 := ⟨_, rfl⟩
    have HB0 := Lib.hid (show Below w.heap.size w W0 by rw [← hW0]; exact below_alloc (Below.refl _ w) _)
    rw [hW0]
    clear hW0
    go_wp2_with fail
    refine (dot_any _ _ _ _ xs ys W0 (HX.out _ HB0.out) (HY.out _ HB0.out) hcxs hcys (by omega) (by omega)).mono ?_
    rintro e W1 ⟨rfl, hd1⟩
    have HB1 := Lib.hid (HB0.out.trans (hd1.below.mono HB0.out.size))
    clear hd1
    go_wp2_with fail
    refine (rdot_any _ _ _ _ xs ys W1 (HX.out _ HB1.out) (HY.out _ HB1.out) hcxs hcys (by omega) (by omega)).mono ?_
    rintro e W2 ⟨rfl, hd2⟩
    have HB2 := Lib.hid (HB1.out.trans (hd2.below.mono HB1.out.size))
    clear hd2
    go_wp2_with fail
    refine (vadd_any _ _ _ _ xs ys W2 (HX.out _ HB2.out) (HY.out _ HB2.out) hcxs hcys (by omega) (by omega)).mono ?_
    rintro e W3 ⟨v3, rfl, ho3, hb3⟩
    have HB3 := Lib.hid (below_then HB2.out HB2.out.size hb3)
    have HO3_3 := Lib.hid ho3
    clear ho3 hb3
    go_wp2_with fail
    refine (radd_vec _ _ _ _ xs ys W3 (HX.out _ HB3.out) (HY.out _ HB3.out) hcxs hcys (by omega) (by omega)).mono ?_
    rintro e W4 ⟨v4, rfl, ho4, hb4⟩
    have HB4 := Lib.hid (below_then HB3.out HB3.out.size hb4)
    have HO3_4 := Lib.hid (HO3_3.out.below hb4)
    clear HO3_3
    have HO4_4 := Lib.hid ho4
    clear ho4 hb4
    obtain ⟨A3, k3, hv3, hk3, hC3⟩ := HO3_4.out.reads
    obtain ⟨A4, k4, hv4, hk4, hC4⟩ := HO4_4.out.reads
    subst hv3 hv4
    have HC3 := Lib.hid hC3
    have HC4 := Lib.hid hC4
    clear hC3 hC4 HO3_4 HO4_4
    go_wp2_with fail
    refine (same_any _ _ _ _ _ _ W4 HC3.out HC4.out (by omega) (by omega)).mono ?_
    unfold SameR
    rw [decide_eq_true rfl]
    rintro e W5 ⟨rfl, hd5⟩
    have HB5 := Lib.hid (HB4.out.trans (hd5.below.mono HB4.out.size))
    clear hd5
    go_wp2_with fail
    refine (scale_any _ _ xs a2 W5 (HX.out _ HB5.out) hcxs (by omega)).mono ?_
    rintro e W6 ⟨v6, rfl, ho6, hb6⟩
    have HB6 := Lib.hid (below_then HB5.out HB5.out.size hb6)
    have HO6_6 := Lib.hid ho6
    clear ho6 hb6
    go_wp2_with fail
    refine (rscale_vec _ _ xs a2 W6 (HX.out _ HB6.out) hcxs (by omega)).mono ?_
    rintro e W7 ⟨v7, rfl, ho7, hb7⟩
    have HB7 := Lib.hid (below_then HB6.out HB6.out.size hb7)
    have HO6_7 := Lib.hid (HO6_6.out.below hb7)
    clear HO6_6
    have HO7_7 := Lib.hid ho7
    clear ho7 hb7
    obtain ⟨A6, k6, hv6, hk6, hC6⟩ := HO6_7.out.reads
    obtain ⟨A7, k7, hv7, hk7, hC7⟩ := HO7_7.out.reads
    subst hv6 hv7
    have HC6 := Lib.hid hC6
    have HC7 := Lib.hid hC7
    clear hC6 hC7 HO6_7 HO7_7
    go_wp2_with fail
    refine (same_any _ _ _ _ _ _ W7 HC6.out HC7.out (by omega) (by omega)).mono ?_
    unfold SameR
    rw [decide_eq_true rfl]
    rintro e W8 ⟨rfl, hd8⟩
    have HB8 := Lib.hid (HB7.out.trans (hd8.below.mono HB7.out.size))
    clear hd8
    go_wp2_with fail
    refine (relu_any _ _ xs W8 (HX.out _ HB8.out) hcxs (by omega)).mono ?_
    rintro e W9 ⟨v9, rfl, ho9, hb9⟩
    have HB9 := Lib.hid (below_then HB8.out HB8.out.size hb9)
    have HO9_9 := Lib.hid ho9
    clear ho9 hb9
    go_wp2_with fail
    refine (rrelu_vec _ _ xs W9 (HX.out _ HB9.out) hcxs (by omega)).mono ?_
    rintro e W10 ⟨v10, rfl, ho10, hb10⟩
    have HB10 := Lib.hid (below_then HB9.out HB9.out.size hb10)
    have HO9_10 := Lib.hid (HO9_9.out.below hb10)
    clear HO9_9
    have HO10_10 := Lib.hid ho10
    clear ho10 hb10
    obtain ⟨A9, k9, hv9, hk9, hC9⟩ := HO9_10.out.reads
    obtain ⟨A10, k10, hv10, hk10, hC10⟩ := HO10_10.out.reads
    subst hv9 hv10
    have HC9 := Lib.hid hC9
    have HC10 := Lib.hid hC10
    clear hC9 hC10 HO9_10 HO10_10
    go_wp2_with fail
    refine (same_any _ _ _ _ _ _ W10 HC9.out HC10.out (by omega) (by omega)).mono ?_
    unfold SameR
    rw [decide_eq_true rfl]
    rintro e W11 ⟨rfl, hd11⟩
    have HB11 := Lib.hid (HB10.out.trans (hd11.below.mono HB10.out.size))
    clear hd11
    go_wp2_with fail
    refine (alive_any _).mono ?_
    rintro e W12 ⟨rfl, hb12⟩
    have HB12 := Lib.hid (below_then HB11.out HB11.out.size hb12)
    clear hb12
    go_wp2_with fail
    go_ret
    exact ⟨rfl, HB12.out⟩

set_option maxRecDepth 100000 in
theorem lifted (os : Os) (started : os.Started) (H : Type) (enc : TypeId × Value → H) :
    ReturnsInHanded {} Try.checked os 7 .any (Rows.vecSumsSpec.pre6 enc Try.prog Try.f7 Rows.vecSumsRow.domain false) (Rows.vecSumsSpec.post enc Try.prog Try.f7 false true false false) := by
  refine returnsInHanded_of_change (C := Try.checked) own started (by kernel_rfl) Try.func7
    (ChangeSpec.witness6 (enc := enc) (C := Try.checked) false ⟨#[], #[.slice none 0 0, .slice none 0 0, .int .i64 0], []⟩ 8 (by kernel_rfl) (by kernel_rfl) (by kernel_rfl) (by kernel_rfl)) ?_
  intro W base args ds gs before hval0 hW hcnd _
  have hval : ∀ (j : Nat) t v, Try.f7.params[j]? = some t → args[j]? = some v → Value.okWide Try.prog W .any base t v := hval0
  have hW' := hW
  obtain ⟨p, q, hA0, hV, rfl, hfz, hnd⟩ := hW
  have hA : DataW.TrodAll enc Try.prog W 0 (fun _ => true) true Try.f7.params.toList args.toList ds p := hA0
  rw [Try.params7] at hA hval
  obtain ⟨v0, vs0, d0, ds0, p0, q0, hargs, rfl, rfl, h0, r0⟩ := trodAll_cons hA
  obtain ⟨v1, vs1, d1, ds1, p1, q1, rfl, rfl, rfl, h1, r1⟩ := trodAll_cons r0
  obtain ⟨v2, vs2, d2, ds2, p2, q2, rfl, rfl, rfl, h2, r2⟩ := trodAll_cons r1
  obtain ⟨rfl, rfl, rfl⟩ := trodAll_nil r2
  obtain rfl : args = #[v0, v1, v2] := by cases args; simp_all
  obtain ⟨rfl, rfl⟩ := trodVars_none hV
  obtain ⟨a0, len0, cap0, rfl⟩ := okWide_slice Try.underlying22 (hval 0 22 v0 rfl rfl)
  have k0 := h0
  have lt0 : ∀ x ∈ p0, x.block < W.heap.size := by obtain ⟨m, hm⟩ := k0; exact DataW.trod_lt m _ _ _ hm
  obtain ⟨z0, w0⟩ : ∃ zs, IsRow .i64 W a0 len0 cap0 zs := by
    obtain ⟨fuel, hf⟩ := h0
    rcases open_ints Try.underlying22 Try.underlying2 (by kernel_rfl) hf with ⟨hcs, _⟩ | ⟨x, l, c, zs, hcs, _, hl, hm, hz, _, hcell, hwz⟩
    · simp [Value.cells] at hcs
      obtain ⟨rfl, rfl, rfl⟩ := hcs
      exact ⟨[], .inl ⟨rfl, rfl, rfl, rfl⟩⟩
    · simp [Value.cells] at hcs
      obtain ⟨rfl, rfl, rfl⟩ := hcs
      exact ⟨zs, .inr ⟨_, rfl, hl, hm, by simpa using hz, hcell, hwz⟩⟩
  obtain ⟨a1, len1, cap1, rfl⟩ := okWide_slice Try.underlying22 (hval 1 22 v1 rfl rfl)
  have k1 := h1
  have lt1 : ∀ x ∈ p1, x.block < W.heap.size := by obtain ⟨m, hm⟩ := k1; exact DataW.trod_lt m _ _ _ hm
  obtain ⟨z1, w1⟩ : ∃ zs, IsRow .i64 W a1 len1 cap1 zs := by
    obtain ⟨fuel, hf⟩ := h1
    rcases open_ints Try.underlying22 Try.underlying2 (by kernel_rfl) hf with ⟨hcs, _⟩ | ⟨x, l, c, zs, hcs, _, hl, hm, hz, _, hcell, hwz⟩
    · simp [Value.cells] at hcs
      obtain ⟨rfl, rfl, rfl⟩ := hcs
      exact ⟨[], .inl ⟨rfl, rfl, rfl, rfl⟩⟩
    · simp [Value.cells] at hcs
      obtain ⟨rfl, rfl, rfl⟩ := hcs
      exact ⟨zs, .inr ⟨_, rfl, hl, hm, by simpa using hz, hcell, hwz⟩⟩
  obtain ⟨a2, rfl, rfl, rfl, w2⟩ := open_int Try.underlying2 (hval 2 2 v2 rfl rfl) h2
  clear hA0 hval0
  refine (walk a0 len0 cap0 z0 a1 len1 cap1 z1 a2 W w0 w1 w2).mono fun e W' ⟨he, bel⟩ => ?_
  subst he
  exact ⟨_, rfl, _, _, _, [], _, [], hW', trodAll_mk1 (shut_bool Try.underlying4 _), (trodAll_cons_mk (Below.trod laidOut (by kernel_rfl) (of_decide_eq_true (by kernel_rfl)) k0 bel lt0) (trodAll_cons_mk (Below.trod laidOut (by kernel_rfl) (of_decide_eq_true (by kernel_rfl)) k1 bel lt1) (trodAll_cons_mk (shut_int Try.underlying2 w2) trodAll_mk0))), rfl, bel.frame _, fun h => by cases h⟩

theorem over : Rows.vecSumsRow.holds Try.pinned (OpenSpec.ofChange Rows.vecSumsSpec) :=
  OpenClaim.holds_of_wide 7 Try.f7 rfl rfl rfl rfl rfl rfl rfl ⟨rfl, rfl, rfl, rfl, rfl⟩ rfl rfl rfl rfl rfl (by kernel_rfl) Try.func7 (by kernel_rfl)
    (of_decide_eq_true (by kernel_rfl)) (by unfold Func.isWrapper; first | (rw [if_pos (by decide +kernel)]; kernel_rfl) | (rw [if_neg (by decide +kernel)]; exact ⟨rfl, rfl⟩))
    (fun os started H enc _ => lifted os started H enc)

theorem proved : Rows.VecSumsSaid := over
end Go.Proofs.Ytgedmelohiajjaa.vecSums
