/- vec.Norm and vec.Soft give the document's answers, for every vector. -/
import Derived.Test.YtgedmelohiajjaaRows
import Derived.WalkKit
import Derived.ProofKit
import Derived.OpenShut
import Derived.ShutString
import Derived.ChangeOld
import Derived.Below
import Derived.Test.YtgedmelohiajjaaGbM
import Derived.Test.YtgedmelohiajjaaGbLaw8
namespace Go.Proofs.Ytgedmelohiajjaa.vecWeights
open Go.ChangeShapes Go.WideShapes Go.ChangeAt Go.RowKit
open Go.ChangeMaps (open_string shut_string)
set_option linter.unusedVariables false
set_option linter.unusedSimpArgs false
open Go.Proofs.YtgedmelohiajjaaW.PrintWords Go.Proofs.YtgedmelohiajjaaW.PrintLast Go.Proofs.YtgedmelohiajjaaW.PrintMore

theorem own : ownKnob Try.prog.godebug = none := by kernel_rfl
theorem laidOut : laidOutB Try.prog = true := by kernel_rfl

def IsRow (k : IntKind) (w : World) (a : Option Addr) (len cap : Nat) (zs : List Int) : Prop :=
  (a = none ∧ len = 0 ∧ cap = 0 ∧ zs = []) ∨
  ∃ x, a = some x ∧ len ≤ cap ∧ cap ≤ maxLen ∧ zs.length = cap ∧ (∀ i, i < zs.length → w.cell? (x.add i) = some (.int k (zs.getD i 0))) ∧ ∀ n ∈ zs, (Lit.int k n).wf = true

theorem walk (a0 : Option Addr) (len0 cap0 : Nat) (z0 : List Int) (w : World) (w0 : IsRow .i64 w a0 len0 cap0 z0) :
    Calls Try.prog 9 #[.slice a0 len0 cap0] w fun e w' => e = .returned (.bool true) ∧ Below w.heap.size w w' := by
  obtain ⟨xs, rfl, hxs, hcxs, -⟩ := isrow_C w0
  clear w0
  have hr := rows1 w 22 a0 cap0 xs hxs hcxs
  have HR := Lib.hid hr
  have HX := Lib.hid (fun (W : World) (hb : Below w.heap.size w W) => Kd.C_below hxs hb)
  clear hr hxs
  by_cases hf : farB [xs] = true
  · go_enter Try.func9, Try.ntmps9
    go_wp2_with fail
    refine (far_any _ _ [xs] _ HR.out (by simp)).mono ?_
    unfold FarR
    rw [hf]
    rintro e w' ⟨rfl, rfl⟩
    go_wp2_with fail
    refine (alive_any _).mono ?_
    rintro e w1 ⟨rfl, hb⟩
    have HB := Lib.hid hb
    clear hb
    go_wp2_with fail
    go_ret
    exact ⟨rfl, below_then (below_alloc (Below.refl _ w) _) (by simp) HB.out⟩
  · have hf' : farB [xs] = false := by simpa using hf
    have hn := far1 xs hf'
    have HF := Lib.hid hf'
    have hl1 : (vnorm xs).length ≤ 1000 := by unfold vnorm vmap; rw [tab_len]; omega
    have hl2 : (vsoft xs).length ≤ 1000 := by unfold vsoft; rw [tab_len]; omega
    clear hf hf'
    go_enter Try.func9, Try.ntmps9
    go_wp2_with fail
    refine (far_any _ _ [xs] _ HR.out (by simp)).mono ?_
    unfold FarR
    rw [HF.out]
    rintro e w' ⟨rfl, rfl⟩
    obtain ⟨W0, hW0⟩ : ∃ W0, w.alloc (.cells #[.slice a0 xs.length cap0] 22) = W0 := ⟨_, rfl⟩
    have HB0 := Lib.hid (show Below w.heap.size w W0 by rw [← hW0]; exact below_alloc (Below.refl _ w) _)
    rw [hW0]
    clear hW0
    go_wp2_with fail
    refine (norm_any _ _ xs W0 (HX.out _ HB0.out) hcxs (by omega)).mono ?_
    rintro e W1 ⟨v1, rfl, ho1, hb1⟩
    have HB1 := Lib.hid (below_then HB0.out HB0.out.size hb1)
    have HO1_1 := Lib.hid ho1
    clear ho1 hb1
    go_wp2_with fail
    refine (rnorm_vec _ _ xs W1 (HX.out _ HB1.out) hcxs (by omega)).mono ?_
    rintro e W2 ⟨v2, rfl, ho2, hb2⟩
    have HB2 := Lib.hid (below_then HB1.out HB1.out.size hb2)
    have HO1_2 := Lib.hid (HO1_1.out.below hb2)
    clear HO1_1
    have HO2_2 := Lib.hid ho2
    clear ho2 hb2
    obtain ⟨A1, k1, hv1, hk1, hC1⟩ := HO1_2.out.reads
    obtain ⟨A2, k2, hv2, hk2, hC2⟩ := HO2_2.out.reads
    subst hv1 hv2
    have HC1 := Lib.hid hC1
    have HC2 := Lib.hid hC2
    clear hC1 hC2 HO1_2 HO2_2
    go_wp2_with fail
    refine (same_any _ _ _ _ _ _ W2 HC1.out HC2.out (by omega) (by omega)).mono ?_
    unfold SameR
    rw [decide_eq_true rfl]
    rintro e W3 ⟨rfl, hd3⟩
    have HB3 := Lib.hid (HB2.out.trans (hd3.below.mono HB2.out.size))
    clear hd3
    go_wp2_with fail
    refine (soft_any _ _ xs W3 (HX.out _ HB3.out) hcxs (by omega)).mono ?_
    rintro e W4 ⟨v4, rfl, ho4, hb4⟩
    have HB4 := Lib.hid (below_then HB3.out HB3.out.size hb4)
    have HO4_4 := Lib.hid ho4
    clear ho4 hb4
    go_wp2_with fail
    refine (rsoft_any _ _ xs W4 (HX.out _ HB4.out) hcxs (by omega)).mono ?_
    rintro e W5 ⟨v5, rfl, ho5, hb5⟩
    have HB5 := Lib.hid (below_then HB4.out HB4.out.size hb5)
    have HO4_5 := Lib.hid (HO4_4.out.below hb5)
    clear HO4_4
    have HO5_5 := Lib.hid ho5
    clear ho5 hb5
    obtain ⟨A4, k4, hv4, hk4, hC4⟩ := HO4_5.out.reads
    obtain ⟨A5, k5, hv5, hk5, hC5⟩ := HO5_5.out.reads
    subst hv4 hv5
    have HC4 := Lib.hid hC4
    have HC5 := Lib.hid hC5
    clear hC4 hC5 HO4_5 HO5_5
    go_wp2_with fail
    refine (same_any _ _ _ _ _ _ W5 HC4.out HC5.out (by omega) (by omega)).mono ?_
    unfold SameR
    rw [decide_eq_true rfl]
    rintro e W6 ⟨rfl, hd6⟩
    have HB6 := Lib.hid (HB5.out.trans (hd6.below.mono HB5.out.size))
    clear hd6
    go_wp2_with fail
    refine (alive_any _).mono ?_
    rintro e W7 ⟨rfl, hb7⟩
    have HB7 := Lib.hid (below_then HB6.out HB6.out.size hb7)
    clear hb7
    go_wp2_with fail
    go_ret
    exact ⟨rfl, HB7.out⟩

set_option maxRecDepth 100000 in
theorem lifted (os : Os) (started : os.Started) (H : Type) (enc : TypeId × Value → H) :
    ReturnsInHanded {} Try.checked os 9 .any (Rows.vecWeightsSpec.pre6 enc Try.prog Try.f9 Rows.vecWeightsRow.domain false) (Rows.vecWeightsSpec.post enc Try.prog Try.f9 false true false false) := by
  refine returnsInHanded_of_change (C := Try.checked) own started (by kernel_rfl) Try.func9
    (ChangeSpec.witness6 (enc := enc) (C := Try.checked) false ⟨#[], #[.slice none 0 0], []⟩ 8 (by kernel_rfl) (by kernel_rfl) (by kernel_rfl) (by kernel_rfl)) ?_
  intro W base args ds gs before hval0 hW hcnd _
  have hval : ∀ (j : Nat) t v, Try.f9.params[j]? = some t → args[j]? = some v → Value.okWide Try.prog W .any base t v := hval0
  have hW' := hW
  obtain ⟨p, q, hA0, hV, rfl, hfz, hnd⟩ := hW
  have hA : DataW.TrodAll enc Try.prog W 0 (fun _ => true) true Try.f9.params.toList args.toList ds p := hA0
  rw [Try.params9] at hA hval
  obtain ⟨v0, vs0, d0, ds0, p0, q0, hargs, rfl, rfl, h0, r0⟩ := trodAll_cons hA
  obtain ⟨rfl, rfl, rfl⟩ := trodAll_nil r0
  obtain rfl : args = #[v0] := by cases args; simp_all
  obtain ⟨rfl, rfl⟩ := trodVars_none hV
  obtain ⟨a0, len0, cap0, rfl⟩ := okWide_slice Try.underlying22 (hval 0 22 v0 rfl rfl)
  have k0 := h0
  have lt0 : ∀ x ∈ p0, x.block < W.heap.size := by obtain ⟨m, hm⟩ := k0; exact DataW.trod_lt m _ _ _ hm
  obtain ⟨z0, w0⟩ : ∃ zs, IsRow .i64 W a0 len0 cap0 zs := by
    obtain ⟨fuel, hf⟩ := h0
    rcases open_ints Try.underlying22 Try.underlying2 (by kernel_rfl) hf with ⟨hcs, _⟩ | ⟨x, l, c, zs, hcs, _, hl, hm, hz, _, hcell, hwz⟩
    · simp [Value.cells] at hcs
      obtain ⟨rfl, rfl, rfl⟩ := hcs
      exact ⟨[], .inl ⟨rfl, rfl, rfl, rfl⟩⟩
    · simp [Value.cells] at hcs
      obtain ⟨rfl, rfl, rfl⟩ := hcs
      exact ⟨zs, .inr ⟨_, rfl, hl, hm, by simpa using hz, hcell, hwz⟩⟩
  clear hA0 hval0
  refine (walk a0 len0 cap0 z0 W w0).mono fun e W' ⟨he, bel⟩ => ?_
  subst he
  exact ⟨_, rfl, _, _, _, [], _, [], hW', trodAll_mk1 (shut_bool Try.underlying4 _), (trodAll_cons_mk (Below.trod laidOut (by kernel_rfl) (of_decide_eq_true (by kernel_rfl)) k0 bel lt0) trodAll_mk0), rfl, bel.frame _, fun h => by cases h⟩

theorem over : Rows.vecWeightsRow.holds Try.pinned (OpenSpec.ofChange Rows.vecWeightsSpec) :=
  OpenClaim.holds_of_wide 9 Try.f9 rfl rfl rfl rfl rfl rfl rfl ⟨rfl, rfl, rfl, rfl, rfl⟩ rfl rfl rfl rfl rfl (by kernel_rfl) Try.func9 (by kernel_rfl)
    (of_decide_eq_true (by kernel_rfl)) (by unfold Func.isWrapper; first | (rw [if_pos (by decide +kernel)]; kernel_rfl) | (rw [if_neg (by decide +kernel)]; exact ⟨rfl, rfl⟩))
    (fun os started H enc _ => lifted os started H enc)

theorem proved : Rows.VecWeightsSaid := over
end Go.Proofs.Ytgedmelohiajjaa.vecWeights
