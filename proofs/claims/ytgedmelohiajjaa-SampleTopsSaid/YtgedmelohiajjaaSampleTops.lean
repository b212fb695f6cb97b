/- What is drawn is one of the greatest ones; of one, or without heat, it is the likeliest. -/
import Derived.Test.YtgedmelohiajjaaRows
import Derived.WalkKit
import Derived.ProofKit
import Derived.OpenShut
import Derived.ShutString
import Derived.ChangeOld
import Derived.Below
import Derived.Lib.SmallJoins
import Derived.Test.YtgedmelohiajjaaGbSamL
import Derived.Test.YtgedmelohiajjaaGbSamT
namespace Go.Proofs.Ytgedmelohiajjaa.sampleTops
open Go.ChangeShapes Go.WideShapes Go.ChangeAt Go.RowKit
open Go.ChangeMaps (open_string shut_string)
set_option linter.unusedVariables false
set_option linter.unusedSimpArgs false
open Go.Proofs.YtgedmelohiajjaaW.PrintWords Go.Proofs.YtgedmelohiajjaaW.PrintLast Go.Proofs.YtgedmelohiajjaaW.PrintMore

theorem own : ownKnob Try.prog.godebug = none := by kernel_rfl
theorem laidOut : laidOutB Try.prog = true := by kernel_rfl
theorem cells43 : Try.prog.cellsOf 43 = 4 := by kernel_rfl

def IsRow (k : IntKind) (w : World) (a : Option Addr) (len cap : Nat) (zs : List Int) : Prop :=
  (a = none ∧ len = 0 ∧ cap = 0 ∧ zs = []) ∨
  ∃ x, a = some x ∧ len ≤ cap ∧ cap ≤ maxLen ∧ zs.length = cap ∧ (∀ i, i < zs.length → w.cell? (x.add i) = some (.int k (zs.getD i 0))) ∧ ∀ n ∈ zs, (Lit.int k n).wf = true

attribute [local go_sem] gb_max2 gb_min2 gb_max_two gb_min_two gb_max_three gb_min_three
set_option maxRecDepth 100000 in
set_option maxHeartbeats 1000000 in
theorem walk (a0 : Option Addr) (len0 cap0 : Nat) (z0 : List Int) (b1_0 b1_1 b1_2 b1_3 : Int) (w : World) (w0 : IsRow .i64 w a0 len0 cap0 z0) (w1_0 : (Lit.int .i64 b1_0).wf = true) (w1_1 : (Lit.int .i64 b1_1).wf = true) (w1_2 : (Lit.int .u64 b1_2).wf = true) (w1_3 : (Lit.int .u64 b1_3).wf = true) :
    Calls Try.prog 11 #[.slice a0 len0 cap0, .agg #[.int .i64 b1_0, .int .i64 b1_1, .int .u64 b1_2, .int .u64 b1_3]] w fun e w' => e = .returned (.bool true) ∧ Below w.heap.size w w' := by
  obtain ⟨xs, rfl, hxs, hcxs, -⟩ := isrow_C w0
  have HX := Lib.hid (fun (W : World) (hb : Below w.heap.size w W) => Kd.C_below hxs hb)
  have hh : b1_1 ≤ 9223372036854775807 := by simp [Lit.wf, IntKind.min, IntKind.max, IntKind.signed, IntKind.bits] at w1_1; omega
  clear w0 w1_0 w1_1 w1_2 w1_3 hxs
  by_cases hf : 200 < xs.length
  · go_enter Try.func11, Try.ntmps11
    go_wp2_with fail
    refine (far11_any _ _ _ _).mono ?_
    unfold Far11
    rw [decide_eq_true hf]
    rintro e w' ⟨rfl, rfl⟩
    go_wp2_with fail
    refine (alive11_any _).mono ?_
    rintro e w1 ⟨rfl, hb⟩
    have HB := Lib.hid hb
    clear hb
    go_wp2_with fail
    go_ret
    exact ⟨rfl, below_then (below_alloc (Below.refl _ w) _) (by simp) HB.out⟩
  · go_enter Try.func11, Try.ntmps11
    go_wp2_with fail
    refine (far11_any _ _ _ _).mono ?_
    unfold Far11
    rw [decide_eq_false hf]
    rintro e w' ⟨rfl, rfl⟩
    obtain ⟨W0, hW0⟩ : ∃ W0, w.alloc (.cells #[.int .i64 b1_0, .int .i64 b1_1, .int .u64 b1_2, .int .u64 b1_3] 43) = W0 := ⟨_, rfl⟩
    obtain ⟨B, hB⟩ : ∃ B, w.heap.size = B := ⟨_, rfl⟩
    have HS0 := Lib.hid (show Box4 B w b1_0 b1_1 b1_2 b1_3 W0 by
      rw [← hW0, ← hB]
      exact ⟨by simp, by simp, by simp, by simp, Lib.hid (below_alloc (Below.refl _ w) _)⟩)
    rw [hW0, hB]
    have HBB := Lib.hid hB
    have hle : xs.length ≤ 4096 := by omega
    have HLE := Lib.hid hle
    clear hW0 hB hf
    obtain ⟨k0, k1, k2, k3, -⟩ := HS0.out
    go_wp2_with fail
    refine (draw_any _ _ xs _ _ _ _ _ (HX.out _ HS0.out.below) hcxs hle hh).mono ?_
    rintro e W1 ⟨rfl, hb1⟩
    have HS1 := Lib.hid (HS0.out.step hb1)
    clear hb1 k0 k1 k2 k3
    obtain ⟨k0, k1, k2, k3, -⟩ := HS1.out
    by_cases hz : xs.length = 0
    · have hd := vdraw_nil xs b1_0 b1_1 b1_2 b1_3 hz
      obtain ⟨n, hnn⟩ : ∃ n, xs.length = n := ⟨_, rfl⟩
      rw [hd]
      rw [hz] at *
      clear hd k0 k1 k2 k3
      go_wp2_with fail
      refine (alive11_any _).mono ?_
      rintro e W2 ⟨rfl, hb2⟩
      have HS2 := Lib.hid (HS1.out.step hb2)
      clear hb2
      go_wp2_with fail
      go_ret
      exact ⟨rfl, HS2.out.below⟩
    · have hz2 : 0 < xs.length := by omega
      have HM := Lib.hid (fun h => vdraw_mem xs b1_0 b1_1 b1_2 b1_3 hz2 h)
      have HO := Lib.hid (vdraw_one xs b1_1 b1_2 b1_3 hz2)
      have HN := Lib.hid (vdraw_cold xs b1_0 (min b1_1 0) b1_2 b1_3 (by omega))
      have HCo := Lib.hid (fun h => vdraw_cold xs b1_0 b1_1 b1_2 b1_3 h)
      obtain ⟨D, hD⟩ : ∃ D, vdraw xs b1_0 b1_1 b1_2 b1_3 = D := ⟨_, rfl⟩
      rw [hD] at HM HCo ⊢
      clear hD
      go_wp2_with fail
      refine (top_any _ _ xs (max b1_0 1) W1 (HX.out _ HS1.out.below) hcxs hle).mono ?_
      rintro e W2 ⟨v2, rfl, ho2, hb2⟩
      have HS2 := Lib.hid (HS1.out.step hb2)
      clear hb2 k0 k1 k2 k3
      obtain ⟨m, hm⟩ : ∃ m, (vtop xs (max b1_0 1)).length = m := ⟨_, rfl⟩
      obtain ⟨L, hL⟩ : ∃ L, vtop xs (max b1_0 1) = L := ⟨_, rfl⟩
      rw [hL] at hm ho2 HM
      rw [hm] at HM
      obtain ⟨A1, c1, rfl, hc1, hC1⟩ := ho2.reads_n hm
      have HC1 := Lib.hid hC1
      have HML := Lib.hid hm
      have hm9 : m ≤ 9223372036854775807 := by rw [← hm]; exact hC1.2.1
      clear hL hm ho2 hC1
      go_wp2_with fail
      go_loop [6, 38] (fun v s => ∃ (i : Nat) (fd : Bool), v = .bool fd ∧ s = .int .i64 i ∧ i ≤ m ∧ Hid (fd = true ↔ ∃ j, j < i ∧ L.getD j 0 = D)) (fun _ s => m - (intOf s).toNat)
      case atStart => exact ⟨0, false, rfl, rfl, by omega, Lib.hid (by simp)⟩
      case round =>
        obtain ⟨i, fd, rfl, rfl, hi, hfd⟩ := hrel
        by_cases him : i < m
        · obtain ⟨b1, e1, q1⟩ := at_nat HC1.out i (by rw [HML.out]; exact him)
          subst e1
          have HF := Lib.hid (show ∀ g : Bool, (g = true ↔ (fd = true ∨ L.getD i 0 = D)) → (g = true ↔ ∃ j, j < i + 1 ∧ L.getD j 0 = D) by
            intro g hg
            rw [hg, hfd.out]
            constructor
            · rintro (⟨j, h1, h2⟩ | h)
              · exact ⟨j, by omega, h2⟩
              · exact ⟨i, by omega, h⟩
            · rintro ⟨j, h1, h2⟩
              by_cases hji : j = i
              · subst hji; exact .inr h2
              · exact .inl ⟨j, by omega, h2⟩)
          obtain ⟨x, hx⟩ : ∃ x, L.getD i 0 = x := ⟨_, rfl⟩
          rw [hx] at q1 HF
          clear hx
          cases fd with
          | true =>
            go_wp2_with fail
            go_round
            case rel => exact ⟨i + 1, true, rfl, by go_num, by omega, Lib.hid (HF.out true (by simp))⟩
            case measure => simp [intOf]; omega
          | false =>
            by_cases hxd : x = D
            · have g1 : (x == D) = true := by simpa using hxd
              have HG := Lib.hid (HF.out true (by simp [hxd]))
              clear hxd HF
              go_wp2_with fail
              go_round
              case rel => exact ⟨i + 1, true, rfl, by go_num, by omega, Lib.hid HG.out⟩
              case measure => simp [intOf]; omega
            · have g1 : (x == D) = false := by simpa using hxd
              have HG := Lib.hid (HF.out false (by simp [hxd]))
              clear HF
              go_wp2_with fail
              go_round
              case rel => exact ⟨i + 1, false, rfl, by go_num, by omega, Lib.hid HG.out⟩
              case measure => simp [intOf]; omega
        · obtain rfl : i = m := by omega
          obtain ⟨k0, k1, k2, k3, -⟩ := HS2.out
          go_wp2_with fail
          refine (draw_any _ _ xs _ _ _ _ _ (HX.out _ HS2.out.below) hcxs hle hh).mono ?_
          rw [HO.out]
          rintro e W3 ⟨rfl, hb3⟩
          have HS3 := Lib.hid (HS2.out.step hb3)
          clear hb3 k0 k1 k2 k3
          obtain ⟨k0, k1, k2, k3, -⟩ := HS3.out
          go_wp2_with fail
          refine (draw_any _ _ xs _ _ _ _ _ (HX.out _ HS3.out.below) hcxs hle (by omega)).mono ?_
          rw [HN.out]
          rintro e W4 ⟨rfl, hb4⟩
          have HS4 := Lib.hid (HS3.out.step hb4)
          clear hb4 k0 k1 k2 k3
          obtain ⟨k0, k1, k2, k3, -⟩ := HS4.out
          obtain ⟨V, hV⟩ : ∃ V, vbest xs = V := ⟨_, rfl⟩
          rw [hV] at HCo ⊢
          have HV := Lib.hid hV
          clear hV
          cases fd with
          | true =>
            go_wp2_with fail
            refine (sbest_any _ _ xs _ (HX.out _ HS4.out.below) hcxs hle).mono ?_
            rw [HV.out]
            rintro e W5 ⟨rfl, hb5⟩
            have HS5 := Lib.hid (HS4.out.step hb5)
            clear hb5 k0 k1 k2 k3
            go_wp2_with fail
            refine (sbest_any _ _ xs _ (HX.out _ HS5.out.below) hcxs hle).mono ?_
            rw [HV.out]
            rintro e W6 ⟨rfl, hb6⟩
            have HS6 := Lib.hid (HS5.out.step hb6)
            clear hb6
            go_wp2_with fail
            refine (alive11_any _).mono ?_
            rintro e W7 ⟨rfl, hb7⟩
            have HS7 := Lib.hid (HS6.out.step hb7)
            clear hb7
            go_wp2_with fail
            go_ret
            exact ⟨rfl, HS7.out.below⟩
          | false =>
            have hcold : b1_1 < 1 := by
              apply Classical.byContradiction
              intro h
              have := hfd.out.2 (HM.out (by omega))
              cases this
            have g1 : decide (b1_1 < 1) = true := decide_eq_true hcold
            have hDV := HCo.out hcold
            subst hDV
            clear hcold
            go_wp2_with fail
            refine (sbest_any _ _ xs _ (HX.out _ HS4.out.below) hcxs hle).mono ?_
            rw [HV.out]
            rintro e W8 ⟨rfl, hb8⟩
            have HS8 := Lib.hid (HS4.out.step hb8)
            clear hb8 k0 k1 k2 k3
            go_wp2_with fail
            refine (sbest_any _ _ xs _ (HX.out _ HS8.out.below) hcxs hle).mono ?_
            rw [HV.out]
            rintro e W5 ⟨rfl, hb5⟩
            have HS5 := Lib.hid (HS8.out.step hb5)
            clear hb5
            go_wp2_with fail
            refine (sbest_any _ _ xs _ (HX.out _ HS5.out.below) hcxs hle).mono ?_
            rw [HV.out]
            rintro e W6 ⟨rfl, hb6⟩
            have HS6 := Lib.hid (HS5.out.step hb6)
            clear hb6
            go_wp2_with fail
            refine (alive11_any _).mono ?_
            rintro e W7 ⟨rfl, hb7⟩
            have HS7 := Lib.hid (HS6.out.step hb7)
            clear hb7
            go_wp2_with fail
            go_ret
            exact ⟨rfl, HS7.out.below⟩

set_option maxRecDepth 100000 in
theorem lifted (os : Os) (started : os.Started) (H : Type) (enc : TypeId × Value → H) :
    ReturnsInHanded {} Try.checked os 11 .any (Rows.sampleTopsSpec.pre6 enc Try.prog Try.f11 Rows.sampleTopsRow.domain false) (Rows.sampleTopsSpec.post enc Try.prog Try.f11 false true false false) := by
  refine returnsInHanded_of_change (C := Try.checked) own started (by kernel_rfl) Try.func11
    (ChangeSpec.witness6 (enc := enc) (C := Try.checked) false ⟨#[], #[.slice none 0 0, .agg #[.int .i64 0, .int .i64 0, .int .u64 0, .int .u64 0]], []⟩ 8 (by kernel_rfl) (by kernel_rfl) (by kernel_rfl) (by kernel_rfl)) ?_
  intro W base args ds gs before hval0 hW hcnd _
  have hval : ∀ (j : Nat) t v, Try.f11.params[j]? = some t → args[j]? = some v → Value.okWide Try.prog W .any base t v := hval0
  have hW' := hW
  obtain ⟨p, q, hA0, hV, rfl, hfz, hnd⟩ := hW
  have hA : DataW.TrodAll enc Try.prog W 0 (fun _ => true) true Try.f11.params.toList args.toList ds p := hA0
  rw [Try.params11] at hA hval
  obtain ⟨v0, vs0, d0, ds0, p0, q0, hargs, rfl, rfl, h0, r0⟩ := trodAll_cons hA
  obtain ⟨v1, vs1, d1, ds1, p1, q1, rfl, rfl, rfl, h1, r1⟩ := trodAll_cons r0
  obtain ⟨rfl, rfl, rfl⟩ := trodAll_nil r1
  obtain rfl : args = #[v0, v1] := by cases args; simp_all
  obtain ⟨rfl, rfl⟩ := trodVars_none hV
  obtain ⟨a0, len0, cap0, rfl⟩ := okWide_slice Try.underlying22 (hval 0 22 v0 rfl rfl)
  have k0 := h0
  have lt0 : ∀ x ∈ p0, x.block < W.heap.size := by obtain ⟨m, hm⟩ := k0; exact DataW.trod_lt m _ _ _ hm
  obtain ⟨z0, w0⟩ : ∃ zs, IsRow .i64 W a0 len0 cap0 zs := by
    obtain ⟨fuel, hf⟩ := h0
    rcases open_ints Try.underlying22 Try.underlying2 (by kernel_rfl) hf with ⟨hcs, _⟩ | ⟨x, l, c, zs, hcs, _, hl, hm, hz, _, hcell, hwz⟩
    · simp [Value.cells] at hcs
      obtain ⟨rfl, rfl, rfl⟩ := hcs
      exact ⟨[], .inl ⟨rfl, rfl, rfl, rfl⟩⟩
    · simp [Value.cells] at hcs
      obtain ⟨rfl, rfl, rfl⟩ := hcs
      exact ⟨zs, .inr ⟨_, rfl, hl, hm, by simpa using hz, hcell, hwz⟩⟩
  have k1 := h1
  have lt1 : ∀ x ∈ p1, x.block < W.heap.size := by obtain ⟨m, hm⟩ := k1; exact DataW.trod_lt m _ _ _ hm
  obtain ⟨c1_0, c1_1, c1_2, c1_3, y1_0, y1_1, y1_2, y1_3, m1, rfl, rfl, rfl, f1_0, f1_1, f1_2, f1_3⟩ := Go.Joins.open_agg4 Try.underlying43 (by kernel_rfl) cells43 (hval 1 43 v1 rfl rfl) h1
  obtain ⟨b1_0, e1_0, rfl, w1_0⟩ := DataW.trod_int Try.underlying3 f1_0
  simp at e1_0
  subst e1_0
  obtain ⟨b1_1, e1_1, rfl, w1_1⟩ := DataW.trod_int Try.underlying3 f1_1
  simp at e1_1
  subst e1_1
  obtain ⟨b1_2, e1_2, rfl, w1_2⟩ := DataW.trod_int Try.underlying41 f1_2
  simp at e1_2
  subst e1_2
  obtain ⟨b1_3, e1_3, rfl, w1_3⟩ := DataW.trod_int Try.underlying41 f1_3
  simp at e1_3
  subst e1_3
  clear hA0 hval0
  refine (walk a0 len0 cap0 z0 b1_0 b1_1 b1_2 b1_3 W w0 w1_0 w1_1 w1_2 w1_3).mono fun e W' ⟨he, bel⟩ => ?_
  subst he
  exact ⟨_, rfl, _, _, _, [], _, [], hW', trodAll_mk1 (shut_bool Try.underlying4 _), (trodAll_cons_mk (Below.trod laidOut (by kernel_rfl) (of_decide_eq_true (by kernel_rfl)) k0 bel lt0) (trodAll_cons_mk (Below.trod laidOut (by kernel_rfl) (of_decide_eq_true (by kernel_rfl)) k1 bel lt1) trodAll_mk0)), rfl, bel.frame _, fun h => by cases h⟩

theorem over : Rows.sampleTopsRow.holds Try.pinned (OpenSpec.ofChange Rows.sampleTopsSpec) :=
  OpenClaim.holds_of_wide 11 Try.f11 rfl rfl rfl rfl rfl rfl rfl ⟨rfl, rfl, rfl, rfl, rfl⟩ rfl rfl rfl rfl rfl (by kernel_rfl) Try.func11 (by kernel_rfl)
    (of_decide_eq_true (by kernel_rfl)) (by unfold Func.isWrapper; first | (rw [if_pos (by decide +kernel)]; kernel_rfl) | (rw [if_neg (by decide +kernel)]; exact ⟨rfl, rfl⟩))
    (fun os started H enc _ => lifted os started H enc)

theorem proved : Rows.SampleTopsSaid := over
end Go.Proofs.Ytgedmelohiajjaa.sampleTops
