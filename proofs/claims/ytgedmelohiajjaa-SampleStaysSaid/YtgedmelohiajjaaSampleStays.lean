/- A draw hangs on what it is handed alone, and the marks stay as they are. -/
import Derived.Test.YtgedmelohiajjaaRows
import Derived.WalkKit
import Derived.ProofKit
import Derived.OpenShut
import Derived.ShutString
import Derived.ChangeOld
import Derived.Below
import Derived.Lib.SmallJoins
import Derived.Test.YtgedmelohiajjaaGbSamL
namespace Go.Proofs.Ytgedmelohiajjaa.sampleStays
open Go.ChangeShapes Go.WideShapes Go.ChangeAt Go.RowKit
open Go.ChangeMaps (open_string shut_string)
set_option linter.unusedVariables false
set_option linter.unusedSimpArgs false
open Go.Proofs.YtgedmelohiajjaaW.PrintWords Go.Proofs.YtgedmelohiajjaaW.PrintLast Go.Proofs.YtgedmelohiajjaaW.PrintMore

theorem own : ownKnob Try.prog.godebug = none := by kernel_rfl
theorem laidOut : laidOutB Try.prog = true := by kernel_rfl
theorem cells43 : Try.prog.cellsOf 43 = 4 := by kernel_rfl

def IsRow (k : IntKind) (w : World) (a : Option Addr) (len cap : Nat) (zs : List Int) : Prop :=
  (a = none ∧ len = 0 ∧ cap = 0 ∧ zs = []) ∨
  ∃ x, a = some x ∧ len ≤ cap ∧ cap ≤ maxLen ∧ zs.length = cap ∧ (∀ i, i < zs.length → w.cell? (x.add i) = some (.int k (zs.getD i 0))) ∧ ∀ n ∈ zs, (Lit.int k n).wf = true

set_option maxRecDepth 100000 in
set_option maxHeartbeats 1000000 in
theorem walk (a0 : Option Addr) (len0 cap0 : Nat) (z0 : List Int) (b1_0 b1_1 b1_2 b1_3 : Int) (a2 : Option Addr) (len2 cap2 : Nat) (z2 : List Int) (w : World) (w0 : IsRow .i64 w a0 len0 cap0 z0) (w1_0 : (Lit.int .i64 b1_0).wf = true) (w1_1 : (Lit.int .i64 b1_1).wf = true) (w1_2 : (Lit.int .u64 b1_2).wf = true) (w1_3 : (Lit.int .u64 b1_3).wf = true) (w2 : IsRow .i64 w a2 len2 cap2 z2) :
    Calls Try.prog 12 #[.slice a0 len0 cap0, .agg #[.int .i64 b1_0, .int .i64 b1_1, .int .u64 b1_2, .int .u64 b1_3], .slice a2 len2 cap2] w fun e w' => e = .returned (.bool true) ∧ Below w.heap.size w w' := by
  obtain ⟨xs, rfl, hxs, hcxs, -⟩ := isrow_C w0
  obtain ⟨ys, rfl, hys, hcys, -⟩ := isrow_C w2
  have HX := Lib.hid (fun (W : World) (hb : Below w.heap.size w W) => Kd.C_below hxs hb)
  have HY := Lib.hid (fun (W : World) (hb : Below w.heap.size w W) => Kd.C_below hys hb)
  have hh : b1_1 ≤ 9223372036854775807 := by simp [Lit.wf, IntKind.min, IntKind.max, IntKind.signed, IntKind.bits] at w1_1; omega
  have hh0 : b1_0 ≤ 9223372036854775807 := by simp [Lit.wf, IntKind.min, IntKind.max, IntKind.signed, IntKind.bits] at w1_0; omega
  clear w0 w1_0 w1_1 w1_2 w1_3 w2 hxs hys
  by_cases hf : 200 < xs.length
  · go_enter Try.func12, Try.ntmps12
    go_wp2_with fail
    refine (far11_any _ _ _ _).mono ?_
    unfold Far11
    rw [decide_eq_true hf]
    rintro e w' ⟨rfl, rfl⟩
    go_wp2_with fail
    refine (alive11_any _).mono ?_
    rintro e w1 ⟨rfl, hb⟩
    have HB := Lib.hid hb
    clear hb
    go_wp2_with fail
    go_ret
    exact ⟨rfl, below_then (below_alloc (Below.refl _ w) _) (by simp) HB.out⟩
  · by_cases hg : 200 < ys.length
    · go_enter Try.func12, Try.ntmps12
      go_wp2_with fail
      refine (far11_any _ _ _ _).mono ?_
      unfold Far11
      rw [decide_eq_false hf]
      rintro e w' ⟨rfl, rfl⟩
      go_wp2_with fail
      refine (far11_any _ _ _ _).mono ?_
      unfold Far11
      rw [decide_eq_true hg]
      rintro e w' ⟨rfl, rfl⟩
      go_wp2_with fail
      refine (alive11_any _).mono ?_
      rintro e w1 ⟨rfl, hb⟩
      have HB := Lib.hid hb
      clear hb
      go_wp2_with fail
      go_ret
      exact ⟨rfl, below_then (below_alloc (Below.refl _ w) _) (by simp) HB.out⟩
    · go_enter Try.func12, Try.ntmps12
      go_wp2_with fail
      refine (far11_any _ _ _ _).mono ?_
      unfold Far11
      rw [decide_eq_false hf]
      rintro e w' ⟨rfl, rfl⟩
      go_wp2_with fail
      refine (far11_any _ _ _ _).mono ?_
      unfold Far11
      rw [decide_eq_false hg]
      rintro e w' ⟨rfl, rfl⟩
      obtain ⟨W0, hW0⟩ : ∃ W0, w.alloc (.cells #[.int .i64 b1_0, .int .i64 b1_1, .int .u64 b1_2, .int .u64 b1_3] 43) = W0 := ⟨_, rfl⟩
      obtain ⟨B, hB⟩ : ∃ B, w.heap.size = B := ⟨_, rfl⟩
      have HS0 := Lib.hid (show Box4 B w b1_0 b1_1 b1_2 b1_3 W0 by
        rw [← hW0, ← hB]
        exact ⟨by simp, by simp, by simp, by simp, Lib.hid (below_alloc (Below.refl _ w) _)⟩)
      rw [hW0, hB]
      have HBB := Lib.hid hB
      have hle : xs.length ≤ 4096 := by omega
      have hle2 : ys.length ≤ 4096 := by omega
      have HXa := Lib.hid (HX.out _ HS0.out.below)
      clear hW0 hB hf hg
      go_wp2_with (at_builtin; refine Kd.R_append_row (w0 := W0) (Value.int .i64) 0 (h1 := fun _ => rfl) W0.heap.size rfl _ _ 22 2 (.int .i64 0) 8 rfl Try.underlying22 infoI64 rfl (by decide) _ [] xs a0 xs.length cap0 (fun _ => True) rfl rfl (fun _ _ => trivial) (Kd.R_nil _ _ _ _ _) HXa.out (Below.refl _ _) (Nat.le_refl _) (by simp; omega) ?_; intro v1 w1 hr1 hb1 hg1 hat1; have HS1 := Lib.hid (HS0.out.step hb1); have HO1 := Lib.hid hr1; clear hb1 hr1 hg1 hat1; obtain ⟨k0, k1, k2, k3, -⟩ := HS1.out)
      obtain ⟨A1, c1, rfl, hc1, hC1⟩ := (show Own w1 W0.heap.size 2 v1 xs from HO1.out).reads
      have HC1 := Lib.hid (fun (W : World) (hb : Below w1.heap.size w1 W) => Kd.C_below hC1 hb)
      clear HO1 hC1
      refine (draw_any _ _ xs _ _ _ _ _ (HX.out _ HS1.out.below) hcxs hle hh).mono ?_
      obtain ⟨D, hD⟩ : ∃ D, vdraw xs b1_0 b1_1 b1_2 b1_3 = D := ⟨_, rfl⟩
      rw [hD]
      have HD := Lib.hid hD
      clear hD
      rintro e W2 ⟨rfl, hb2⟩
      have HS2 := Lib.hid (HS1.out.step hb2)
      have HE2 := Lib.hid hb2
      clear hb2 k0 k1 k2 k3
      obtain ⟨k0, k1, k2, k3, -⟩ := HS2.out
      go_wp2_with fail
      refine (draw_any _ _ ys _ _ _ _ _ (HY.out _ HS2.out.below) hcys hle2 hh0).mono ?_
      rintro e W3 ⟨rfl, hb3⟩
      have HS3 := Lib.hid (HS2.out.step hb3)
      have HE3 := Lib.hid (below_then HE2.out HE2.out.size hb3)
      clear hb3 k0 k1 k2 k3
      obtain ⟨n, hnn⟩ : ∃ n, xs.length = n := ⟨_, rfl⟩
      have HC3 := Lib.hid (HC1.out _ HE3.out)
      have HX3 := Lib.hid (HX.out _ HS3.out.below)
      rw [hnn] at hle ⊢
      rw [hnn] at hc1 hcxs HC1 HX
      have HN := Lib.hid hnn
      clear hnn
      go_wp2_with fail
      go_loopw [41] (fun s wr => ∃ i : Nat, s = .int .i64 i ∧ i ≤ n ∧ Drawn0 W3 wr) (fun s _ => n - (intOf s).toNat)
      case atStart => exact ⟨0, rfl, by omega, Drawn0.refl _⟩
      case round =>
        obtain ⟨i, rfl, hi, hd⟩ := hrel
        have HDR := Lib.hid hd
        clear hd
        by_cases hin : i < n
        · obtain ⟨b1, e1, q1⟩ := at_nat (Kd.C_below HC3.out HDR.out.below) i (by rw [HN.out]; exact hin)
          obtain ⟨b2, e2, q2⟩ := at_nat (Kd.C_below HX3.out HDR.out.below) i (by rw [HN.out]; exact hin)
          subst e1 e2
          obtain ⟨x, hx⟩ : ∃ x, xs.getD i 0 = x := ⟨_, rfl⟩
          rw [hx] at q1 q2
          have z : (x != x) = false := by simp
          clear hx
          go_wp2_with fail
          go_quiet (fail)
          go_wp2_with fail
          go_roundw
          case rel => exact ⟨i + 1, by go_num, by omega, Drawn0.step HDR.out _⟩
          case measure => simp [intOf]; omega
        · have HS4 := Lib.hid (HS3.out.step HDR.out.below)
          have HE4 := Lib.hid (HE3.out.trans (HDR.out.below.mono HE3.out.size))
          obtain ⟨k0, k1, k2, k3, -⟩ := HS4.out
          go_wp2_with fail
          have hC := HC1.out _ HE4.out
          rw [← HN.out] at hC ⊢
          refine (draw_any _ _ xs _ _ _ _ _ hC (by rw [HN.out]; exact hc1) (by rw [HN.out]; exact hle) hh).mono ?_
          rw [HD.out]
          rintro e W5 ⟨rfl, hb5⟩
          have HS5 := Lib.hid (HS4.out.step hb5)
          clear hb5 k0 k1 k2 k3 hC
          go_wp2_with fail
          refine (alive11_any _).mono ?_
          rintro e W7 ⟨rfl, hb7⟩
          have HS7 := Lib.hid (HS5.out.step hb7)
          clear hb7
          go_wp2_with fail
          go_ret
          exact ⟨rfl, HS7.out.below⟩

set_option maxRecDepth 100000 in
theorem lifted (os : Os) (started : os.Started) (H : Type) (enc : TypeId × Value → H) :
    ReturnsInHanded {} Try.checked os 12 .any (Rows.sampleStaysSpec.pre6 enc Try.prog Try.f12 Rows.sampleStaysRow.domain false) (Rows.sampleStaysSpec.post enc Try.prog Try.f12 false true false false) := by
  refine returnsInHanded_of_change (C := Try.checked) own started (by kernel_rfl) Try.func12
    (ChangeSpec.witness6 (enc := enc) (C := Try.checked) false ⟨#[], #[.slice none 0 0, .agg #[.int .i64 0, .int .i64 0, .int .u64 0, .int .u64 0], .slice none 0 0], []⟩ 8 (by kernel_rfl) (by kernel_rfl) (by kernel_rfl) (by kernel_rfl)) ?_
  intro W base args ds gs before hval0 hW hcnd _
  have hval : ∀ (j : Nat) t v, Try.f12.params[j]? = some t → args[j]? = some v → Value.okWide Try.prog W .any base t v := hval0
  have hW' := hW
  obtain ⟨p, q, hA0, hV, rfl, hfz, hnd⟩ := hW
  have hA : DataW.TrodAll enc Try.prog W 0 (fun _ => true) true Try.f12.params.toList args.toList ds p := hA0
  rw [Try.params12] at hA hval
  obtain ⟨v0, vs0, d0, ds0, p0, q0, hargs, rfl, rfl, h0, r0⟩ := trodAll_cons hA
  obtain ⟨v1, vs1, d1, ds1, p1, q1, rfl, rfl, rfl, h1, r1⟩ := trodAll_cons r0
  obtain ⟨v2, vs2, d2, ds2, p2, q2, rfl, rfl, rfl, h2, r2⟩ := trodAll_cons r1
  obtain ⟨rfl, rfl, rfl⟩ := trodAll_nil r2
  obtain rfl : args = #[v0, v1, v2] := by cases args; simp_all
  obtain ⟨rfl, rfl⟩ := trodVars_none hV
  obtain ⟨a0, len0, cap0, rfl⟩ := okWide_slice Try.underlying22 (hval 0 22 v0 rfl rfl)
  have k0 := h0
  have lt0 : ∀ x ∈ p0, x.block < W.heap.size := by obtain ⟨m, hm⟩ := k0; exact DataW.trod_lt m _ _ _ hm
  obtain ⟨z0, w0⟩ : ∃ zs, IsRow .i64 W a0 len0 cap0 zs := by
    obtain ⟨fuel, hf⟩ := h0
    rcases open_ints Try.underlying22 Try.underlying2 (by kernel_rfl) hf with ⟨hcs, _⟩ | ⟨x, l, c, zs, hcs, _, hl, hm, hz, _, hcell, hwz⟩
    · simp [Value.cells] at hcs
      obtain ⟨rfl, rfl, rfl⟩ := hcs
      exact ⟨[], .inl ⟨rfl, rfl, rfl, rfl⟩⟩
    · simp [Value.cells] at hcs
      obtain ⟨rfl, rfl, rfl⟩ := hcs
      exact ⟨zs, .inr ⟨_, rfl, hl, hm, by simpa using hz, hcell, hwz⟩⟩
  have k1 := h1
  have lt1 : ∀ x ∈ p1, x.block < W.heap.size := by obtain ⟨m, hm⟩ := k1; exact DataW.trod_lt m _ _ _ hm
  obtain ⟨c1_0, c1_1, c1_2, c1_3, y1_0, y1_1, y1_2, y1_3, m1, rfl, rfl, rfl, f1_0, f1_1, f1_2, f1_3⟩ := Go.Joins.open_agg4 Try.underlying43 (by kernel_rfl) cells43 (hval 1 43 v1 rfl rfl) h1
  obtain ⟨b1_0, e1_0, rfl, w1_0⟩ := DataW.trod_int Try.underlying3 f1_0
  simp at e1_0
  subst e1_0
  obtain ⟨b1_1, e1_1, rfl, w1_1⟩ := DataW.trod_int Try.underlying3 f1_1
  simp at e1_1
  subst e1_1
  obtain ⟨b1_2, e1_2, rfl, w1_2⟩ := DataW.trod_int Try.underlying41 f1_2
  simp at e1_2
  subst e1_2
  obtain ⟨b1_3, e1_3, rfl, w1_3⟩ := DataW.trod_int Try.underlying41 f1_3
  simp at e1_3
  subst e1_3
  obtain ⟨a2, len2, cap2, rfl⟩ := okWide_slice Try.underlying22 (hval 2 22 v2 rfl rfl)
  have k2 := h2
  have lt2 : ∀ x ∈ p2, x.block < W.heap.size := by obtain ⟨m, hm⟩ := k2; exact DataW.trod_lt m _ _ _ hm
  obtain ⟨z2, w2⟩ : ∃ zs, IsRow .i64 W a2 len2 cap2 zs := by
    obtain ⟨fuel, hf⟩ := h2
    rcases open_ints Try.underlying22 Try.underlying2 (by kernel_rfl) hf with ⟨hcs, _⟩ | ⟨x, l, c, zs, hcs, _, hl, hm, hz, _, hcell, hwz⟩
    · simp [Value.cells] at hcs
      obtain ⟨rfl, rfl, rfl⟩ := hcs
      exact ⟨[], .inl ⟨rfl, rfl, rfl, rfl⟩⟩
    · simp [Value.cells] at hcs
      obtain ⟨rfl, rfl, rfl⟩ := hcs
      exact ⟨zs, .inr ⟨_, rfl, hl, hm, by simpa using hz, hcell, hwz⟩⟩
  clear hA0 hval0
  refine (walk a0 len0 cap0 z0 b1_0 b1_1 b1_2 b1_3 a2 len2 cap2 z2 W w0 w1_0 w1_1 w1_2 w1_3 w2).mono fun e W' ⟨he, bel⟩ => ?_
  subst he
  exact ⟨_, rfl, _, _, _, [], _, [], hW', trodAll_mk1 (shut_bool Try.underlying4 _), (trodAll_cons_mk (Below.trod laidOut (by kernel_rfl) (of_decide_eq_true (by kernel_rfl)) k0 bel lt0) (trodAll_cons_mk (Below.trod laidOut (by kernel_rfl) (of_decide_eq_true (by kernel_rfl)) k1 bel lt1) (trodAll_cons_mk (Below.trod laidOut (by kernel_rfl) (of_decide_eq_true (by kernel_rfl)) k2 bel lt2) trodAll_mk0))), rfl, bel.frame _, fun h => by cases h⟩

theorem over : Rows.sampleStaysRow.holds Try.pinned (OpenSpec.ofChange Rows.sampleStaysSpec) :=
  OpenClaim.holds_of_wide 12 Try.f12 rfl rfl rfl rfl rfl rfl rfl ⟨rfl, rfl, rfl, rfl, rfl⟩ rfl rfl rfl rfl rfl (by kernel_rfl) Try.func12 (by kernel_rfl)
    (of_decide_eq_true (by kernel_rfl)) (by unfold Func.isWrapper; first | (rw [if_pos (by decide +kernel)]; kernel_rfl) | (rw [if_neg (by decide +kernel)]; exact ⟨rfl, rfl⟩))
    (fun os started H enc _ => lifted os started H enc)

theorem proved : Rows.SampleStaysSaid := over
end Go.Proofs.Ytgedmelohiajjaa.sampleStays
