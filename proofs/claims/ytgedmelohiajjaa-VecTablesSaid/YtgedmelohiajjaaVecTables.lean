/- A table's product with a vector, and its rows mixed by weights, are the document's. -/
import Derived.Test.YtgedmelohiajjaaRows
import Derived.WalkKit
import Derived.ProofKit
import Derived.OpenShut
import Derived.ShutString
import Derived.ChangeOld
import Derived.Below
import Derived.Deep.Matrix
import Derived.Test.YtgedmelohiajjaaGbTab
namespace Go.Proofs.Ytgedmelohiajjaa.vecTables
open Go.ChangeShapes Go.WideShapes Go.ChangeAt Go.RowKit
open Go.ChangeMaps (open_string shut_string)
set_option linter.unusedVariables false
set_option linter.unusedSimpArgs false
open Go.Proofs.YtgedmelohiajjaaW.PrintWords Go.Proofs.YtgedmelohiajjaaW.PrintLast Go.Proofs.YtgedmelohiajjaaW.PrintMore

theorem own : ownKnob Try.prog.godebug = none := by kernel_rfl
theorem laidOut : laidOutB Try.prog = true := by kernel_rfl

def IsRow (k : IntKind) (w : World) (a : Option Addr) (len cap : Nat) (zs : List Int) : Prop :=
  (a = none ∧ len = 0 ∧ cap = 0 ∧ zs = []) ∨
  ∃ x, a = some x ∧ len ≤ cap ∧ cap ≤ maxLen ∧ zs.length = cap ∧ (∀ i, i < zs.length → w.cell? (x.add i) = some (.int k (zs.getD i 0))) ∧ ∀ n ∈ zs, (Lit.int k n).wf = true

def IsTab (k : IntKind) (w : World) (a : Option Addr) (len cap : Nat) (A : Nat → Option Addr) (L C : Nat → Nat) (Z : Nat → List Int) : Prop :=
  (a = none ∧ len = 0 ∧ cap = 0) ∨
  ∃ x, a = some x ∧ len ≤ cap ∧ cap ≤ maxLen ∧ ∀ r, r < cap → w.cell? (x.add r) = some (.slice (A r) (L r) (C r)) ∧ L r ≤ C r ∧ IsRow k w (A r) (L r) (C r) (Z r)

set_option maxRecDepth 100000 in
set_option maxHeartbeats 1000000 in
theorem walk (a0 : Option Addr) (len0 cap0 : Nat) (A0 : Nat → Option Addr) (L0 C0 : Nat → Nat) (Z0 : Nat → List Int) (a1 : Option Addr) (len1 cap1 : Nat) (z1 : List Int) (w : World) (w0 : IsTab .i64 w a0 len0 cap0 A0 L0 C0 Z0) (w1 : IsRow .i64 w a1 len1 cap1 z1) :
    Calls Try.prog 8 #[.slice a0 len0 cap0, .slice a1 len1 cap1] w fun e w' => e = .returned (.bool true) ∧ Below w.heap.size w w' := by
  obtain ⟨xss, rfl, hxs, hcxs, hlxs⟩ := istab_rows w0
  obtain ⟨ys, rfl, hys, hcys, -⟩ := isrow_C w1
  clear w0 w1
  have hr := rows1 w 22 a1 cap1 ys hys hcys
  have HR := Lib.hid hr
  have HX := Lib.hid (fun (W : World) (hb : Below w.heap.size w W) => hxs.below hb)
  have HY := Lib.hid (fun (W : World) (hb : Below w.heap.size w W) => Kd.C_below hys hb)
  clear hr hxs hys
  by_cases hf : farB xss = true
  · go_enter Try.func8, Try.ntmps8
    go_wp2_with fail
    refine (farw_any _ _ xss _ (HX.out _ (Below.refl _ _)) hlxs).mono ?_
    unfold FarR
    rw [hf]
    rintro e w' ⟨rfl, rfl⟩
    go_wp2_with fail
    refine (alive_any _).mono ?_
    rintro e w1 ⟨rfl, hb⟩
    have HB := Lib.hid hb
    clear hb
    go_wp2_with fail
    go_ret
    exact ⟨rfl, HB.out⟩
  · have hf' : farB xss = false := by simpa using hf
    have hS := farS xss hf'
    have HF := Lib.hid hf'
    clear hf hf'
    by_cases hg : farB [ys] = true
    · go_enter Try.func8, Try.ntmps8
      go_wp2_with fail
      refine (farw_any _ _ xss _ (HX.out _ (Below.refl _ _)) hlxs).mono ?_
      unfold FarR
      rw [HF.out]
      rintro e w' ⟨rfl, rfl⟩
      go_wp2_with fail
      refine (far_any _ _ [ys] _ HR.out (by simp)).mono ?_
      unfold FarR
      rw [hg]
      rintro e w' ⟨rfl, rfl⟩
      go_wp2_with fail
      refine (alive_any _).mono ?_
      rintro e w1 ⟨rfl, hb⟩
      have HB := Lib.hid hb
      clear hb
      go_wp2_with fail
      go_ret
      exact ⟨rfl, below_then (below_alloc (Below.refl _ w) _) (by simp) HB.out⟩
    · have hg' : farB [ys] = false := by simpa using hg
      have hm := far1 ys hg'
      have HG := Lib.hid hg'
      have HS := Lib.hid (show Short xss from fun j => Nat.le_trans (hS.2 j) (by omega))
      have hl1 := Nat.le_of_eq (vmul_len xss ys)
      have hl2 := vmix_len ys xss
      have hl3 := hS.2 0
      have hn := hS.1
      clear hg hg' hS
      go_enter Try.func8, Try.ntmps8
      go_wp2_with fail
      refine (farw_any _ _ xss _ (HX.out _ (Below.refl _ _)) hlxs).mono ?_
      unfold FarR
      rw [HF.out]
      rintro e w' ⟨rfl, rfl⟩
      go_wp2_with fail
      refine (far_any _ _ [ys] _ HR.out (by simp)).mono ?_
      unfold FarR
      rw [HG.out]
      rintro e w' ⟨rfl, rfl⟩
      obtain ⟨W0, hW0⟩ : ∃ W0, w.alloc (.cells #[.slice a1 ys.length cap1] 22) = W0 := ⟨_, rfl⟩
      have HB0 := Lib.hid (show Below w.heap.size w W0 by rw [← hW0]; exact below_alloc (Below.refl _ w) _)
      rw [hW0]
      clear hW0
      go_wp2_with fail
      refine (vmul_any _ _ _ _ xss ys W0 (HX.out _ HB0.out) HS.out (HY.out _ HB0.out) hcxs hcys (by omega) (by omega)).mono ?_
      rintro e W3 ⟨v3, rfl, ho3, hb3⟩
      have HB3 := Lib.hid (below_then HB0.out HB0.out.size hb3)
      have HO3 := Lib.hid ho3
      clear ho3 hb3
      go_wp2_with fail
      refine (rvmul_any _ _ _ _ xss ys W3 (HX.out _ HB3.out) HS.out (HY.out _ HB3.out) hcxs hcys (by omega) (by omega)).mono ?_
      rintro e W4 ⟨v4, rfl, ho4, hb4⟩
      have HB4 := Lib.hid (below_then HB3.out HB3.out.size hb4)
      have HO34 := Lib.hid (HO3.out.below hb4)
      have HO4 := Lib.hid ho4
      clear ho4 hb4 HO3
      obtain ⟨A3, k3, hv3, hk3, hC3⟩ := HO34.out.reads
      obtain ⟨A4, k4, hv4, hk4, hC4⟩ := HO4.out.reads
      subst hv3 hv4
      have HC3 := Lib.hid hC3
      have HC4 := Lib.hid hC4
      clear hC3 hC4 HO34 HO4
      go_wp2_with fail
      refine (same_any _ _ _ _ _ _ W4 HC3.out HC4.out (by omega) (by omega)).mono ?_
      unfold SameR
      rw [decide_eq_true rfl]
      rintro e W5 ⟨rfl, hd5⟩
      have HB5 := Lib.hid (HB4.out.trans (hd5.below.mono HB4.out.size))
      clear hd5
      go_wp2_with fail
      refine (vmix_any _ _ _ _ ys xss W5 (HY.out _ HB5.out) (HX.out _ HB5.out) HS.out hcxs hcys (by omega) (by omega)).mono ?_
      rintro e W6 ⟨v6, rfl, ho6, hb6⟩
      have HB6 := Lib.hid (below_then HB5.out HB5.out.size hb6)
      have HO6 := Lib.hid ho6
      clear ho6 hb6
      go_wp2_with fail
      refine (rvmix_any _ _ _ _ ys xss W6 (HY.out _ HB6.out) (HX.out _ HB6.out) HS.out hcxs hcys (by omega) (by omega)).mono ?_
      rintro e W7 ⟨v7, rfl, ho7, hb7⟩
      have HB7 := Lib.hid (below_then HB6.out HB6.out.size hb7)
      have HO67 := Lib.hid (HO6.out.below hb7)
      have HO7 := Lib.hid ho7
      clear ho7 hb7 HO6
      obtain ⟨A6, k6, hv6, hk6, hC6⟩ := HO67.out.reads
      obtain ⟨A7, k7, hv7, hk7, hC7⟩ := HO7.out.reads
      subst hv6 hv7
      have HC6 := Lib.hid hC6
      have HC7 := Lib.hid hC7
      clear hC6 hC7 HO67 HO7
      go_wp2_with fail
      refine (same_any _ _ _ _ _ _ W7 HC6.out HC7.out (by omega) (by omega)).mono ?_
      unfold SameR
      rw [decide_eq_true rfl]
      rintro e W8 ⟨rfl, hd8⟩
      have HB8 := Lib.hid (HB7.out.trans (hd8.below.mono HB7.out.size))
      clear hd8
      go_wp2_with fail
      refine (alive_any _).mono ?_
      rintro e W9 ⟨rfl, hb9⟩
      have HB9 := Lib.hid (below_then HB8.out HB8.out.size hb9)
      clear hb9
      go_wp2_with fail
      go_ret
      exact ⟨rfl, HB9.out⟩

set_option maxRecDepth 100000 in
theorem lifted (os : Os) (started : os.Started) (H : Type) (enc : TypeId × Value → H) :
    ReturnsInHanded {} Try.checked os 8 .any (Rows.vecTablesSpec.pre6 enc Try.prog Try.f8 Rows.vecTablesRow.domain false) (Rows.vecTablesSpec.post enc Try.prog Try.f8 false true false false) := by
  refine returnsInHanded_of_change (C := Try.checked) own started (by kernel_rfl) Try.func8
    (ChangeSpec.witness6 (enc := enc) (C := Try.checked) false ⟨#[], #[.slice none 0 0, .slice none 0 0], []⟩ 8 (by kernel_rfl) (by kernel_rfl) (by kernel_rfl) (by kernel_rfl)) ?_
  intro W base args ds gs before hval0 hW hcnd _
  have hval : ∀ (j : Nat) t v, Try.f8.params[j]? = some t → args[j]? = some v → Value.okWide Try.prog W .any base t v := hval0
  have hW' := hW
  obtain ⟨p, q, hA0, hV, rfl, hfz, hnd⟩ := hW
  have hA : DataW.TrodAll enc Try.prog W 0 (fun _ => true) true Try.f8.params.toList args.toList ds p := hA0
  rw [Try.params8] at hA hval
  obtain ⟨v0, vs0, d0, ds0, p0, q0, hargs, rfl, rfl, h0, r0⟩ := trodAll_cons hA
  obtain ⟨v1, vs1, d1, ds1, p1, q1, rfl, rfl, rfl, h1, r1⟩ := trodAll_cons r0
  obtain ⟨rfl, rfl, rfl⟩ := trodAll_nil r1
  obtain rfl : args = #[v0, v1] := by cases args; simp_all
  obtain ⟨rfl, rfl⟩ := trodVars_none hV
  obtain ⟨a0, len0, cap0, rfl⟩ := okWide_slice Try.underlying37 (hval 0 37 v0 rfl rfl)
  have k0 := h0
  have lt0 : ∀ x ∈ p0, x.block < W.heap.size := by obtain ⟨m, hm⟩ := k0; exact DataW.trod_lt m _ _ _ hm
  obtain ⟨A0, L0, C0, Z0, w0⟩ : ∃ A L C Z, IsTab .i64 W a0 len0 cap0 A L C Z := by
    obtain ⟨fuel, hf⟩ := h0
    rcases Go.Deep.open_int_rows Try.underlying37 Try.underlying22 Try.underlying2 (by kernel_rfl) (by kernel_rfl) hf with ⟨hcs, _⟩ | ⟨x, l, c, AA, LL, CC, ZZ, hcs, _, hl, hm, _, hrow⟩
    · simp [Value.cells] at hcs
      obtain ⟨rfl, rfl, rfl⟩ := hcs
      exact ⟨fun _ => none, fun _ => 0, fun _ => 0, fun _ => [], .inl ⟨rfl, rfl, rfl⟩⟩
    · simp [Value.cells] at hcs
      obtain ⟨rfl, rfl, rfl⟩ := hcs
      refine ⟨AA, LL, CC, ZZ, .inr ⟨_, rfl, hl, hm, fun r hr => ?_⟩⟩
      obtain ⟨h1, h2, h3, h4, h5, h6, h7⟩ := hrow r hr
      refine ⟨h1, h2, ?_⟩
      cases hA : AA r with
      | none =>
        have hc := h6 hA
        exact .inl ⟨rfl, by omega, hc, List.eq_nil_of_length_eq_zero (h4.trans hc)⟩
      | some x => exact .inr ⟨x, rfl, h2, h3, h4, fun i hi => (h7 x hA).2 i (by rw [← h4]; exact hi), h5⟩
  obtain ⟨a1, len1, cap1, rfl⟩ := okWide_slice Try.underlying22 (hval 1 22 v1 rfl rfl)
  have k1 := h1
  have lt1 : ∀ x ∈ p1, x.block < W.heap.size := by obtain ⟨m, hm⟩ := k1; exact DataW.trod_lt m _ _ _ hm
  obtain ⟨z1, w1⟩ : ∃ zs, IsRow .i64 W a1 len1 cap1 zs := by
    obtain ⟨fuel, hf⟩ := h1
    rcases open_ints Try.underlying22 Try.underlying2 (by kernel_rfl) hf with ⟨hcs, _⟩ | ⟨x, l, c, zs, hcs, _, hl, hm, hz, _, hcell, hwz⟩
    · simp [Value.cells] at hcs
      obtain ⟨rfl, rfl, rfl⟩ := hcs
      exact ⟨[], .inl ⟨rfl, rfl, rfl, rfl⟩⟩
    · simp [Value.cells] at hcs
      obtain ⟨rfl, rfl, rfl⟩ := hcs
      exact ⟨zs, .inr ⟨_, rfl, hl, hm, by simpa using hz, hcell, hwz⟩⟩
  clear hA0 hval0
  refine (walk a0 len0 cap0 A0 L0 C0 Z0 a1 len1 cap1 z1 W w0 w1).mono fun e W' ⟨he, bel⟩ => ?_
  subst he
  exact ⟨_, rfl, _, _, _, [], _, [], hW', trodAll_mk1 (shut_bool Try.underlying4 _), (trodAll_cons_mk (Below.trod laidOut (by kernel_rfl) (of_decide_eq_true (by kernel_rfl)) k0 bel lt0) (trodAll_cons_mk (Below.trod laidOut (by kernel_rfl) (of_decide_eq_true (by kernel_rfl)) k1 bel lt1) trodAll_mk0)), rfl, bel.frame _, fun h => by cases h⟩

theorem over : Rows.vecTablesRow.holds Try.pinned (OpenSpec.ofChange Rows.vecTablesSpec) :=
  OpenClaim.holds_of_wide 8 Try.f8 rfl rfl rfl rfl rfl rfl rfl ⟨rfl, rfl, rfl, rfl, rfl⟩ rfl rfl rfl rfl rfl (by kernel_rfl) Try.func8 (by kernel_rfl)
    (of_decide_eq_true (by kernel_rfl)) (by unfold Func.isWrapper; first | (rw [if_pos (by decide +kernel)]; kernel_rfl) | (rw [if_neg (by decide +kernel)]; exact ⟨rfl, rfl⟩))
    (fun os started H enc _ => lifted os started H enc)

theorem proved : Rows.VecTablesSaid := over
end Go.Proofs.Ytgedmelohiajjaa.vecTables
