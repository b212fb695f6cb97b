/- vec.Dot and vec.Add may be turned about, for every two vectors. -/
import Derived.Test.YtgedmelohiajjaaRows
import Derived.WalkKit
import Derived.ProofKit
import Derived.OpenShut
import Derived.ShutString
import Derived.ChangeOld
import Derived.Below
import Derived.Test.YtgedmelohiajjaaGbN
import Derived.Test.YtgedmelohiajjaaGbLaw8
namespace Go.Proofs.Ytgedmelohiajjaa.vecTurned
open Go.ChangeShapes Go.WideShapes Go.ChangeAt Go.RowKit
open Go.ChangeMaps (open_string shut_string)
set_option linter.unusedVariables false
set_option linter.unusedSimpArgs false
open Go.Proofs.YtgedmelohiajjaaW.PrintWords Go.Proofs.YtgedmelohiajjaaW.PrintLast Go.Proofs.YtgedmelohiajjaaW.PrintMore

theorem own : ownKnob Try.prog.godebug = none := by kernel_rfl
theorem laidOut : laidOutB Try.prog = true := by kernel_rfl

def IsRow (k : IntKind) (w : World) (a : Option Addr) (len cap : Nat) (zs : List Int) : Prop :=
  (a = none ∧ len = 0 ∧ cap = 0 ∧ zs = []) ∨
  ∃ x, a = some x ∧ len ≤ cap ∧ cap ≤ maxLen ∧ zs.length = cap ∧ (∀ i, i < zs.length → w.cell? (x.add i) = some (.int k (zs.getD i 0))) ∧ ∀ n ∈ zs, (Lit.int k n).wf = true

theorem walk (a0 : Option Addr) (len0 cap0 : Nat) (z0 : List Int) (a1 : Option Addr) (len1 cap1 : Nat) (z1 : List Int) (w : World) (w0 : IsRow .i64 w a0 len0 cap0 z0) (w1 : IsRow .i64 w a1 len1 cap1 z1) :
    Calls Try.prog 6 #[.slice a0 len0 cap0, .slice a1 len1 cap1] w fun e w' => e = .returned (.bool true) ∧ Below w.heap.size w w' := by
  obtain ⟨xs, rfl, hx, hc, -⟩ := isrow_C w0
  obtain ⟨ys, rfl, hy, hd, -⟩ := isrow_C w1
  clear w0 w1
  have hr := rows2 w 22 a0 a1 cap0 cap1 xs ys hx hy hc hd
  have HR := Lib.hid hr
  have HX := Lib.hid (fun (W : World) (hb : Below w.heap.size w W) => Kd.C_below hx hb)
  have HY := Lib.hid (fun (W : World) (hb : Below w.heap.size w W) => Kd.C_below hy hb)
  clear hr hx hy
  by_cases hf : farB [xs, ys] = true
  · go_enter Try.func6, Try.ntmps6
    go_wp2_with fail
    refine (far_any _ _ [xs, ys] _ HR.out (by simp)).mono ?_
    unfold FarR
    rw [hf]
    rintro e w' ⟨rfl, rfl⟩
    go_wp2_with fail
    refine (alive_any _).mono ?_
    rintro e w1 ⟨rfl, hb⟩
    have HB := Lib.hid hb
    clear hb
    go_wp2_with fail
    go_ret
    exact ⟨rfl, below_then (below_alloc (Below.refl _ w) _) (by simp) HB.out⟩
  · have hf' : farB [xs, ys] = false := by simpa using hf
    obtain ⟨hn, hm⟩ := far2 xs ys hf'
    have HF := Lib.hid hf'
    have HDC := Lib.hid (vdot_comm ys xs)
    have HAC := Lib.hid (vadd_comm ys xs)
    clear hf hf'
    go_enter Try.func6, Try.ntmps6
    go_wp2_with fail
    refine (far_any _ _ [xs, ys] _ HR.out (by simp)).mono ?_
    unfold FarR
    rw [HF.out]
    rintro e w' ⟨rfl, rfl⟩
    obtain ⟨W0, hW0⟩ : ∃ W0, w.alloc (.cells #[.slice a0 xs.length cap0, .slice a1 ys.length cap1] 22) = W0 := ⟨_, rfl⟩
    have HB0 := Lib.hid (show Below w.heap.size w W0 by rw [← hW0]; exact below_alloc (Below.refl _ w) _)
    rw [hW0]
    clear hW0
    go_wp2_with fail
    refine (dot_any _ _ _ _ xs ys W0 (HX.out _ HB0.out) (HY.out _ HB0.out) hc hd (by omega) (by omega)).mono ?_
    rintro e W1 ⟨rfl, hd1⟩
    have HB1 := Lib.hid (HB0.out.trans (hd1.below.mono HB0.out.size))
    clear hd1
    go_wp2_with fail
    refine (dot_any _ _ _ _ ys xs W1 (HY.out _ HB1.out) (HX.out _ HB1.out) hd hc (by omega) (by omega)).mono ?_
    rw [HDC.out]
    rintro e W2 ⟨rfl, hd2⟩
    have HB2 := Lib.hid (HB1.out.trans (hd2.below.mono HB1.out.size))
    clear hd2
    go_wp2_with fail
    refine (vadd_any _ _ _ _ xs ys W2 (HX.out _ HB2.out) (HY.out _ HB2.out) hc hd (by omega) (by omega)).mono ?_
    rintro e W3 ⟨v3, rfl, ho3, hb3⟩
    have HB3 := Lib.hid (below_then HB2.out HB2.out.size hb3)
    have HO3 := Lib.hid ho3
    clear ho3 hb3
    go_wp2_with fail
    refine (vadd_any _ _ _ _ ys xs W3 (HY.out _ HB3.out) (HX.out _ HB3.out) hd hc (by omega) (by omega)).mono ?_
    rw [HAC.out]
    rintro e W4 ⟨v4, rfl, ho4, hb4⟩
    have HB4 := Lib.hid (below_then HB3.out HB3.out.size hb4)
    obtain ⟨A3, k3, rfl, hk3, hC3⟩ := (HO3.out.below hb4).reads
    obtain ⟨A4, k4, rfl, hk4, hC4⟩ := ho4.reads
    have HC3 := Lib.hid hC3
    have HC4 := Lib.hid hC4
    have hl := vadd_len xs ys
    clear ho4 hb4 hC3 hC4 HO3
    go_wp2_with fail
    refine (same_any _ _ _ _ _ _ W4 HC3.out HC4.out (by omega) (by omega)).mono ?_
    unfold SameR
    rw [decide_eq_true rfl]
    rintro e W5 ⟨rfl, hd5⟩
    have HB5 := Lib.hid (HB4.out.trans (hd5.below.mono HB4.out.size))
    clear hd5
    go_wp2_with fail
    refine (alive_any _).mono ?_
    rintro e W6 ⟨rfl, hb6⟩
    have HB6 := Lib.hid (below_then HB5.out HB5.out.size hb6)
    clear hb6
    go_wp2_with fail
    go_ret
    exact ⟨rfl, HB6.out⟩

set_option maxRecDepth 100000 in
theorem lifted (os : Os) (started : os.Started) (H : Type) (enc : TypeId × Value → H) :
    ReturnsInHanded {} Try.checked os 6 .any (Rows.vecTurnedSpec.pre6 enc Try.prog Try.f6 Rows.vecTurnedRow.domain false) (Rows.vecTurnedSpec.post enc Try.prog Try.f6 false true false false) := by
  refine returnsInHanded_of_change (C := Try.checked) own started (by kernel_rfl) Try.func6
    (ChangeSpec.witness6 (enc := enc) (C := Try.checked) false ⟨#[], #[.slice none 0 0, .slice none 0 0], []⟩ 8 (by kernel_rfl) (by kernel_rfl) (by kernel_rfl) (by kernel_rfl)) ?_
  intro W base args ds gs before hval0 hW hcnd _
  have hval : ∀ (j : Nat) t v, Try.f6.params[j]? = some t → args[j]? = some v → Value.okWide Try.prog W .any base t v := hval0
  have hW' := hW
  obtain ⟨p, q, hA0, hV, rfl, hfz, hnd⟩ := hW
  have hA : DataW.TrodAll enc Try.prog W 0 (fun _ => true) true Try.f6.params.toList args.toList ds p := hA0
  rw [Try.params6] at hA hval
  obtain ⟨v0, vs0, d0, ds0, p0, q0, hargs, rfl, rfl, h0, r0⟩ := trodAll_cons hA
  obtain ⟨v1, vs1, d1, ds1, p1, q1, rfl, rfl, rfl, h1, r1⟩ := trodAll_cons r0
  obtain ⟨rfl, rfl, rfl⟩ := trodAll_nil r1
  obtain rfl : args = #[v0, v1] := by cases args; simp_all
  obtain ⟨rfl, rfl⟩ := trodVars_none hV
  obtain ⟨a0, len0, cap0, rfl⟩ := okWide_slice Try.underlying22 (hval 0 22 v0 rfl rfl)
  have k0 := h0
  have lt0 : ∀ x ∈ p0, x.block < W.heap.size := by obtain ⟨m, hm⟩ := k0; exact DataW.trod_lt m _ _ _ hm
  obtain ⟨z0, w0⟩ : ∃ zs, IsRow .i64 W a0 len0 cap0 zs := by
    obtain ⟨fuel, hf⟩ := h0
    rcases open_ints Try.underlying22 Try.underlying2 (by kernel_rfl) hf with ⟨hcs, _⟩ | ⟨x, l, c, zs, hcs, _, hl, hm, hz, _, hcell, hwz⟩
    · simp [Value.cells] at hcs
      obtain ⟨rfl, rfl, rfl⟩ := hcs
      exact ⟨[], .inl ⟨rfl, rfl, rfl, rfl⟩⟩
    · simp [Value.cells] at hcs
      obtain ⟨rfl, rfl, rfl⟩ := hcs
      exact ⟨zs, .inr ⟨_, rfl, hl, hm, by simpa using hz, hcell, hwz⟩⟩
  obtain ⟨a1, len1, cap1, rfl⟩ := okWide_slice Try.underlying22 (hval 1 22 v1 rfl rfl)
  have k1 := h1
  have lt1 : ∀ x ∈ p1, x.block < W.heap.size := by obtain ⟨m, hm⟩ := k1; exact DataW.trod_lt m _ _ _ hm
  obtain ⟨z1, w1⟩ : ∃ zs, IsRow .i64 W a1 len1 cap1 zs := by
    obtain ⟨fuel, hf⟩ := h1
    rcases open_ints Try.underlying22 Try.underlying2 (by kernel_rfl) hf with ⟨hcs, _⟩ | ⟨x, l, c, zs, hcs, _, hl, hm, hz, _, hcell, hwz⟩
    · simp [Value.cells] at hcs
      obtain ⟨rfl, rfl, rfl⟩ := hcs
      exact ⟨[], .inl ⟨rfl, rfl, rfl, rfl⟩⟩
    · simp [Value.cells] at hcs
      obtain ⟨rfl, rfl, rfl⟩ := hcs
      exact ⟨zs, .inr ⟨_, rfl, hl, hm, by simpa using hz, hcell, hwz⟩⟩
  clear hA0 hval0
  refine (walk a0 len0 cap0 z0 a1 len1 cap1 z1 W w0 w1).mono fun e W' ⟨he, bel⟩ => ?_
  subst he
  exact ⟨_, rfl, _, _, _, [], _, [], hW', trodAll_mk1 (shut_bool Try.underlying4 _), (trodAll_cons_mk (Below.trod laidOut (by kernel_rfl) (of_decide_eq_true (by kernel_rfl)) k0 bel lt0) (trodAll_cons_mk (Below.trod laidOut (by kernel_rfl) (of_decide_eq_true (by kernel_rfl)) k1 bel lt1) trodAll_mk0)), rfl, bel.frame _, fun h => by cases h⟩

theorem over : Rows.vecTurnedRow.holds Try.pinned (OpenSpec.ofChange Rows.vecTurnedSpec) :=
  OpenClaim.holds_of_wide 6 Try.f6 rfl rfl rfl rfl rfl rfl rfl ⟨rfl, rfl, rfl, rfl, rfl⟩ rfl rfl rfl rfl rfl (by kernel_rfl) Try.func6 (by kernel_rfl)
    (of_decide_eq_true (by kernel_rfl)) (by unfold Func.isWrapper; first | (rw [if_pos (by decide +kernel)]; kernel_rfl) | (rw [if_neg (by decide +kernel)]; exact ⟨rfl, rfl⟩))
    (fun os started H enc _ => lifted os started H enc)

theorem proved : Rows.VecTurnedSaid := over
end Go.Proofs.Ytgedmelohiajjaa.vecTurned
