/- vec.Top gives the document's places of the greatest ones, for every vector and every number. -/
import Derived.Test.YtgedmelohiajjaaRows
import Derived.WalkKit
import Derived.ProofKit
import Derived.OpenShut
import Derived.ShutString
import Derived.ChangeOld
import Derived.Below
import Derived.Test.YtgedmelohiajjaaGbTopR
import Derived.Test.YtgedmelohiajjaaGbLaw8
namespace Go.Proofs.Ytgedmelohiajjaa.vecTops
open Go.ChangeShapes Go.WideShapes Go.ChangeAt Go.RowKit
open Go.ChangeMaps (open_string shut_string)
set_option linter.unusedVariables false
set_option linter.unusedSimpArgs false
open Go.Proofs.YtgedmelohiajjaaW.PrintWords Go.Proofs.YtgedmelohiajjaaW.PrintLast Go.Proofs.YtgedmelohiajjaaW.PrintMore

theorem own : ownKnob Try.prog.godebug = none := by kernel_rfl
theorem laidOut : laidOutB Try.prog = true := by kernel_rfl

def IsRow (k : IntKind) (w : World) (a : Option Addr) (len cap : Nat) (zs : List Int) : Prop :=
  (a = none ∧ len = 0 ∧ cap = 0 ∧ zs = []) ∨
  ∃ x, a = some x ∧ len ≤ cap ∧ cap ≤ maxLen ∧ zs.length = cap ∧ (∀ i, i < zs.length → w.cell? (x.add i) = some (.int k (zs.getD i 0))) ∧ ∀ n ∈ zs, (Lit.int k n).wf = true

set_option maxRecDepth 100000 in
set_option maxHeartbeats 1000000 in
theorem walk (a0 : Option Addr) (len0 cap0 : Nat) (z0 : List Int) (a1 : Int) (w : World) (w0 : IsRow .i64 w a0 len0 cap0 z0) (w1 : (Lit.int .i64 a1).wf = true) :
    Calls Try.prog 3 #[.slice a0 len0 cap0, .int .i64 a1] w fun e w' => e = .returned (.bool true) ∧ Below w.heap.size w w' := by
  obtain ⟨xs, rfl, hxs, hcxs, -⟩ := isrow_C w0
  clear w0 w1
  have hr := rows1 w 22 a0 cap0 xs hxs hcxs
  have HR := Lib.hid hr
  have HX := Lib.hid (fun (W : World) (hb : Below w.heap.size w W) => Kd.C_below hxs hb)
  clear hr hxs
  by_cases hf : farB [xs] = true
  · go_enter Try.func3, Try.ntmps3
    go_wp2_with fail
    refine (far_any _ _ [xs] _ HR.out (by simp)).mono ?_
    unfold FarR
    rw [hf]
    rintro e w' ⟨rfl, rfl⟩
    go_wp2_with fail
    refine (alive_any _).mono ?_
    rintro e w1 ⟨rfl, hb⟩
    have HB := Lib.hid hb
    clear hb
    go_wp2_with fail
    go_ret
    exact ⟨rfl, below_then (below_alloc (Below.refl _ w) _) (by simp) HB.out⟩
  · have hf' : farB [xs] = false := by simpa using hf
    have hn := far1 xs hf'
    have HF := Lib.hid hf'
    clear hf hf'
    go_enter Try.func3, Try.ntmps3
    go_wp2_with fail
    refine (far_any _ _ [xs] _ HR.out (by simp)).mono ?_
    unfold FarR
    rw [HF.out]
    rintro e w' ⟨rfl, rfl⟩
    obtain ⟨W0, hW0⟩ : ∃ W0, w.alloc (.cells #[.slice a0 xs.length cap0] 22) = W0 := ⟨_, rfl⟩
    have HB0 := Lib.hid (show Below w.heap.size w W0 by rw [← hW0]; exact below_alloc (Below.refl _ w) _)
    rw [hW0]
    clear hW0
    go_wp2_with fail
    refine (top_any _ _ xs a1 W0 (HX.out _ HB0.out) hcxs (by omega)).mono ?_
    rintro e W1 ⟨v1, rfl, ho1, hb1⟩
    have HB1 := Lib.hid (below_then HB0.out HB0.out.size hb1)
    have HO1 := Lib.hid ho1
    clear ho1 hb1
    go_wp2_with fail
    refine (rtop_any _ _ xs a1 W1 (HX.out _ HB1.out) hcxs (by omega)).mono ?_
    rintro e W2 ⟨v2, rfl, ho2, hb2⟩
    have HB2 := Lib.hid (below_then HB1.out HB1.out.size hb2)
    have ho1 := HO1.out.below hb2
    have hvl : (vtop xs a1).length ≤ 1000 := by
      obtain ⟨T, h1, h2, -⟩ := vtop_tops xs a1
      rw [h1, List.length_map, h2]; omega
    obtain ⟨ss, hss⟩ : ∃ ss, vtop xs a1 = ss := ⟨_, rfl⟩
    rw [hss] at ho1 ho2 hvl
    obtain ⟨A1, k1, rfl, hk1, hC1⟩ := ho1.reads
    obtain ⟨A2, k2, rfl, hk2, hC2⟩ := ho2.reads
    have HC1 := Lib.hid hC1
    have HC2 := Lib.hid hC2
    obtain ⟨n, hnn⟩ : ∃ n, ss.length = n := ⟨_, rfl⟩
    rw [hnn] at hvl hk1 hk2 ⊢
    have HN := Lib.hid hnn
    have z : ((n : Int) != (n : Int)) = false := by simp
    clear ho1 ho2 hb2 hss hnn hC1 hC2 HO1
    go_wp2_with fail
    go_loopw [25] (fun s wr => ∃ i : Nat, s = .int .i64 i ∧ i ≤ n ∧ Below W2.heap.size W2 wr) (fun s _ => n - (intOf s).toNat)
    case atStart => exact ⟨0, rfl, by omega, Below.refl _ _⟩
    case round =>
      obtain ⟨i, rfl, hi, hb⟩ := hrel
      have HB3 := Lib.hid hb
      clear hb
      by_cases hin : i < n
      · obtain ⟨b1, e1, c1⟩ := at_nat (Kd.C_below HC1.out HB3.out) i (by rw [HN.out]; exact hin)
        obtain ⟨b2, e2, c2⟩ := at_nat (Kd.C_below HC2.out HB3.out) i (by rw [HN.out]; exact hin)
        subst e1 e2
        obtain ⟨x, hxx⟩ : ∃ x, ss.getD i 0 = x := ⟨_, rfl⟩
        rw [hxx] at c1 c2
        have z2 : (x != x) = false := by simp
        clear hxx
        go_wp2_with fail
        go_quiet (fail)
        go_wp2_with fail
        go_roundw
        case rel => exact ⟨i + 1, by go_num, by omega, pw_below_drewN HB3.out _⟩
        case measure => simp [intOf]; omega
      · go_wp2_with fail
        refine (alive_any _).mono ?_
        rintro e W5 ⟨rfl, hb5⟩
        have HB5 := Lib.hid (below_then (below_then HB2.out HB2.out.size HB3.out) (Nat.le_trans HB2.out.size HB3.out.size) hb5)
        clear hb5
        go_wp2_with fail
        go_ret
        exact ⟨rfl, HB5.out⟩

set_option maxRecDepth 100000 in
theorem lifted (os : Os) (started : os.Started) (H : Type) (enc : TypeId × Value → H) :
    ReturnsInHanded {} Try.checked os 3 .any (Rows.vecTopsSpec.pre6 enc Try.prog Try.f3 Rows.vecTopsRow.domain false) (Rows.vecTopsSpec.post enc Try.prog Try.f3 false true false false) := by
  refine returnsInHanded_of_change (C := Try.checked) own started (by kernel_rfl) Try.func3
    (ChangeSpec.witness6 (enc := enc) (C := Try.checked) false ⟨#[], #[.slice none 0 0, .int .i64 0], []⟩ 8 (by kernel_rfl) (by kernel_rfl) (by kernel_rfl) (by kernel_rfl)) ?_
  intro W base args ds gs before hval0 hW hcnd _
  have hval : ∀ (j : Nat) t v, Try.f3.params[j]? = some t → args[j]? = some v → Value.okWide Try.prog W .any base t v := hval0
  have hW' := hW
  obtain ⟨p, q, hA0, hV, rfl, hfz, hnd⟩ := hW
  have hA : DataW.TrodAll enc Try.prog W 0 (fun _ => true) true Try.f3.params.toList args.toList ds p := hA0
  rw [Try.params3] at hA hval
  obtain ⟨v0, vs0, d0, ds0, p0, q0, hargs, rfl, rfl, h0, r0⟩ := trodAll_cons hA
  obtain ⟨v1, vs1, d1, ds1, p1, q1, rfl, rfl, rfl, h1, r1⟩ := trodAll_cons r0
  obtain ⟨rfl, rfl, rfl⟩ := trodAll_nil r1
  obtain rfl : args = #[v0, v1] := by cases args; simp_all
  obtain ⟨rfl, rfl⟩ := trodVars_none hV
  obtain ⟨a0, len0, cap0, rfl⟩ := okWide_slice Try.underlying22 (hval 0 22 v0 rfl rfl)
  have k0 := h0
  have lt0 : ∀ x ∈ p0, x.block < W.heap.size := by obtain ⟨m, hm⟩ := k0; exact DataW.trod_lt m _ _ _ hm
  obtain ⟨z0, w0⟩ : ∃ zs, IsRow .i64 W a0 len0 cap0 zs := by
    obtain ⟨fuel, hf⟩ := h0
    rcases open_ints Try.underlying22 Try.underlying2 (by kernel_rfl) hf with ⟨hcs, _⟩ | ⟨x, l, c, zs, hcs, _, hl, hm, hz, _, hcell, hwz⟩
    · simp [Value.cells] at hcs
      obtain ⟨rfl, rfl, rfl⟩ := hcs
      exact ⟨[], .inl ⟨rfl, rfl, rfl, rfl⟩⟩
    · simp [Value.cells] at hcs
      obtain ⟨rfl, rfl, rfl⟩ := hcs
      exact ⟨zs, .inr ⟨_, rfl, hl, hm, by simpa using hz, hcell, hwz⟩⟩
  obtain ⟨a1, rfl, rfl, rfl, w1⟩ := open_int Try.underlying3 (hval 1 3 v1 rfl rfl) h1
  clear hA0 hval0
  refine (walk a0 len0 cap0 z0 a1 W w0 w1).mono fun e W' ⟨he, bel⟩ => ?_
  subst he
  exact ⟨_, rfl, _, _, _, [], _, [], hW', trodAll_mk1 (shut_bool Try.underlying4 _), (trodAll_cons_mk (Below.trod laidOut (by kernel_rfl) (of_decide_eq_true (by kernel_rfl)) k0 bel lt0) (trodAll_cons_mk (shut_int Try.underlying3 w1) trodAll_mk0)), rfl, bel.frame _, fun h => by cases h⟩

theorem over : Rows.vecTopsRow.holds Try.pinned (OpenSpec.ofChange Rows.vecTopsSpec) :=
  OpenClaim.holds_of_wide 3 Try.f3 rfl rfl rfl rfl rfl rfl rfl ⟨rfl, rfl, rfl, rfl, rfl⟩ rfl rfl rfl rfl rfl (by kernel_rfl) Try.func3 (by kernel_rfl)
    (of_decide_eq_true (by kernel_rfl)) (by unfold Func.isWrapper; first | (rw [if_pos (by decide +kernel)]; kernel_rfl) | (rw [if_neg (by decide +kernel)]; exact ⟨rfl, rfl⟩))
    (fun os started H enc _ => lifted os started H enc)

theorem proved : Rows.VecTopsSaid := over
end Go.Proofs.Ytgedmelohiajjaa.vecTops
