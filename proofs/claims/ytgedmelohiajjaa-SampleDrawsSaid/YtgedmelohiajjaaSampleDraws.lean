/- The likeliest mark, and what is drawn, are the document's. -/
import Derived.Test.YtgedmelohiajjaaRows
import Derived.WalkKit
import Derived.ProofKit
import Derived.OpenShut
import Derived.ShutString
import Derived.ChangeOld
import Derived.Below
import Derived.Lib.SmallJoins
import Derived.Test.YtgedmelohiajjaaGbSamL
namespace Go.Proofs.Ytgedmelohiajjaa.sampleDraws
open Go.ChangeShapes Go.WideShapes Go.ChangeAt Go.RowKit
open Go.ChangeMaps (open_string shut_string)
set_option linter.unusedVariables false
set_option linter.unusedSimpArgs false
open Go.Proofs.YtgedmelohiajjaaW.PrintWords Go.Proofs.YtgedmelohiajjaaW.PrintLast Go.Proofs.YtgedmelohiajjaaW.PrintMore

theorem own : ownKnob Try.prog.godebug = none := by kernel_rfl
theorem laidOut : laidOutB Try.prog = true := by kernel_rfl
theorem cells43 : Try.prog.cellsOf 43 = 4 := by kernel_rfl

def IsRow (k : IntKind) (w : World) (a : Option Addr) (len cap : Nat) (zs : List Int) : Prop :=
  (a = none ∧ len = 0 ∧ cap = 0 ∧ zs = []) ∨
  ∃ x, a = some x ∧ len ≤ cap ∧ cap ≤ maxLen ∧ zs.length = cap ∧ (∀ i, i < zs.length → w.cell? (x.add i) = some (.int k (zs.getD i 0))) ∧ ∀ n ∈ zs, (Lit.int k n).wf = true

set_option maxRecDepth 100000 in
set_option maxHeartbeats 1000000 in
theorem walk (a0 : Option Addr) (len0 cap0 : Nat) (z0 : List Int) (b1_0 b1_1 b1_2 b1_3 : Int) (w : World) (w0 : IsRow .i64 w a0 len0 cap0 z0) (w1_0 : (Lit.int .i64 b1_0).wf = true) (w1_1 : (Lit.int .i64 b1_1).wf = true) (w1_2 : (Lit.int .u64 b1_2).wf = true) (w1_3 : (Lit.int .u64 b1_3).wf = true) :
    Calls Try.prog 10 #[.slice a0 len0 cap0, .agg #[.int .i64 b1_0, .int .i64 b1_1, .int .u64 b1_2, .int .u64 b1_3]] w fun e w' => e = .returned (.bool true) ∧ Below w.heap.size w w' := by
  obtain ⟨xs, rfl, hxs, hcxs, -⟩ := isrow_C w0
  have HX := Lib.hid (fun (W : World) (hb : Below w.heap.size w W) => Kd.C_below hxs hb)
  have hh : b1_1 ≤ 9223372036854775807 := by simp [Lit.wf, IntKind.min, IntKind.max, IntKind.signed, IntKind.bits] at w1_1; omega
  clear w0 w1_0 w1_1 w1_2 w1_3 hxs
  by_cases hf : 200 < xs.length
  · go_enter Try.func10, Try.ntmps10
    go_wp2_with fail
    refine (far11_any _ _ _ _).mono ?_
    unfold Far11
    rw [decide_eq_true hf]
    rintro e w' ⟨rfl, rfl⟩
    go_wp2_with fail
    refine (alive11_any _).mono ?_
    rintro e w1 ⟨rfl, hb⟩
    have HB := Lib.hid hb
    clear hb
    go_wp2_with fail
    go_ret
    exact ⟨rfl, below_then (below_alloc (Below.refl _ w) _) (by simp) HB.out⟩
  · go_enter Try.func10, Try.ntmps10
    go_wp2_with fail
    refine (far11_any _ _ _ _).mono ?_
    unfold Far11
    rw [decide_eq_false hf]
    rintro e w' ⟨rfl, rfl⟩
    go_wp2_with fail
    obtain ⟨W0, hW0⟩ : ∃ W0, w.alloc (.cells #[.int .i64 b1_0, .int .i64 b1_1, .int .u64 b1_2, .int .u64 b1_3] 43) = W0 := ⟨_, rfl⟩
    obtain ⟨B, hB⟩ : ∃ B, w.heap.size = B := ⟨_, rfl⟩
    have hS : Box4 B w b1_0 b1_1 b1_2 b1_3 W0 := by
      rw [← hW0, ← hB]
      exact ⟨by simp, by simp, by simp, by simp, Lib.hid (below_alloc (Below.refl _ w) _)⟩
    rw [hW0, hB]
    have HBB := Lib.hid hB
    have hle : xs.length ≤ 4096 := by omega
    clear hW0 hB hf
    go_region_held3 (fun w' => w'.cell? ⟨B, 0, none⟩ = some (.int .i64 b1_0) ∧ w'.cell? ⟨B, 1, none⟩ = some (.int .i64 b1_1) ∧ w'.cell? ⟨B, 2, none⟩ = some (.int .u64 b1_2) ∧ w'.cell? ⟨B, 3, none⟩ = some (.int .u64 b1_3) ∧ Hid (Below w.heap.size w w'))
      (first | exact Box4.step hS (below_drew (Below.refl _ _)) | exact Box4.step (by assumption) (by assumption) | trace_state)
      (first
        | (go_at_call 39; refine (sbest_any _ _ xs _ (HX.out _ (Box4.below (by assumption))) hcxs hle).mono ?_; rintro e w' ⟨rfl, hb⟩)
        | (go_at_call 40; refine (rsbest_any _ _ xs _ (HX.out _ (Box4.below (by assumption))) hcxs hle).mono ?_; rintro e w' ⟨rfl, hb⟩)
        | (go_at_call 41; refine (draw_any _ _ xs _ _ _ _ _ (HX.out _ (Box4.below (by assumption))) hcxs hle hh).mono ?_; rintro e w' ⟨rfl, hb⟩)
        | (go_at_call 42; refine (rdraw_any _ _ xs _ _ _ _ _ (HX.out _ (Box4.below (by assumption))) hcxs hle hh).mono ?_; rintro e w' ⟨rfl, hb⟩)
        | (go_at_call 38; refine (alive11_any _).mono ?_; rintro e w' ⟨rfl, hb⟩))
    all_goals
      go_wp2_with fail
      go_ret
      exact ⟨rfl, Box4.below (by assumption)⟩

set_option maxRecDepth 100000 in
theorem lifted (os : Os) (started : os.Started) (H : Type) (enc : TypeId × Value → H) :
    ReturnsInHanded {} Try.checked os 10 .any (Rows.sampleDrawsSpec.pre6 enc Try.prog Try.f10 Rows.sampleDrawsRow.domain false) (Rows.sampleDrawsSpec.post enc Try.prog Try.f10 false true false false) := by
  refine returnsInHanded_of_change (C := Try.checked) own started (by kernel_rfl) Try.func10
    (ChangeSpec.witness6 (enc := enc) (C := Try.checked) false ⟨#[], #[.slice none 0 0, .agg #[.int .i64 0, .int .i64 0, .int .u64 0, .int .u64 0]], []⟩ 8 (by kernel_rfl) (by kernel_rfl) (by kernel_rfl) (by kernel_rfl)) ?_
  intro W base args ds gs before hval0 hW hcnd _
  have hval : ∀ (j : Nat) t v, Try.f10.params[j]? = some t → args[j]? = some v → Value.okWide Try.prog W .any base t v := hval0
  have hW' := hW
  obtain ⟨p, q, hA0, hV, rfl, hfz, hnd⟩ := hW
  have hA : DataW.TrodAll enc Try.prog W 0 (fun _ => true) true Try.f10.params.toList args.toList ds p := hA0
  rw [Try.params10] at hA hval
  obtain ⟨v0, vs0, d0, ds0, p0, q0, hargs, rfl, rfl, h0, r0⟩ := trodAll_cons hA
  obtain ⟨v1, vs1, d1, ds1, p1, q1, rfl, rfl, rfl, h1, r1⟩ := trodAll_cons r0
  obtain ⟨rfl, rfl, rfl⟩ := trodAll_nil r1
  obtain rfl : args = #[v0, v1] := by cases args; simp_all
  obtain ⟨rfl, rfl⟩ := trodVars_none hV
  obtain ⟨a0, len0, cap0, rfl⟩ := okWide_slice Try.underlying22 (hval 0 22 v0 rfl rfl)
  have k0 := h0
  have lt0 : ∀ x ∈ p0, x.block < W.heap.size := by obtain ⟨m, hm⟩ := k0; exact DataW.trod_lt m _ _ _ hm
  obtain ⟨z0, w0⟩ : ∃ zs, IsRow .i64 W a0 len0 cap0 zs := by
    obtain ⟨fuel, hf⟩ := h0
    rcases open_ints Try.underlying22 Try.underlying2 (by kernel_rfl) hf with ⟨hcs, _⟩ | ⟨x, l, c, zs, hcs, _, hl, hm, hz, _, hcell, hwz⟩
    · simp [Value.cells] at hcs
      obtain ⟨rfl, rfl, rfl⟩ := hcs
      exact ⟨[], .inl ⟨rfl, rfl, rfl, rfl⟩⟩
    · simp [Value.cells] at hcs
      obtain ⟨rfl, rfl, rfl⟩ := hcs
      exact ⟨zs, .inr ⟨_, rfl, hl, hm, by simpa using hz, hcell, hwz⟩⟩
  have k1 := h1
  have lt1 : ∀ x ∈ p1, x.block < W.heap.size := by obtain ⟨m, hm⟩ := k1; exact DataW.trod_lt m _ _ _ hm
  obtain ⟨c1_0, c1_1, c1_2, c1_3, y1_0, y1_1, y1_2, y1_3, m1, rfl, rfl, rfl, f1_0, f1_1, f1_2, f1_3⟩ := Go.Joins.open_agg4 Try.underlying43 (by kernel_rfl) cells43 (hval 1 43 v1 rfl rfl) h1
  obtain ⟨b1_0, e1_0, rfl, w1_0⟩ := DataW.trod_int Try.underlying3 f1_0
  simp at e1_0
  subst e1_0
  obtain ⟨b1_1, e1_1, rfl, w1_1⟩ := DataW.trod_int Try.underlying3 f1_1
  simp at e1_1
  subst e1_1
  obtain ⟨b1_2, e1_2, rfl, w1_2⟩ := DataW.trod_int Try.underlying41 f1_2
  simp at e1_2
  subst e1_2
  obtain ⟨b1_3, e1_3, rfl, w1_3⟩ := DataW.trod_int Try.underlying41 f1_3
  simp at e1_3
  subst e1_3
  clear hA0 hval0
  refine (walk a0 len0 cap0 z0 b1_0 b1_1 b1_2 b1_3 W w0 w1_0 w1_1 w1_2 w1_3).mono fun e W' ⟨he, bel⟩ => ?_
  subst he
  exact ⟨_, rfl, _, _, _, [], _, [], hW', trodAll_mk1 (shut_bool Try.underlying4 _), (trodAll_cons_mk (Below.trod laidOut (by kernel_rfl) (of_decide_eq_true (by kernel_rfl)) k0 bel lt0) (trodAll_cons_mk (Below.trod laidOut (by kernel_rfl) (of_decide_eq_true (by kernel_rfl)) k1 bel lt1) trodAll_mk0)), rfl, bel.frame _, fun h => by cases h⟩

theorem over : Rows.sampleDrawsRow.holds Try.pinned (OpenSpec.ofChange Rows.sampleDrawsSpec) :=
  OpenClaim.holds_of_wide 10 Try.f10 rfl rfl rfl rfl rfl rfl rfl ⟨rfl, rfl, rfl, rfl, rfl⟩ rfl rfl rfl rfl rfl (by kernel_rfl) Try.func10 (by kernel_rfl)
    (of_decide_eq_true (by kernel_rfl)) (by unfold Func.isWrapper; first | (rw [if_pos (by decide +kernel)]; kernel_rfl) | (rw [if_neg (by decide +kernel)]; exact ⟨rfl, rfl⟩))
    (fun os started H enc _ => lifted os started H enc)

theorem proved : Rows.SampleDrawsSaid := over
end Go.Proofs.Ytgedmelohiajjaa.sampleDraws
