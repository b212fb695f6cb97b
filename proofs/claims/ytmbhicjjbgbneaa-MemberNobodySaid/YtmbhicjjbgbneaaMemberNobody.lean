/- A list that nobody made answers an error, and has nothing. -/
import Derived.Test.YtmbhicjjbgbneaaRows
import Derived.WalkKit
import Derived.ProofKit
import Derived.OpenShut
import Derived.ShutString
import Derived.ChangeOld
import Derived.Below
import Derived.Test.YtmbhicjjbgbneaaOpn
import Derived.Test.YtmbhicjjbgbneaaMbF
namespace Go.Proofs.Ytmbhicjjbgbneaa.memberNobody
open Go.ChangeShapes Go.WideShapes Go.ChangeAt Go.RowKit
open Go.ChangeMaps (open_string shut_string)
set_option linter.unusedVariables false
set_option linter.unusedSimpArgs false
open Go.Proofs.YtmbhicjjbgbneaaW.PrintWords Go.Proofs.YtmbhicjjbgbneaaW.PrintLast Go.Proofs.YtmbhicjjbgbneaaW.PrintMore

theorem own : ownKnob Try.prog.godebug = none := by kernel_rfl
theorem laidOut : laidOutB Try.prog = true := by kernel_rfl

set_option maxRecDepth 100000
set_option maxHeartbeats 2000000 in
theorem walk (cs0 : Array Value) (x0 : MStepV) (w : World) (k0 : KMStep.K w x0 cs0.toList) (gd0 : (MStepG) x0) :
    Calls Try.prog 8 #[.agg cs0] w fun e w' => e = .returned (.bool true) ∧ Below w.heap.size w w' := by
  obtain rfl := mstep_cells k0
  obtain ⟨kd, lt, n, i, wt, by_⟩ := x0
  dsimp only at *
  obtain ⟨W0, hW0⟩ : ∃ W0, w.alloc (.cells #[.int .u8 kd, .int .i64 lt, .int .u64 n, .int .u64 i, .int .i64 wt, .int .i64 by_] 64) = W0 := ⟨_, rfl⟩
  obtain ⟨g, hg⟩ : ∃ g, w.heap.size = g := ⟨_, rfl⟩
  have hb0 : Below w.heap.size w W0 := by rw [← hW0]; exact below_alloc (Below.refl _ _) _
  have hk0 := heap_alloc_new w (.cells #[.int .u8 kd, .int .i64 lt, .int .u64 n, .int .u64 i, .int .i64 wt, .int .i64 by_] 64)
  rw [hW0, hg] at hk0
  have hs0 : W0.heap.size = g + 1 := by rw [← hW0, ← hg]; simp
  have hb1 := below_alloc (Below.refl W0.heap.size W0) (.cells #[.int .i64 0, .int .u64 0, .map none] 95)
  have hk1 := heap_alloc_new W0 (.cells #[.int .i64 0, .int .u64 0, .map none] 95)
  obtain ⟨W1, hW1⟩ : ∃ W1, W0.alloc (.cells #[.int .i64 0, .int .u64 0, .map none] 95) = W1 := ⟨_, rfl⟩
  rw [hW1] at hb1 hk1
  have hs1 : W1.heap.size = g + 1 + 1 := by rw [← hW1]; simp [hs0]
  have hb2 := below_alloc (Below.refl W1.heap.size W1) (.cells #[.pointer none, .pointer (some ⟨g + 1, 0, none⟩)] 60)
  have hk2 := heap_alloc_new W1 (.cells #[.pointer none, .pointer (some ⟨g + 1, 0, none⟩)] 60)
  obtain ⟨W2, hW2⟩ : ∃ W2, W1.alloc (.cells #[.pointer none, .pointer (some ⟨g + 1, 0, none⟩)] 60) = W2 := ⟨_, rfl⟩
  rw [hW2] at hb2 hk2
  have HB := Lib.hid (below_then hb0 hb0.size (below_then hb1 hb1.size hb2))
  have HST := Lib.hid (blk_below (blk_below hk0 hb1) hb2)
  rw [hs0] at hk1
  have HLS := Lib.hid (blk_below hk1 hb2)
  rw [hs1] at hk2
  have HRW := Lib.hid hk2
  have HW0 := Lib.hid hW0
  have HW1 := Lib.hid hW1
  have HW2 := Lib.hid hW2
  have HG := Lib.hid hg
  clear k0 gd0 hW0 hW1 hW2 hg hb0 hb1 hb2 hk0 hk1 hk2 hs0 hs1
  go_enter Try.func8, Try.ntmps8
  go_wp2_with fail
  try rw [HG.out]
  rw [HW0.out, HW1.out, HW2.out]
  go_loopw [15] (fun s wr => ∃ k : Nat, s = .int .i64 k ∧ k ≤ 2 ∧ Hid (Below W2.heap.size W2 wr)) (fun s _ => 2 - (intOf s).toNat)
  case atStart => exact ⟨0, rfl, by omega, Lib.hid (Below.refl _ _)⟩
  case round =>
    obtain ⟨k, rfl, hk, HBr⟩ := hrel
    by_cases hk2 : k < 2
    · have hl : ∃ lv, wr.cell? ⟨g + 1 + 1, k, none⟩ = some lv ∧ NoM wr lv := by
        have hr := blk_below HRW.out HBr.out
        have hls := blk_below HLS.out HBr.out
        rcases (by omega : k = 0 ∨ k = 1) with rfl | rfl
        · exact ⟨_, blk_cell hr 0, .inl rfl⟩
        · exact ⟨_, blk_cell hr 1, .inr ⟨g + 1, rfl, blk_cell hls 2⟩⟩
      obtain ⟨lv, q, hno⟩ := hl
      have HNO := Lib.hid (fun (W' : World) (hb : Below wr.heap.size wr W') => hno.below hb)
      have HSTr := Lib.hid (blk_below HST.out HBr.out)
      have z1 := blk_cell HSTr.out 1
      have z2 := blk_cell HSTr.out 2
      have z3 := blk_cell HSTr.out 3
      clear hno
      go_wp2_with fail
      refine (mbadd_no wr lv (HNO.out _ (Below.refl _ _)) lt).mono ?_
      rintro e w' ⟨rfl, rfl⟩
      go_wp2_with fail
      refine (mbup_no wr lv (HNO.out _ (Below.refl _ _)) lt n i).mono ?_
      rintro e w' ⟨rfl, rfl⟩
      go_wp2_with fail
      refine (mbget_no wr lv (HNO.out _ (Below.refl _ _)) n).mono ?_
      rintro e w3 ⟨rfl, hb⟩
      obtain ⟨W4, hW4⟩ : ∃ W4, w3.alloc (.cells #[.int .u64 0, .int .i64 0, .int .u64 0, .int .i64 0, .int .i64 0] 75) = W4 := ⟨_, rfl⟩
      obtain ⟨x, hx⟩ : ∃ x, w3.heap.size = x := ⟨_, rfl⟩
      have hb4 : Below w3.heap.size w3 W4 := by rw [← hW4]; exact below_alloc (Below.refl _ _) _
      have hkx := heap_alloc_new w3 (.cells #[.int .u64 0, .int .i64 0, .int .u64 0, .int .i64 0, .int .i64 0] 75)
      rw [hW4, hx] at hkx
      have hbr4 := below_then hb hb.size hb4
      have hst := blk_below HSTr.out hbr4
      have HB4 := Lib.hid (below_then HBr.out HBr.out.size hbr4)
      have HN4 := Lib.hid (HNO.out _ hbr4)
      clear z1 z2 z3 q
      have z1 := blk_cell hst 1
      have z2 := blk_cell hst 2
      have z3 := blk_cell hst 3
      have z4 := blk_cell hst 4
      have z5 := blk_cell hst 5
      have y0 := blk_cell hkx 0
      have y1 := blk_cell hkx 1
      have y2 := blk_cell hkx 2
      have y3 := blk_cell hkx 3
      have y4 := blk_cell hkx 4
      have HW4 := Lib.hid (And.intro hW4 hx)
      clear hb4 hkx hbr4 hst hW4 hx hb
      go_upto_region 7 with fail
      rw [HW4.out.1, HW4.out.2]
      go_wp2_with fail
      refine (mblost_no _ lv HN4.out lt n).mono ?_
      rintro e w' ⟨rfl, rfl⟩
      go_wp2_with fail
      refine (mbdrain_no _ lv HN4.out lt n).mono ?_
      rintro e w' ⟨rfl, rfl⟩
      go_wp2_with fail
      refine (mbremove_no _ lv HN4.out lt n wt).mono ?_
      rintro e w' ⟨rfl, rfl⟩
      go_wp2_with fail
      refine (mbbind_no _ lv HN4.out n by_).mono ?_
      rintro e w' ⟨rfl, rfl⟩
      go_wp2_with fail
      refine (mball_no _ lv HN4.out).mono ?_
      rintro e w' ⟨rfl, rfl⟩
      go_wp2_with fail
      refine (mblive_no _ lv HN4.out).mono ?_
      rintro e w' ⟨rfl, rfl⟩
      go_wp2_with fail
      refine (mbnow_no _ lv HN4.out).mono ?_
      rintro e w' ⟨rfl, rfl⟩
      go_wp2_with fail
      go_roundw
      case rel => exact ⟨k + 1, by go_num, by omega, HB4⟩
      case measure => simp [intOf]; omega
    · go_wp2_with fail
      refine (alive24_any _).mono ?_
      rintro e w3 ⟨rfl, hb⟩
      have HE := Lib.hid (below_then HB.out HB.out.size (below_then HBr.out HBr.out.size hb))
      clear hb
      go_wp2_with fail
      go_ret
      exact ⟨rfl, HE.out⟩

set_option maxRecDepth 100000 in
theorem lifted (os : Os) (started : os.Started) (H : Type) (enc : TypeId × Value → H) :
    ReturnsInHanded {} Try.checked os 8 .any (Rows.memberNobodySpec.pre6 enc Try.prog Try.f8 Rows.memberNobodyRow.domain false) (Rows.memberNobodySpec.post enc Try.prog Try.f8 false true false false) := by
  refine returnsInHanded_of_change (C := Try.checked) own started (by kernel_rfl) Try.func8
    (ChangeSpec.witness6 (enc := enc) (C := Try.checked) false ⟨#[], #[.agg #[.int .u8 0, .int .i64 0, .int .u64 0, .int .u64 0, .int .i64 0, .int .i64 0]], []⟩ 8 (by kernel_rfl) (by kernel_rfl) (by kernel_rfl) (by kernel_rfl)) ?_
  intro W base args ds gs before hval0 hW hcnd _
  have hval : ∀ (j : Nat) t v, Try.f8.params[j]? = some t → args[j]? = some v → Value.okWide Try.prog W .any base t v := hval0
  have hW' := hW
  obtain ⟨p, q, hA0, hV, rfl, hfz, hnd⟩ := hW
  have hA : DataW.TrodAll enc Try.prog W 0 (fun _ => true) true Try.f8.params.toList args.toList ds p := hA0
  rw [Try.params8] at hA hval
  obtain ⟨v0, vs0, d0, ds0, p0, q0, hargs, rfl, rfl, h0, r0⟩ := trodAll_cons hA
  obtain ⟨rfl, rfl, rfl⟩ := trodAll_nil r0
  obtain rfl : args = #[v0] := by cases args; simp_all
  obtain ⟨rfl, rfl⟩ := trodVars_none hV
  have k0 := h0
  have lt0 : ∀ x ∈ p0, x.block < W.heap.size := by obtain ⟨m, hm⟩ := k0; exact DataW.trod_lt m _ _ _ hm
  obtain ⟨cs0, rfl, _⟩ := okWide_struct Try.underlying64 (hval 0 64 v0 rfl rfl)
  obtain ⟨x0, y0, g0⟩ : ∃ x, KMStep.K W x cs0.toList ∧ (MStepG) x := by obtain ⟨m, hm⟩ := k0; exact op_mstep _ _ _ m _ _ hm
  clear hA0 hval0
  refine (walk cs0 x0 W y0 g0).mono fun e W' ⟨he, bel⟩ => ?_
  subst he
  exact ⟨_, rfl, _, _, _, [], _, [], hW', trodAll_mk1 (shut_bool Try.underlying4 _), (trodAll_cons_mk (Below.trod laidOut (by kernel_rfl) (of_decide_eq_true (by kernel_rfl)) k0 bel lt0) trodAll_mk0), rfl, bel.frame _, fun h => by cases h⟩

theorem over : Rows.memberNobodyRow.holds Try.pinned (OpenSpec.ofChange Rows.memberNobodySpec) :=
  OpenClaim.holds_of_wide 8 Try.f8 rfl rfl rfl rfl rfl rfl rfl ⟨rfl, rfl, rfl, rfl, rfl⟩ rfl rfl rfl rfl rfl (by kernel_rfl) Try.func8 (by kernel_rfl)
    (of_decide_eq_true (by kernel_rfl)) (by unfold Func.isWrapper; first | (rw [if_pos (by decide +kernel)]; kernel_rfl) | (rw [if_neg (by decide +kernel)]; exact ⟨rfl, rfl⟩))
    (fun os started H enc _ => lifted os started H enc)

theorem proved : Rows.MemberNobodySaid := over
end Go.Proofs.Ytmbhicjjbgbneaa.memberNobody
