/- A table that nobody made takes nothing. -/
import Derived.Test.YtmbhicjjbgbneaaRows
import Derived.WalkKit
import Derived.ProofKit
import Derived.OpenShut
import Derived.ShutString
import Derived.ChangeOld
import Derived.Below
import Derived.Test.YtmbhicjjbgbneaaOpn
import Derived.Test.YtmbhicjjbgbneaaAdG
namespace Go.Proofs.Ytmbhicjjbgbneaa.admitNobody
open Go.ChangeShapes Go.WideShapes Go.ChangeAt Go.RowKit
open Go.ChangeMaps (open_string shut_string)
set_option linter.unusedVariables false
set_option linter.unusedSimpArgs false
open Go.Proofs.YtmbhicjjbgbneaaW.PrintWords Go.Proofs.YtmbhicjjbgbneaaW.PrintLast Go.Proofs.YtmbhicjjbgbneaaW.PrintMore

theorem own : ownKnob Try.prog.godebug = none := by kernel_rfl
theorem laidOut : laidOutB Try.prog = true := by kernel_rfl

set_option maxRecDepth 100000
set_option maxHeartbeats 2000000 in
theorem walk (cs0 : Array Value) (x0 : AStepV) (w : World) (k0 : KAStep.K w x0 cs0.toList) (gd0 : (AStepG) x0) :
    Calls Try.prog 5 #[.agg cs0] w fun e w' => e = .returned (.bool true) ∧ Below w.heap.size w w' := by
  obtain ⟨A, c, rfl, hc, hx⟩ := astep_cells k0
  have HX0 := Lib.hid (fun (W' : World) (hb : Below w.heap.size w W') => Kd.C_below hx hb)
  have hb0 := below_alloc (Below.refl w.heap.size w) (.cells #[.int .u8 x0.1, .int .u64 x0.2.1, .int .u64 x0.2.2.1, .int .u64 x0.2.2.2.1, .slice A x0.2.2.2.2.1.length c, .int .i64 x0.2.2.2.2.2] 46)
  have hk0 := heap_alloc_new w (.cells #[.int .u8 x0.1, .int .u64 x0.2.1, .int .u64 x0.2.2.1, .int .u64 x0.2.2.2.1, .slice A x0.2.2.2.2.1.length c, .int .i64 x0.2.2.2.2.2] 46)
  obtain ⟨W0, hW0⟩ : ∃ W0, w.alloc (.cells #[.int .u8 x0.1, .int .u64 x0.2.1, .int .u64 x0.2.2.1, .int .u64 x0.2.2.2.1, .slice A x0.2.2.2.2.1.length c, .int .i64 x0.2.2.2.2.2] 46) = W0 := ⟨_, rfl⟩
  rw [hW0] at hb0 hk0
  obtain ⟨g, hg⟩ : ∃ g, w.heap.size = g := ⟨_, rfl⟩
  rw [hg] at hk0
  have hs0 : W0.heap.size = g + 1 := by rw [← hW0, ← hg]; simp
  have hb1 := below_alloc (Below.refl W0.heap.size W0) (.cells #[.int .u8 x0.1, .int .u64 x0.2.1, .int .u64 x0.2.2.1, .int .u64 x0.2.2.2.1, .slice A x0.2.2.2.2.1.length c, .int .i64 x0.2.2.2.2.2] 46)
  have hk1 := heap_alloc_new W0 (.cells #[.int .u8 x0.1, .int .u64 x0.2.1, .int .u64 x0.2.2.1, .int .u64 x0.2.2.2.1, .slice A x0.2.2.2.2.1.length c, .int .i64 x0.2.2.2.2.2] 46)
  obtain ⟨W1, hW1⟩ : ∃ W1, W0.alloc (.cells #[.int .u8 x0.1, .int .u64 x0.2.1, .int .u64 x0.2.2.1, .int .u64 x0.2.2.2.1, .slice A x0.2.2.2.2.1.length c, .int .i64 x0.2.2.2.2.2] 46) = W1 := ⟨_, rfl⟩
  rw [hW1] at hb1 hk1
  rw [hs0] at hk1
  have HB1 := Lib.hid (below_then hb0 hb0.size hb1)
  have hfar := far26_any (some ⟨g + 1, 0, none⟩) [x0] 1 W1 (asteps1 hk1 hc (HX0.out _ HB1.out)) (by simp)
  rw [show decide (10000 < farA ([x0].take 300)) = false from decide_eq_false (by show ¬ (10000 < min (x0.2.2.2.2.1.length : Int) 10000 + 0); omega)] at hfar
  have HFAR := Lib.hid (show Calls Try.prog 12 #[.slice (some ⟨g + 1, 0, none⟩) 1 1] W1 _ from hfar)
  obtain ⟨kd, s, u, sd, xs, most⟩ := x0
  dsimp only at *
  obtain ⟨n, hn⟩ : ∃ n, xs.length = n := ⟨_, rfl⟩
  rw [hn] at hc hW0 hW1 hk0 hk1
  rw [hn]
  have HK0 := Lib.hid (blk_below hk0 hb1)
  have HW0 := Lib.hid hW0
  have HW1 := Lib.hid hW1
  have HG := Lib.hid hg
  have y : W0.cell? ⟨g, 0, none⟩ = some (.int .u8 kd) ∧ W0.cell? ⟨g, 1, none⟩ = some (.int .u64 s) ∧ W0.cell? ⟨g, 2, none⟩ = some (.int .u64 u) ∧ W0.cell? ⟨g, 3, none⟩ = some (.int .u64 sd) ∧ W0.cell? ⟨g, 4, none⟩ = some (.slice A n c) ∧ W0.cell? ⟨g, 5, none⟩ = some (.int .i64 most) := ⟨blk_cell hk0 0, blk_cell hk0 1, blk_cell hk0 2, blk_cell hk0 3, blk_cell hk0 4, blk_cell hk0 5⟩
  obtain ⟨y0, y1, y2, y3, y4, y5⟩ := y
  have HS0 := Lib.hid hs0
  clear k0 gd0 hx hn hW0 hW1 hg hb0 hk0 hb1 hk1 hfar hs0
  go_enter Try.func5, Try.ntmps5
  go_upto_region 1 with fail
  try rw [HG.out]
  rw [HW0.out]
  go_wp2_with fail
  try rw [HS0.out]
  rw [HW1.out]
  refine HFAR.out.mono ?_
  rintro e w2 ⟨rfl, hb⟩
  have HB2 := Lib.hid (below_then HB1.out HB1.out.size hb)
  have HK2 := Lib.hid (blk_below HK0.out hb)
  clear hb y0 y1 y2 y3 y4 y5 HFAR HK0
  obtain ⟨h, hh⟩ : ∃ h, w2.heap.size = h := ⟨_, rfl⟩
  have hb3 := below_alloc (Below.refl w2.heap.size w2) (.cells #[.int .u64 0, .int .i64 0, .int .i64 0, .int .i64 0, .int .i64 0, .int .i64 0, .int .i64 0, .int .i64 0, .int .i64 0, .int .i64 0, .map none, .map none, .slice none 0 0] 56)
  have hk3 := heap_alloc_new w2 (.cells #[.int .u64 0, .int .i64 0, .int .i64 0, .int .i64 0, .int .i64 0, .int .i64 0, .int .i64 0, .int .i64 0, .int .i64 0, .int .i64 0, .map none, .map none, .slice none 0 0] 56)
  obtain ⟨W3, hW3⟩ : ∃ W3, w2.alloc (.cells #[.int .u64 0, .int .i64 0, .int .i64 0, .int .i64 0, .int .i64 0, .int .i64 0, .int .i64 0, .int .i64 0, .int .i64 0, .int .i64 0, .map none, .map none, .slice none 0 0] 56) = W3 := ⟨_, rfl⟩
  rw [hW3] at hb3 hk3
  rw [hh] at hk3
  have hs3 : W3.heap.size = h + 1 := by rw [← hW3, ← hh]; simp
  have hb4 := below_alloc (Below.refl W3.heap.size W3) (.cells #[.pointer none, .pointer (some ⟨h, 0, none⟩)] 28)
  have hk4 := heap_alloc_new W3 (.cells #[.pointer none, .pointer (some ⟨h, 0, none⟩)] 28)
  obtain ⟨W4, hW4⟩ : ∃ W4, W3.alloc (.cells #[.pointer none, .pointer (some ⟨h, 0, none⟩)] 28) = W4 := ⟨_, rfl⟩
  rw [hW4] at hb4 hk4
  rw [hs3] at hk4
  have HB4 := Lib.hid (below_then HB2.out HB2.out.size (below_then hb3 hb3.size hb4))
  have HST := Lib.hid (blk_below (blk_below HK2.out hb3) hb4)
  have HTB := Lib.hid (blk_below hk3 hb4)
  have HRW := Lib.hid hk4
  have HW3 := Lib.hid hW3
  have HW4 := Lib.hid hW4
  have HH := Lib.hid hh
  clear hb3 hk3 hb4 hk4 hW3 hW4 hs3 hh HK2
  go_wp2_with fail
  try rw [HH.out]
  rw [HW3.out, HW4.out]
  go_loopw [13] (fun sv wr => ∃ k : Nat, sv = .int .i64 k ∧ k ≤ 2 ∧ Hid (Below W4.heap.size W4 wr)) (fun sv _ => 2 - (intOf sv).toNat)
  case atStart => exact ⟨0, rfl, by omega, Lib.hid (Below.refl _ _)⟩
  case round =>
    obtain ⟨k, rfl, hk, HBr⟩ := hrel
    by_cases hk2 : k < 2
    · have hl : ∃ lv, wr.cell? ⟨h + 1, k, none⟩ = some lv ∧ NoT wr lv := by
        have hr := blk_below HRW.out HBr.out
        have hls := blk_below HTB.out HBr.out
        rcases (by omega : k = 0 ∨ k = 1) with rfl | rfl
        · exact ⟨_, blk_cell hr 0, .inl rfl⟩
        · exact ⟨_, blk_cell hr 1, .inr ⟨h, rfl, blk_cell hls 10⟩⟩
      obtain ⟨lv, q, hno⟩ := hl
      have HNO := Lib.hid (fun (W' : World) (hb : Below wr.heap.size wr W') => hno.below hb)
      have hst := blk_below HST.out HBr.out
      have HSTr := Lib.hid hst
      have z1 := blk_cell hst 1
      have z2 := blk_cell hst 2
      have z3 := blk_cell hst 3
      have z4 := blk_cell hst 4
      have z5 := blk_cell hst 5
      clear hno hst
      go_wp2_with fail
      refine (adask_no wr lv (HNO.out _ (Below.refl _ _)) s u sd most A n c).mono ?_
      rintro e w5 ⟨rfl, hb5⟩
      have HB5 := Lib.hid hb5
      have hst := blk_below HSTr.out hb5
      have HST5 := Lib.hid hst
      clear z1 z2 z3 z4 z5 hb5 q
      have z1 := blk_cell hst 1
      have z2 := blk_cell hst 2
      have z3 := blk_cell hst 3
      have z4 := blk_cell hst 4
      have z5 := blk_cell hst 5
      clear hst
      go_wp2_with fail
      refine (adtake_no w5 lv (HNO.out _ HB5.out) s u sd most A n c).mono ?_
      rintro e w6 ⟨rfl, hb6⟩
      have HB6 := Lib.hid (below_then HB5.out HB5.out.size hb6)
      have hst := blk_below HST5.out hb6
      clear z1 z2 z3 z4 z5 hb6
      have z1 := blk_cell hst 1
      have z2 := blk_cell hst 2
      have HN6 := Lib.hid (HNO.out _ HB6.out)
      have HBB := Lib.hid (below_then HBr.out HBr.out.size HB6.out)
      clear hst
      go_wp2_with fail
      refine (adover_no _ lv HN6.out s).mono ?_
      rintro e w' ⟨rfl, rfl⟩
      go_wp2_with fail
      refine (adstreams_no _ lv HN6.out).mono ?_
      rintro e w' ⟨rfl, rfl⟩
      go_wp2_with fail
      refine (adof_no _ lv HN6.out u).mono ?_
      rintro e w' ⟨rfl, rfl⟩
      go_wp2_with fail
      refine (adknows_no _ lv HN6.out s).mono ?_
      rintro e w' ⟨rfl, rfl⟩
      go_wp2_with fail
      go_roundw
      case rel => exact ⟨k + 1, by go_num, by omega, HBB⟩
      case measure => simp [intOf]; omega
    · go_wp2_with fail
      refine (alive26_any _).mono ?_
      rintro e w5 ⟨rfl, hb⟩
      have HE := Lib.hid (below_then HB4.out HB4.out.size (below_then HBr.out HBr.out.size hb))
      clear hb
      go_wp2_with fail
      go_ret
      exact ⟨rfl, HE.out⟩

set_option maxRecDepth 100000 in
theorem lifted (os : Os) (started : os.Started) (H : Type) (enc : TypeId × Value → H) :
    ReturnsInHanded {} Try.checked os 5 .any (Rows.admitNobodySpec.pre6 enc Try.prog Try.f5 Rows.admitNobodyRow.domain false) (Rows.admitNobodySpec.post enc Try.prog Try.f5 false true false false) := by
  refine returnsInHanded_of_change (C := Try.checked) own started (by kernel_rfl) Try.func5
    (ChangeSpec.witness6 (enc := enc) (C := Try.checked) false ⟨#[], #[.agg #[.int .u8 0, .int .u64 0, .int .u64 0, .int .u64 0, .slice none 0 0, .int .i64 0]], []⟩ 8 (by kernel_rfl) (by kernel_rfl) (by kernel_rfl) (by kernel_rfl)) ?_
  intro W base args ds gs before hval0 hW hcnd _
  have hval : ∀ (j : Nat) t v, Try.f5.params[j]? = some t → args[j]? = some v → Value.okWide Try.prog W .any base t v := hval0
  have hW' := hW
  obtain ⟨p, q, hA0, hV, rfl, hfz, hnd⟩ := hW
  have hA : DataW.TrodAll enc Try.prog W 0 (fun _ => true) true Try.f5.params.toList args.toList ds p := hA0
  rw [Try.params5] at hA hval
  obtain ⟨v0, vs0, d0, ds0, p0, q0, hargs, rfl, rfl, h0, r0⟩ := trodAll_cons hA
  obtain ⟨rfl, rfl, rfl⟩ := trodAll_nil r0
  obtain rfl : args = #[v0] := by cases args; simp_all
  obtain ⟨rfl, rfl⟩ := trodVars_none hV
  have k0 := h0
  have lt0 : ∀ x ∈ p0, x.block < W.heap.size := by obtain ⟨m, hm⟩ := k0; exact DataW.trod_lt m _ _ _ hm
  obtain ⟨cs0, rfl, _⟩ := okWide_struct Try.underlying46 (hval 0 46 v0 rfl rfl)
  obtain ⟨x0, y0, g0⟩ : ∃ x, KAStep.K W x cs0.toList ∧ (AStepG) x := by obtain ⟨m, hm⟩ := k0; exact op_astep _ _ _ m _ _ hm
  clear hA0 hval0
  refine (walk cs0 x0 W y0 g0).mono fun e W' ⟨he, bel⟩ => ?_
  subst he
  exact ⟨_, rfl, _, _, _, [], _, [], hW', trodAll_mk1 (shut_bool Try.underlying4 _), (trodAll_cons_mk (Below.trod laidOut (by kernel_rfl) (of_decide_eq_true (by kernel_rfl)) k0 bel lt0) trodAll_mk0), rfl, bel.frame _, fun h => by cases h⟩

theorem over : Rows.admitNobodyRow.holds Try.pinned (OpenSpec.ofChange Rows.admitNobodySpec) :=
  OpenClaim.holds_of_wide 5 Try.f5 rfl rfl rfl rfl rfl rfl rfl ⟨rfl, rfl, rfl, rfl, rfl⟩ rfl rfl rfl rfl rfl (by kernel_rfl) Try.func5 (by kernel_rfl)
    (of_decide_eq_true (by kernel_rfl)) (by unfold Func.isWrapper; first | (rw [if_pos (by decide +kernel)]; kernel_rfl) | (rw [if_neg (by decide +kernel)]; exact ⟨rfl, rfl⟩))
    (fun os started H enc _ => lifted os started H enc)

theorem proved : Rows.AdmitNobodySaid := over
end Go.Proofs.Ytmbhicjjbgbneaa.admitNobody
