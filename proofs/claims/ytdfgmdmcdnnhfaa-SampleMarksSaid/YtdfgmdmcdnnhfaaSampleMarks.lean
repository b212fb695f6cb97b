/- The marks of any vector, and the token that comes next, are the document's. -/
import Derived.Test.YtdfgmdmcdnnhfaaRows
import Derived.WalkKit
import Derived.ProofKit
import Derived.OpenShut
import Derived.ShutString
import Derived.ChangeOld
import Derived.Below
import Derived.Test.YtdfgmdmcdnnhfaaOpn
import Derived.Test.YtdfgmdmcdnnhfaaSaN
import Derived.Test.YtdfgmdmcdnnhfaaMoN
import Derived.Test.YtdfgmdmcdnnhfaaOpE
namespace Go.Proofs.Ytdfgmdmcdnnhfaa.sampleMarks
open Go.ChangeShapes Go.WideShapes Go.ChangeAt Go.RowKit
open Go.ChangeMaps (open_string shut_string)
set_option linter.unusedVariables false
set_option linter.unusedSimpArgs false
open Go.Proofs.YtdfgmdmcdnnhfaaW.PrintWords Go.Proofs.YtdfgmdmcdnnhfaaW.PrintLast Go.Proofs.YtdfgmdmcdnnhfaaW.PrintMore

theorem own : ownKnob Try.prog.godebug = none := by kernel_rfl
theorem laidOut : laidOutB Try.prog = true := by kernel_rfl

set_option maxRecDepth 100000
abbrev KDrw : Kd (Int × Int × Int × Int) := Kd.pair (Kd.int .i64) (Kd.pair (Kd.int .i64) (Kd.pair (Kd.int .u64) (Kd.int .u64)))
theorem op_drw : Opens Try.prog 27 KDrw AnyG := by
  have h := Opens.struct Try.underlying27 (by kernel_rfl)
    (OpensFs.cons rfl (by kernel_rfl) (Opens.int Try.underlying3) (OpensFs.cons rfl (by kernel_rfl) (Opens.int Try.underlying3) (OpensFs.cons rfl (by kernel_rfl) (Opens.int Try.underlying22) (OpensFs.one rfl (by kernel_rfl) (Opens.int Try.underlying22)))))
  intro H enc w n cs y hy
  obtain ⟨x, hx, -⟩ := h H enc w n cs y hy
  exact ⟨x, hx, trivial⟩
theorem drw_cells {w : World} {d : Int × Int × Int × Int} {cs : Array Value} (h : KDrw.K w d cs.toList) : cs = #[.int .i64 d.1, .int .i64 d.2.1, .int .u64 d.2.2.1, .int .u64 d.2.2.2] := by
  obtain ⟨c0, r, e, h0, ⟨c1, r1, e1, h1, ⟨c2, r2, e2, h2, h3⟩⟩⟩ := h
  subst e2 e1
  have h0' : c0 = [.int .i64 d.1] := h0
  have h1' : c1 = [.int .i64 d.2.1] := h1
  have h2' : c2 = [.int .u64 d.2.2.1] := h2
  have h3' : r2 = [.int .u64 d.2.2.2] := h3
  subst h0' h1' h2' h3'
  exact Array.toList_inj.1 e
/-- The boxes of both structs, behind w. -/
def Bx2 (c : Cfg) (g g2 : Nat) (sd pl : Int) (w0 W : World) : Prop := W.cell? ⟨g, 0, none⟩ = some (.int .u64 c.seed) ∧ W.cell? ⟨g, 1, none⟩ = some (.int .i64 c.vocab) ∧ W.cell? ⟨g, 2, none⟩ = some (.int .i64 c.dim) ∧ W.cell? ⟨g, 3, none⟩ = some (.int .i64 c.layers) ∧ W.cell? ⟨g, 4, none⟩ = some (.int .i64 c.top) ∧ W.cell? ⟨g, 5, none⟩ = some (.int .i64 c.heat) ∧
  W.cell? ⟨g2, 2, none⟩ = some (.int .u64 sd) ∧ W.cell? ⟨g2, 3, none⟩ = some (.int .u64 pl) ∧ Hid (Below w0.heap.size w0 W)
theorem Bx2.step {c : Cfg} {g g2 : Nat} {sd pl : Int} {w0 W W' : World} (hS : Bx2 c g g2 sd pl w0 W) (hb : Below W.heap.size W W') : Bx2 c g g2 sd pl w0 W' := by
  obtain ⟨h0, h1, h2, h3, h4, h5, h6, h7, h8⟩ := hS
  exact ⟨pw_cell_below hb h0, pw_cell_below hb h1, pw_cell_below hb h2, pw_cell_below hb h3, pw_cell_below hb h4, pw_cell_below hb h5, pw_cell_below hb h6, pw_cell_below hb h7, Lib.hid (below_then h8.out h8.out.size hb)⟩
theorem Bx2.below {c : Cfg} {g g2 : Nat} {sd pl : Int} {w0 W : World} (hS : Bx2 c g g2 sd pl w0 W) : Below w0.heap.size w0 W := hS.2.2.2.2.2.2.2.2.out
attribute [local go_sem] gb_max2 gb_min2 gb_max_two gb_min_two gb_max_three gb_min_three run_cfg1 run_cfg2 run_cfg3
set_option maxHeartbeats 2000000 in
theorem walk (cs0 : Array Value) (x0 : Cfg) (a1 : Option Addr) (len1 cap1 : Nat) (x1 : List Int) (cs2 : Array Value) (x2 : Int × Int × Int × Int) (w : World) (k0 : KCfg.K w x0 cs0.toList) (gd0 : (CfgW) x0) (k1 : KRow.K w x1 [.slice a1 len1 cap1]) (gd1 : (fun xs => (∀ x ∈ xs, (Lit.int .i64 x).wf = true) ∧ xs.length ≤ maxLen) x1) (k2 : KDrw.K w x2 cs2.toList) (gd2 : (AnyG) x2) :
    Calls Try.prog 3 #[.agg cs0, .slice a1 len1 cap1, .agg cs2] w fun e w' => e = .returned (.bool true) ∧ Below w.heap.size w w' := by
  obtain rfl := cfg_cells k0
  obtain ⟨rfl, hcx, hx⟩ := slice_came k1
  obtain rfl := drw_cells k2
  obtain ⟨d0, d1, sd, pl⟩ := x2
  have HCV := Lib.hid (show x0.v = .agg #[.int .u64 x0.seed, .int .i64 x0.vocab, .int .i64 x0.dim, .int .i64 x0.layers, .int .i64 x0.top, .int .i64 x0.heat] from rfl)
  obtain ⟨W0, hW0⟩ : ∃ W0, (w.alloc (.cells #[.int .u64 x0.seed, .int .i64 x0.vocab, .int .i64 x0.dim, .int .i64 x0.layers, .int .i64 x0.top, .int .i64 x0.heat] 24)).alloc (.cells #[.int .i64 d0, .int .i64 d1, .int .u64 sd, .int .u64 pl] 27) = W0 := ⟨_, rfl⟩
  have hS0 : Bx2 x0 w.heap.size (w.heap.size + 1) sd pl w W0 := by
    have h1 := heap_alloc_new w (.cells #[.int .u64 x0.seed, .int .i64 x0.vocab, .int .i64 x0.dim, .int .i64 x0.layers, .int .i64 x0.top, .int .i64 x0.heat] 24)
    have h2 := heap_alloc_new (w.alloc (.cells #[.int .u64 x0.seed, .int .i64 x0.vocab, .int .i64 x0.dim, .int .i64 x0.layers, .int .i64 x0.top, .int .i64 x0.heat] 24)) (.cells #[.int .i64 d0, .int .i64 d1, .int .u64 sd, .int .u64 pl] 27)
    have h1' := blk_alloc h1 (.cells #[.int .i64 d0, .int .i64 d1, .int .u64 sd, .int .u64 pl] 27)
    have hsz : (w.alloc (.cells #[.int .u64 x0.seed, .int .i64 x0.vocab, .int .i64 x0.dim, .int .i64 x0.layers, .int .i64 x0.top, .int .i64 x0.heat] 24)).heap.size = w.heap.size + 1 := by simp
    rw [hsz] at h2
    rw [hW0] at h1' h2
    refine ⟨?_, ?_, ?_, ?_, ?_, ?_, ?_, ?_, Lib.hid ?_⟩
    · rw [blk_cell h1']; rfl
    · rw [blk_cell h1']; rfl
    · rw [blk_cell h1']; rfl
    · rw [blk_cell h1']; rfl
    · rw [blk_cell h1']; rfl
    · rw [blk_cell h1']; rfl
    · rw [blk_cell h2]; rfl
    · rw [blk_cell h2]; rfl
    · rw [← hW0]; exact below_alloc (below_alloc (Below.refl _ w) _) _
  obtain ⟨g, hg⟩ : ∃ g, w.heap.size = g := ⟨_, rfl⟩
  obtain ⟨g2, hg2⟩ : ∃ g2, w.heap.size + 1 = g2 := ⟨_, rfl⟩
  rw [hg2, hg] at hS0
  have HG := Lib.hid hg
  have HG2 := Lib.hid (show g + 1 = g2 by omega)
  have HW0 := Lib.hid hW0
  have HX := Lib.hid (fun (W' : World) (hb : Below w.heap.size w W') => Kd.C_below hx hb)
  clear hg hg2 hW0 k0 k1 k2 gd0 gd1 gd2 hx
  obtain ⟨n, hnn⟩ : ∃ n, x1.length = n := ⟨_, rfl⟩
  rw [hnn] at hcx ⊢
  have HN := Lib.hid hnn
  clear hnn
  obtain ⟨x0c, x1c, x2c, x3c, x4c, x5c, y2c, y3c, hB0⟩ := id hS0
  by_cases hok : x0.ok
  · have HNW := Lib.hid (fun W' => new_ok x0 hok W')
    rw [HCV.out] at HNW
    go_enter Try.func3, Try.ntmps3
    go_wp2_with fail
    try rw [HG.out]
    try rw [HG2.out]
    rw [HW0.out]
    refine (HNW.out W0).mono ?_
    unfold NewYes
    rintro e w1 ⟨p, rfl, hM, hb1⟩
    have HS1 := Lib.hid (hS0.step hb1)
    have HMo := Lib.hid (fun (W' : World) (hb : Below w1.heap.size w1 W') => hM.below hb)
    have HBE := Lib.hid hb1
    clear hM hb1 x0c x1c x2c x3c x4c x5c y2c y3c hB0 hS0
    by_cases hf : 200 < n
    · go_wp2_with fail
      refine (far11_any _ _ _ _).mono ?_
      unfold Far11
      rw [decide_eq_true hf]
      rintro e w' ⟨rfl, rfl⟩
      go_wp2_with fail
      refine (marks_nil _).mono ?_
      rintro e w2 ⟨rfl, hb2⟩
      have HS2 := Lib.hid (HS1.out.step hb2)
      clear hb2
      go_wp2_with fail
      refine (alive11_any _).mono ?_
      rintro e w3 ⟨rfl, hb3⟩
      have HS3 := Lib.hid (HS2.out.step hb3)
      clear hb3
      go_wp2_with fail
      go_ret
      exact ⟨rfl, HS3.out.below⟩
    · have HM := Lib.hid (fun (W' : World) (hb : Below w1.heap.size w1 W') => marks_any W' p x0 hok (HMo.out W' hb) a1 cap1 x1 (HX.out W' (below_then HS1.out.below HS1.out.below.size hb)) (by rw [HN.out]; exact hcx) (by rw [HN.out]; omega))
      have HR := Lib.hid (fun (W' : World) (hb : Below w1.heap.size w1 W') => rmarks_any x0 hok W' a1 cap1 x1 (HX.out W' (below_then HS1.out.below HS1.out.below.size hb)) (by rw [HN.out]; exact hcx) (by rw [HN.out]; omega))
      have HNX := Lib.hid (fun (W' : World) (hb : Below w1.heap.size w1 W') => next_any W' p x0 hok (HMo.out W' hb) a1 cap1 x1 sd pl (HX.out W' (below_then HS1.out.below HS1.out.below.size hb)) (by rw [HN.out]; exact hcx) (by rw [HN.out]; omega))
      have HRX := Lib.hid (fun (W' : World) (hb : Below w1.heap.size w1 W') => rnext_any x0 hok W' a1 cap1 x1 sd pl (HX.out W' (below_then HS1.out.below HS1.out.below.size hb)) (by rw [HN.out]; exact hcx) (by rw [HN.out]; omega))
      have hml : (vmarks x0 x1).length ≤ 64 := by rw [vmarks_len]; have := hok.1; omega
      obtain ⟨ms, hms⟩ : ∃ ms, vmarks x0 x1 = ms := ⟨_, rfl⟩
      obtain ⟨N, hN⟩ : ∃ N, vnext x0 x1 sd pl = N := ⟨_, rfl⟩
      rw [hms, HN.out] at HM HR
      rw [hN, HN.out] at HNX HRX
      rw [HCV.out] at HR HRX
      rw [hms] at hml
      obtain ⟨m, hm⟩ : ∃ m, ms.length = m := ⟨_, rfl⟩
      rw [hm] at hml
      have HML := Lib.hid hm
      clear hms hN hm hok
      have zN : (N == N) = true := by simp
      go_wp2_with fail
      refine (far11_any _ _ _ _).mono ?_
      unfold Far11
      rw [decide_eq_false hf]
      rintro e w' ⟨rfl, rfl⟩
      clear hf
      go_wp2_with fail
      have hS1 : Bx2 x0 g g2 sd pl w1 w1 := by
        obtain ⟨h0, h1, h2, h3, h4, h5, h6, h7, h8⟩ := HS1.out
        exact ⟨h0, h1, h2, h3, h4, h5, h6, h7, Lib.hid (Below.refl _ _)⟩
      go_region_held3 (fun w' => w'.cell? ⟨g, 0, none⟩ = some (.int .u64 x0.seed) ∧ w'.cell? ⟨g, 1, none⟩ = some (.int .i64 x0.vocab) ∧ w'.cell? ⟨g, 2, none⟩ = some (.int .i64 x0.dim) ∧ w'.cell? ⟨g, 3, none⟩ = some (.int .i64 x0.layers) ∧ w'.cell? ⟨g, 4, none⟩ = some (.int .i64 x0.top) ∧ w'.cell? ⟨g, 5, none⟩ = some (.int .i64 x0.heat) ∧
          w'.cell? ⟨g2, 2, none⟩ = some (.int .u64 sd) ∧ w'.cell? ⟨g2, 3, none⟩ = some (.int .u64 pl) ∧ Hid (Below w1.heap.size w1 w'))
        (first | exact Bx2.step hS1 (below_drew (Below.refl _ _)) | exact Bx2.step (by assumption) (by assumption) | trace_state)
        (first
          | (go_at_call 14; refine (HM.out _ (Bx2.below (by assumption))).mono ?_; unfold RowR; rintro e w2 ⟨v2, rfl, ho2, hb⟩; obtain ⟨A2, c2, hv2, hc2, hC2⟩ := ho2.reads_n HML.out; subst hv2; clear ho2)
          | (go_at_call 16; refine (HR.out _ (Bx2.below (by assumption))).mono ?_; unfold RowR; rintro e w2 ⟨v2, rfl, ho2, hb⟩; obtain ⟨A3, c3, hv2, hc3, hC3⟩ := ho2.reads_n HML.out; subst hv2; clear ho2))
      all_goals
        have hS2 : Bx2 x0 g g2 sd pl w1 w2 := (by assumption)
        have HC2 : Hid ((Kd.int .i64).C w2 A2 ms.length ms) := (by first | exact Lib.hid hC2 | exact Lib.hid (Kd.C_below hC2 hb))
        have HC3 : Hid ((Kd.int .i64).C w2 A3 ms.length ms) := (by first | exact Lib.hid hC3 | exact Lib.hid (Kd.C_below hC3 hb))
        clear hC2 hC3 hb
        have HS2 := Lib.hid hS2
        clear hS2
        go_wp2_with fail
        go_loopw [42] (fun s wr => ∃ i : Nat, s = .int .i64 i ∧ i ≤ m ∧ Drawn0 w2 wr) (fun s _ => m - (intOf s).toNat)
        case atStart => exact ⟨0, rfl, by omega, Drawn0.refl _⟩
        case round =>
          obtain ⟨i, rfl, hi, hd⟩ := hrel
          have HDR := Lib.hid hd
          clear hd
          by_cases him : i < m
          · obtain ⟨b1, e1, q1⟩ := at_nat (Kd.C_below HC2.out HDR.out.below) i (by rw [HML.out]; exact him)
            obtain ⟨b2, e2, q2⟩ := at_nat (Kd.C_below HC3.out HDR.out.below) i (by rw [HML.out]; exact him)
            subst e1 e2
            obtain ⟨x, hx⟩ : ∃ x, ms.getD i 0 = x := ⟨_, rfl⟩
            rw [hx] at q1 q2
            have z : (x != x) = false := by simp
            clear hx
            go_wp2_with fail
            go_quiet (fail)
            go_wp2_with fail
            go_roundw
            case rel => exact ⟨i + 1, by go_num, by omega, Drawn0.step HDR.out _⟩
            case measure => simp [intOf]; omega
          · have hS3 : Bx2 x0 g g2 sd pl w1 wr := HS2.out.step HDR.out.below
            go_wp2_with fail
            go_region_held3 (fun w' => w'.cell? ⟨g, 0, none⟩ = some (.int .u64 x0.seed) ∧ w'.cell? ⟨g, 1, none⟩ = some (.int .i64 x0.vocab) ∧ w'.cell? ⟨g, 2, none⟩ = some (.int .i64 x0.dim) ∧ w'.cell? ⟨g, 3, none⟩ = some (.int .i64 x0.layers) ∧ w'.cell? ⟨g, 4, none⟩ = some (.int .i64 x0.top) ∧ w'.cell? ⟨g, 5, none⟩ = some (.int .i64 x0.heat) ∧
                w'.cell? ⟨g2, 2, none⟩ = some (.int .u64 sd) ∧ w'.cell? ⟨g2, 3, none⟩ = some (.int .u64 pl) ∧ Hid (Below w1.heap.size w1 w'))
              (first | exact Bx2.step hS3 (below_drew (Below.refl _ _)) | exact Bx2.step (by assumption) (by assumption) | trace_state)
              (first
                | (go_at_call 17; refine (HNX.out _ (Bx2.below (by assumption))).mono ?_; rintro e w2 ⟨rfl, hb⟩)
                | (go_at_call 18; refine (HRX.out _ (Bx2.below (by assumption))).mono ?_; rintro e w2 ⟨rfl, hb⟩)
                | (go_at_call 15; refine (alive11_any _).mono ?_; rintro e w2 ⟨rfl, hb⟩))
            all_goals
              go_wp2_with fail
              go_ret
              exact ⟨rfl, below_then HS1.out.below HS1.out.below.size (Bx2.below (by assumption))⟩
  · have HNW := Lib.hid (fun W' => new_bad x0 hok W')
    rw [HCV.out] at HNW
    go_enter Try.func3, Try.ntmps3
    go_wp2_with fail
    try rw [HG.out]
    try rw [HG2.out]
    rw [HW0.out]
    refine (HNW.out W0).mono ?_
    unfold NewNo
    rintro e w1 ⟨rfl, hb1⟩
    have HS1 := Lib.hid (hS0.step hb1)
    clear hb1 x0c x1c x2c x3c x4c x5c y2c y3c hB0 hS0
    go_wp2_with fail
    refine (marks_nil _).mono ?_
    rintro e w2 ⟨rfl, hb2⟩
    have HS2 := Lib.hid (HS1.out.step hb2)
    clear hb2
    go_wp2_with fail
    refine (alive11_any _).mono ?_
    rintro e w3 ⟨rfl, hb3⟩
    have HS3 := Lib.hid (HS2.out.step hb3)
    clear hb3
    go_wp2_with fail
    go_ret
    exact ⟨rfl, HS3.out.below⟩

set_option maxRecDepth 100000 in
theorem lifted (os : Os) (started : os.Started) (H : Type) (enc : TypeId × Value → H) :
    ReturnsInHanded {} Try.checked os 3 .any (Rows.sampleMarksSpec.pre6 enc Try.prog Try.f3 Rows.sampleMarksRow.domain false) (Rows.sampleMarksSpec.post enc Try.prog Try.f3 false true false false) := by
  refine returnsInHanded_of_change (C := Try.checked) own started (by kernel_rfl) Try.func3
    (ChangeSpec.witness6 (enc := enc) (C := Try.checked) false ⟨#[], #[.agg #[.int .u64 0, .int .i64 0, .int .i64 0, .int .i64 0, .int .i64 0, .int .i64 0], .slice none 0 0, .agg #[.int .i64 0, .int .i64 0, .int .u64 0, .int .u64 0]], []⟩ 8 (by kernel_rfl) (by kernel_rfl) (by kernel_rfl) (by kernel_rfl)) ?_
  intro W base args ds gs before hval0 hW hcnd _
  have hval : ∀ (j : Nat) t v, Try.f3.params[j]? = some t → args[j]? = some v → Value.okWide Try.prog W .any base t v := hval0
  have hW' := hW
  obtain ⟨p, q, hA0, hV, rfl, hfz, hnd⟩ := hW
  have hA : DataW.TrodAll enc Try.prog W 0 (fun _ => true) true Try.f3.params.toList args.toList ds p := hA0
  rw [Try.params3] at hA hval
  obtain ⟨v0, vs0, d0, ds0, p0, q0, hargs, rfl, rfl, h0, r0⟩ := trodAll_cons hA
  obtain ⟨v1, vs1, d1, ds1, p1, q1, rfl, rfl, rfl, h1, r1⟩ := trodAll_cons r0
  obtain ⟨v2, vs2, d2, ds2, p2, q2, rfl, rfl, rfl, h2, r2⟩ := trodAll_cons r1
  obtain ⟨rfl, rfl, rfl⟩ := trodAll_nil r2
  obtain rfl : args = #[v0, v1, v2] := by cases args; simp_all
  obtain ⟨rfl, rfl⟩ := trodVars_none hV
  have k0 := h0
  have lt0 : ∀ x ∈ p0, x.block < W.heap.size := by obtain ⟨m, hm⟩ := k0; exact DataW.trod_lt m _ _ _ hm
  obtain ⟨cs0, rfl, _⟩ := okWide_struct Try.underlying24 (hval 0 24 v0 rfl rfl)
  obtain ⟨x0, y0, g0⟩ : ∃ x, KCfg.K W x cs0.toList ∧ (CfgW) x := by obtain ⟨m, hm⟩ := k0; exact op_cfg _ _ _ m _ _ hm
  have k1 := h1
  have lt1 : ∀ x ∈ p1, x.block < W.heap.size := by obtain ⟨m, hm⟩ := k1; exact DataW.trod_lt m _ _ _ hm
  obtain ⟨a1, len1, cap1, rfl⟩ := okWide_slice Try.underlying25 (hval 1 25 v1 rfl rfl)
  obtain ⟨x1, y1, g1⟩ : ∃ x, KRow.K W x [.slice a1 len1 cap1] ∧ (fun xs => (∀ x ∈ xs, (Lit.int .i64 x).wf = true) ∧ xs.length ≤ maxLen) x := by obtain ⟨m, hm⟩ := k1; exact op_row _ _ _ m _ _ hm
  have k2 := h2
  have lt2 : ∀ x ∈ p2, x.block < W.heap.size := by obtain ⟨m, hm⟩ := k2; exact DataW.trod_lt m _ _ _ hm
  obtain ⟨cs2, rfl, _⟩ := okWide_struct Try.underlying27 (hval 2 27 v2 rfl rfl)
  obtain ⟨x2, y2, g2⟩ : ∃ x, KDrw.K W x cs2.toList ∧ (AnyG) x := by obtain ⟨m, hm⟩ := k2; exact op_drw _ _ _ m _ _ hm
  clear hA0 hval0
  refine (walk cs0 x0 a1 len1 cap1 x1 cs2 x2 W y0 g0 y1 g1 y2 g2).mono fun e W' ⟨he, bel⟩ => ?_
  subst he
  exact ⟨_, rfl, _, _, _, [], _, [], hW', trodAll_mk1 (shut_bool Try.underlying4 _), (trodAll_cons_mk (Below.trod laidOut (by kernel_rfl) (of_decide_eq_true (by kernel_rfl)) k0 bel lt0) (trodAll_cons_mk (Below.trod laidOut (by kernel_rfl) (of_decide_eq_true (by kernel_rfl)) k1 bel lt1) (trodAll_cons_mk (Below.trod laidOut (by kernel_rfl) (of_decide_eq_true (by kernel_rfl)) k2 bel lt2) trodAll_mk0))), rfl, bel.frame _, fun h => by cases h⟩

theorem over : Rows.sampleMarksRow.holds Try.pinned (OpenSpec.ofChange Rows.sampleMarksSpec) :=
  OpenClaim.holds_of_wide 3 Try.f3 rfl rfl rfl rfl rfl rfl rfl ⟨rfl, rfl, rfl, rfl, rfl⟩ rfl rfl rfl rfl rfl (by kernel_rfl) Try.func3 (by kernel_rfl)
    (of_decide_eq_true (by kernel_rfl)) (by unfold Func.isWrapper; first | (rw [if_pos (by decide +kernel)]; kernel_rfl) | (rw [if_neg (by decide +kernel)]; exact ⟨rfl, rfl⟩))
    (fun os started H enc _ => lifted os started H enc)

theorem proved : Rows.SampleMarksSaid := over
end Go.Proofs.Ytdfgmdmcdnnhfaa.sampleMarks
