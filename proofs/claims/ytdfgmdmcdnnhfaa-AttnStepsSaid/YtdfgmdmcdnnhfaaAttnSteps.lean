/- What any layer makes of any vector, with any keys and values, and its own key and value, are the document's. -/
import Derived.Test.YtdfgmdmcdnnhfaaRows
import Derived.WalkKit
import Derived.ProofKit
import Derived.OpenShut
import Derived.ShutString
import Derived.ChangeOld
import Derived.Below
import Derived.Test.YtdfgmdmcdnnhfaaOpn
import Derived.Test.YtdfgmdmcdnnhfaaAtW
import Derived.Test.YtdfgmdmcdnnhfaaAtQ
import Derived.Test.YtdfgmdmcdnnhfaaOpE
namespace Go.Proofs.Ytdfgmdmcdnnhfaa.attnSteps
open Go.ChangeShapes Go.WideShapes Go.ChangeAt Go.RowKit
open Go.ChangeMaps (open_string shut_string)
set_option linter.unusedVariables false
set_option linter.unusedSimpArgs false
open Go.Proofs.YtdfgmdmcdnnhfaaW.PrintWords Go.Proofs.YtdfgmdmcdnnhfaaW.PrintLast Go.Proofs.YtdfgmdmcdnnhfaaW.PrintMore

theorem own : ownKnob Try.prog.godebug = none := by kernel_rfl
theorem laidOut : laidOutB Try.prog = true := by kernel_rfl

set_option maxRecDepth 100000
abbrev CaseV := Cfg × Int × List Int × List (List Int) × List (List Int)
abbrev KCase : Kd CaseV := Kd.pair KCfg (Kd.pair (Kd.int .i64) (Kd.pair KRow (Kd.pair KTab KTab)))
abbrev CaseG (_ : CaseV) : Prop := True
theorem op_case : Opens Try.prog 41 KCase CaseG := by
  have h := Opens.struct Try.underlying41 (by kernel_rfl)
    (OpensFs.cons rfl (by kernel_rfl) op_cfg (OpensFs.cons rfl (by kernel_rfl) (Opens.int Try.underlying3) (OpensFs.cons rfl (by kernel_rfl) op_row (OpensFs.cons rfl (by kernel_rfl) op_tab (OpensFs.one rfl (by kernel_rfl) op_tab)))))
  intro H enc w n cs y hy
  obtain ⟨x, hx, -⟩ := h H enc w n cs y hy
  exact ⟨x, hx, trivial⟩
theorem case_cells {w : World} {d : CaseV} {cs : Array Value} (h : KCase.K w d cs.toList) : ∃ A1 c1 A2 c2 A3 c3, cs = #[.int .u64 d.1.seed, .int .i64 d.1.vocab, .int .i64 d.1.dim, .int .i64 d.1.layers, .int .i64 d.1.top, .int .i64 d.1.heat, .int .i64 d.2.1, .slice A1 d.2.2.1.length c1, .slice A2 d.2.2.2.1.length c2, .slice A3 d.2.2.2.2.length c3] ∧
    d.2.2.1.length ≤ c1 ∧ (Kd.int .i64).C w A1 d.2.2.1.length d.2.2.1 ∧ d.2.2.2.1.length ≤ c2 ∧ Rows_ w A2 d.2.2.2.1 ∧ d.2.2.2.2.length ≤ c3 ∧ Rows_ w A3 d.2.2.2.2 := by
  obtain ⟨c0, r, e, h0, ⟨c1, r1, e1, h1, ⟨c2, r2, e2, h2, ⟨c3, c4, e3, h3, h4⟩⟩⟩⟩ := h
  obtain rfl : c0 = (#[.int .u64 d.1.seed, .int .i64 d.1.vocab, .int .i64 d.1.dim, .int .i64 d.1.layers, .int .i64 d.1.top, .int .i64 d.1.heat] : Array Value).toList := by
    have h := cfg_cells (cs := c0.toArray) (w := w) (c := d.1) (by simpa using h0)
    rw [← h]
  have h1' : c1 = [.int .i64 d.2.1] := h1
  obtain ⟨A1, k1, rfl, hl1, hC1⟩ := h2
  obtain ⟨A2, k2, rfl, hl2, hC2⟩ := h3
  obtain ⟨A3, k3, rfl, hl3, hC3⟩ := h4
  subst h1' e3 e2 e1
  exact ⟨A1, k1, A2, k2, A3, k3, Array.toList_inj.1 e, hl1, hC1, hl2, hC2, hl3, hC3⟩
/-- The case's box at g. -/
def BxC (c : Cfg) (l : Int) (x k v : Value) (g : Nat) (w0 W : World) : Prop := W.cell? ⟨g, 0, none⟩ = some (.int .u64 c.seed) ∧ W.cell? ⟨g, 1, none⟩ = some (.int .i64 c.vocab) ∧ W.cell? ⟨g, 2, none⟩ = some (.int .i64 c.dim) ∧ W.cell? ⟨g, 3, none⟩ = some (.int .i64 c.layers) ∧ W.cell? ⟨g, 4, none⟩ = some (.int .i64 c.top) ∧ W.cell? ⟨g, 5, none⟩ = some (.int .i64 c.heat) ∧
  W.cell? ⟨g, 6, none⟩ = some (.int .i64 l) ∧ W.cell? ⟨g, 7, none⟩ = some x ∧ W.cell? ⟨g, 8, none⟩ = some k ∧ W.cell? ⟨g, 9, none⟩ = some v ∧ Hid (Below w0.heap.size w0 W)
theorem BxC.step {c : Cfg} {l : Int} {x k v : Value} {g : Nat} {w0 W W' : World} (hS : BxC c l x k v g w0 W) (hb : Below W.heap.size W W') : BxC c l x k v g w0 W' := by
  obtain ⟨h0, h1, h2, h3, h4, h5, h6, h7, h8, h9, h10⟩ := hS
  exact ⟨pw_cell_below hb h0, pw_cell_below hb h1, pw_cell_below hb h2, pw_cell_below hb h3, pw_cell_below hb h4, pw_cell_below hb h5, pw_cell_below hb h6, pw_cell_below hb h7, pw_cell_below hb h8, pw_cell_below hb h9, Lib.hid (below_then h10.out h10.out.size hb)⟩
theorem BxC.below {c : Cfg} {l : Int} {x k v : Value} {g : Nat} {w0 W : World} (hS : BxC c l x k v g w0 W) : Below w0.heap.size w0 W := hS.2.2.2.2.2.2.2.2.2.2.out
theorem BxC.re {c : Cfg} {l : Int} {x k v : Value} {g : Nat} {w0 W : World} (hS : BxC c l x k v g w0 W) : BxC c l x k v g W W := by
  obtain ⟨h0, h1, h2, h3, h4, h5, h6, h7, h8, h9, h10⟩ := hS
  exact ⟨h0, h1, h2, h3, h4, h5, h6, h7, h8, h9, Lib.hid (Below.refl _ _)⟩
attribute [local go_sem] gb_max2 gb_min2 gb_max_two gb_min_two gb_max_three gb_min_three run_cfg1 run_cfg2 run_cfg3
set_option maxHeartbeats 2000000 in
theorem walk (cs0 : Array Value) (x0 : CaseV) (w : World) (k0 : KCase.K w x0 cs0.toList) (gd0 : (CaseG) x0) :
    Calls Try.prog 4 #[.agg cs0] w fun e w' => e = .returned (.bool true) ∧ Below w.heap.size w w' := by
  obtain ⟨AX, cX, AK, cK, AV, cV, rfl, hcx, hx, hck, hk, hcv, hv⟩ := case_cells k0
  obtain ⟨c, l, xs, ks, vs⟩ := x0
  dsimp only at hcx hx hck hk hcv hv ⊢
  have HCV := Lib.hid (show c.v = .agg #[.int .u64 c.seed, .int .i64 c.vocab, .int .i64 c.dim, .int .i64 c.layers, .int .i64 c.top, .int .i64 c.heat] from rfl)
  have HX := Lib.hid (fun (W' : World) (hb : Below w.heap.size w W') => Kd.C_below hx hb)
  have HK := Lib.hid (fun (W' : World) (hb : Below w.heap.size w W') => hk.below hb)
  have HV := Lib.hid (fun (W' : World) (hb : Below w.heap.size w W') => hv.below hb)
  obtain ⟨W0, hW0⟩ : ∃ W0, w.alloc (.cells #[.int .u64 c.seed, .int .i64 c.vocab, .int .i64 c.dim, .int .i64 c.layers, .int .i64 c.top, .int .i64 c.heat, .int .i64 l, .slice AX xs.length cX, .slice AK ks.length cK, .slice AV vs.length cV] 41) = W0 := ⟨_, rfl⟩
  have hS0 : BxC c l (.slice AX xs.length cX) (.slice AK ks.length cK) (.slice AV vs.length cV) w.heap.size w W0 := by
    have h1 := heap_alloc_new w (.cells #[.int .u64 c.seed, .int .i64 c.vocab, .int .i64 c.dim, .int .i64 c.layers, .int .i64 c.top, .int .i64 c.heat, .int .i64 l, .slice AX xs.length cX, .slice AK ks.length cK, .slice AV vs.length cV] 41)
    rw [hW0] at h1
    refine ⟨?_, ?_, ?_, ?_, ?_, ?_, ?_, ?_, ?_, ?_, Lib.hid ?_⟩
    all_goals first | (rw [blk_cell h1]; rfl) | (rw [← hW0]; exact below_alloc (Below.refl _ w) _)
  have HFAR := Lib.hid (far10_any (W0.alloc (.cells #[.slice AK ks.length cK, .slice AV vs.length cV] 39)) AX (some ⟨W0.heap.size, 0, none⟩) xs.length cX 2 [ks, vs] (tabs2 W0 _ AK AV cK cV ks vs (HK.out W0 hS0.below) (HV.out W0 hS0.below) hck hcv))
  obtain ⟨g, hg⟩ : ∃ g, w.heap.size = g := ⟨_, rfl⟩
  have hsz : W0.heap.size = w.heap.size + 1 := by rw [← hW0]; simp
  have HSZ := Lib.hid hsz
  have HS1 := Lib.hid (hS0.step (below_alloc (Below.refl _ W0) (.cells #[.slice AK ks.length cK, .slice AV vs.length cV] 39)))
  rw [hg] at HS1 hS0
  have HG := Lib.hid hg
  have HW0 := Lib.hid hW0
  have HNW := Lib.hid (fun (h : c.ok) W' => new_ok c h W')
  have HNB := Lib.hid (fun (h : ¬ c.ok) W' => new_bad c h W')
  rw [HCV.out] at HNW HNB
  clear k0 gd0 hx hk hv hsz hg hW0
  obtain ⟨z0, z1, z2, z3, z4, z5, z6, z7, z8, z9, -⟩ := id hS0
  clear hS0
  go_enter Try.func4, Try.ntmps4
  go_wp2_with fail
  rw [HW0.out]
  rw [show w.heap.size + 1 = W0.heap.size from HSZ.out.symm]
  try rw [HG.out]
  refine HFAR.out.mono ?_
  unfold FarR
  rintro e W1 ⟨far, rfl, hfar, hd⟩
  have HS1 := Lib.hid (HS1.out.step hd.below)
  have HFR := Lib.hid hfar
  clear hd hfar z0 z1 z2 z3 z4 z5 z6 z7 z8 z9
  obtain ⟨z0, z1, z2, z3, z4, z5, z6, z7, z8, z9, -⟩ := id HS1.out
  cases far with
  | true =>
    go_wp2_with fail
    refine (alive10_any _).mono ?_
    rintro e W2 ⟨rfl, hb⟩
    have HS2 := Lib.hid (HS1.out.step hb)
    clear hb
    go_wp2_with fail
    go_ret
    exact ⟨rfl, HS2.out.below⟩
  | false =>
    obtain ⟨hx40, hnear⟩ := HFR.out rfl
    have hk30 := (hnear ks (by simp)).1
    have hv30 := (hnear vs (by simp)).1
    have HKS := Lib.hid (near_short (hnear ks (by simp)).2)
    have HVS := Lib.hid (near_short (hnear vs (by simp)).2)
    clear hnear
    by_cases hok : c.ok
    · have HNW := Lib.hid (HNW.out hok)
      have HOK := Lib.hid hok
      clear HNB
      go_wp2_with fail
      refine (HNW.out W1).mono ?_
      unfold NewYes
      rintro e W2 ⟨p, rfl, hM, hb⟩
      have HM := Lib.hid hM
      have HS2 := Lib.hid (HS1.out.step hb)
      clear hM hb hok z0 z1 z2 z3 z4 z5 z6 z7 z8 z9
      obtain ⟨z0, z1, z2, z3, z4, z5, z6, z7, z8, z9, -⟩ := id HS2.out
      by_cases hl : c.in_ l
      · have HST := Lib.hid (step_in W2 p c HOK.out HM.out l hl AX AK AV cX cK cV xs ks vs (HX.out W2 HS2.out.below) hcx (by omega) (HK.out W2 HS2.out.below) hck (by omega) HKS.out (HV.out W2 HS2.out.below) hcv (by omega) HVS.out)
        unfold StepR at HST
        have g1 : decide (l < 0) = false := decide_eq_false (by have := hl.1; omega)
        have g2 : decide (c.layers ≤ l) = false := decide_eq_false (by have := hl.2; omega)
        have HRS := Lib.hid (fun (W' : World) (hb : Below w.heap.size w W') => rstep_in W' c HOK.out l AX AK AV cX cK cV xs ks vs (HX.out W' hb) hcx (by omega) (HK.out W' hb) hck (by omega) HKS.out (HV.out W' hb) hcv (by omega) HVS.out)
        rw [HCV.out] at HRS
        unfold RStepR at HRS
        have HXL := Lib.hid (aX_le c l xs ks vs)
        have HKL := Lib.hid (vmul_le c HOK.out l 1 (vnorm xs))
        have HVL := Lib.hid (vmul_le c HOK.out l 2 (vnorm xs))
        obtain ⟨X, hX⟩ : ∃ X, aX c l xs ks vs = X := ⟨_, rfl⟩
        obtain ⟨K, hK⟩ : ∃ X, aK c l xs = X := ⟨_, rfl⟩
        obtain ⟨V, hV⟩ : ∃ X, aV c l xs = X := ⟨_, rfl⟩
        change Hid ((aK c l xs).length ≤ 16) at HKL
        change Hid ((aV c l xs).length ≤ 16) at HVL
        rw [hX] at HST HRS HXL
        rw [hK] at HST HRS HKL
        rw [hV] at HST HRS HVL
        clear hl hX hK hV
        go_wp2_with fail
        refine HST.out.mono ?_
        rintro e W3 ⟨A1, c1, A2, c2, A3, c3, rfl, o1, o2, o3, hb⟩
        have HS3 := Lib.hid (HS2.out.step hb)
        have HC1 := Lib.hid o1.rd.2
        have HC2 := Lib.hid o2.rd.2
        have HC3 := Lib.hid o3.rd.2
        have hl1 := o1.rd.1
        have hl2 := o2.rd.1
        have hl3 := o3.rd.1
        clear o1 o2 o3 hb HST z0 z1 z2 z3 z4 z5 z6 z7 z8 z9
        obtain ⟨z0, z1, z2, z3, z4, z5, z6, z7, z8, z9, -⟩ := id HS3.out
        go_wp2_with fail
        refine (HRS.out W3 HS3.out.below).mono ?_
        rintro e W4 ⟨B1, d1, B2, d2, B3, d3, rfl, o1, o2, o3, hb⟩
        have HS4 := Lib.hid (HS3.out.step hb)
        have HC1 := Lib.hid (Kd.C_below HC1.out hb)
        have HC2 := Lib.hid (Kd.C_below HC2.out hb)
        have HC3 := Lib.hid (Kd.C_below HC3.out hb)
        have HD1 := Lib.hid o1.rd.2
        have HD2 := Lib.hid o2.rd.2
        have HD3 := Lib.hid o3.rd.2
        have hm1 := o1.rd.1
        have hm2 := o2.rd.1
        have hm3 := o3.rd.1
        clear o1 o2 o3 hb HRS
        go_wp2_with fail
        obtain ⟨W5, hW5⟩ : ∃ W5, W4.alloc (.cells #[.slice B1 X.length d1, .slice B2 K.length d2, .slice B3 V.length d3] 47) = W5 := ⟨_, rfl⟩
        have hb5 : Below W4.heap.size W4 W5 := by rw [← hW5]; exact below_alloc (Below.refl _ W4) _
        have hbl : W5.heap[W4.heap.size]? = some (.cells #[.slice B1 X.length d1, .slice B2 K.length d2, .slice B3 V.length d3] 47 (0, 0)) := by rw [← hW5]; exact heap_alloc_new W4 _
        have HBL := Lib.hid hbl
        have HS5 := Lib.hid (HS4.out.step hb5)
        have HT1 := Lib.hid (fun (W' : World) (hb : Below W5.heap.size W5 W') => same_any A1 B1 c1 d1 X X W' (Kd.C_below HC1.out (below_then hb5 hb5.size hb)) (Kd.C_below HD1.out (below_then hb5 hb5.size hb)) hl1 hm1 (by have := HXL.out; omega) (by have := HXL.out; omega))
        have HT2 := Lib.hid (fun (W' : World) (hb : Below W5.heap.size W5 W') => same_any A2 B2 c2 d2 K K W' (Kd.C_below HC2.out (below_then hb5 hb5.size hb)) (Kd.C_below HD2.out (below_then hb5 hb5.size hb)) hl2 hm2 (by have := HKL.out; omega) (by have := HKL.out; omega))
        have HT3 := Lib.hid (fun (W' : World) (hb : Below W5.heap.size W5 W') => same_any A3 B3 c3 d3 V V W' (Kd.C_below HC3.out (below_then hb5 hb5.size hb)) (Kd.C_below HD3.out (below_then hb5 hb5.size hb)) hl3 hm3 (by have := HVL.out; omega) (by have := HVL.out; omega))
        rw [decide_eq_true (show X = X from rfl)] at HT1
        rw [decide_eq_true (show K = K from rfl)] at HT2
        rw [decide_eq_true (show V = V from rfl)] at HT3
        obtain ⟨b5, hb5e⟩ : ∃ b, W4.heap.size = b := ⟨_, rfl⟩
        rw [hb5e] at HBL
        rw [hW5, hb5e]
        clear hbl hb5 hW5 hb5e
        refine (HT1.out W5 (Below.refl _ _)).mono ?_
        rintro e W6 ⟨rfl, hd⟩
        have HB6 := Lib.hid hd.below
        have y1 := blk_cell (blk_below HBL.out hd.below) 1
        clear hd
        go_wp2_with fail
        refine (HT2.out W6 HB6.out).mono ?_
        rintro e W7 ⟨rfl, hd⟩
        have HB7 := Lib.hid (below_then HB6.out HB6.out.size hd.below)
        have y2 := blk_cell (blk_below HBL.out HB7.out) 2
        clear hd y1
        go_wp2_with fail
        refine (HT3.out W7 HB7.out).mono ?_
        rintro e W8 ⟨rfl, hd⟩
        have HB8 := Lib.hid (below_then HB7.out HB7.out.size hd.below)
        clear hd y2
        go_wp2_with fail
        refine (alive10_any _).mono ?_
        rintro e W9 ⟨rfl, hb⟩
        have HS9 := Lib.hid (HS5.out.step (below_then HB8.out HB8.out.size hb))
        clear hb
        go_wp2_with fail
        go_ret
        exact ⟨rfl, HS9.out.below⟩
      · have HST := Lib.hid (step_out W2 p c HOK.out HM.out l hl AX AK AV cX ks.length cK vs.length cV xs (HX.out W2 HS2.out.below) hcx (by omega))
        unfold StepO at HST
        have g2 : (decide (l < 0) = false → decide (c.layers ≤ l) = true) := fun h => decide_eq_true (by have h1 := of_decide_eq_false h; unfold Cfg.in_ at hl; omega)
        have HG2 := Lib.hid g2
        clear g2 hl
        go_wp2_with fail
        refine HST.out.mono ?_
        rintro e W3 ⟨A1, c1, rfl, o1, hb⟩
        have HS3 := Lib.hid (HS2.out.step hb)
        have HC1 := Lib.hid o1.rd.2
        have hl1 := o1.rd.1
        clear o1 hb HST z0 z1 z2 z3 z4 z5 z6 z7 z8 z9
        obtain ⟨z0, z1, z2, z3, z4, z5, z6, z7, z8, z9, -⟩ := id HS3.out
        have HT1 := Lib.hid (same_any A1 AX c1 cX xs xs W3 HC1.out (HX.out W3 HS3.out.below) hl1 hcx (by omega) (by omega))
        rw [decide_eq_true (show xs = xs from rfl)] at HT1
        cases hl0 : decide (l < 0) with
        | true =>
          go_wp2_with fail
          refine HT1.out.mono ?_
          rintro e W6 ⟨rfl, hd⟩
          have HS6 := Lib.hid (HS3.out.step hd.below)
          clear hd
          go_wp2_with fail
          refine (alive10_any _).mono ?_
          rintro e W9 ⟨rfl, hb⟩
          have HS9 := Lib.hid (HS6.out.step hb)
          clear hb
          go_wp2_with fail
          go_ret
          exact ⟨rfl, HS9.out.below⟩
        | false =>
          have hl1 := HG2.out hl0
          go_wp2_with fail
          refine HT1.out.mono ?_
          rintro e W6 ⟨rfl, hd⟩
          have HS6 := Lib.hid (HS3.out.step hd.below)
          clear hd
          go_wp2_with fail
          refine (alive10_any _).mono ?_
          rintro e W9 ⟨rfl, hb⟩
          have HS9 := Lib.hid (HS6.out.step hb)
          clear hb
          go_wp2_with fail
          go_ret
          exact ⟨rfl, HS9.out.below⟩
    · have HNB := Lib.hid (HNB.out hok)
      clear HNW
      go_wp2_with fail
      refine (HNB.out W1).mono ?_
      unfold NewNo
      rintro e W2 ⟨rfl, hb⟩
      have HS2 := Lib.hid (HS1.out.step hb)
      clear hb z0 z1 z2 z3 z4 z5 z6 z7 z8 z9
      go_wp2_with fail
      refine (alive10_any _).mono ?_
      rintro e W3 ⟨rfl, hb⟩
      have HS3 := Lib.hid (HS2.out.step hb)
      clear hb
      go_wp2_with fail
      go_ret
      exact ⟨rfl, HS3.out.below⟩

set_option maxRecDepth 100000 in
theorem lifted (os : Os) (started : os.Started) (H : Type) (enc : TypeId × Value → H) :
    ReturnsInHanded {} Try.checked os 4 .any (Rows.attnStepsSpec.pre6 enc Try.prog Try.f4 Rows.attnStepsRow.domain false) (Rows.attnStepsSpec.post enc Try.prog Try.f4 false true false false) := by
  refine returnsInHanded_of_change (C := Try.checked) own started (by kernel_rfl) Try.func4
    (ChangeSpec.witness6 (enc := enc) (C := Try.checked) false ⟨#[], #[.agg #[.int .u64 0, .int .i64 0, .int .i64 0, .int .i64 0, .int .i64 0, .int .i64 0, .int .i64 0, .slice none 0 0, .slice none 0 0, .slice none 0 0]], []⟩ 8 (by kernel_rfl) (by kernel_rfl) (by kernel_rfl) (by kernel_rfl)) ?_
  intro W base args ds gs before hval0 hW hcnd _
  have hval : ∀ (j : Nat) t v, Try.f4.params[j]? = some t → args[j]? = some v → Value.okWide Try.prog W .any base t v := hval0
  have hW' := hW
  obtain ⟨p, q, hA0, hV, rfl, hfz, hnd⟩ := hW
  have hA : DataW.TrodAll enc Try.prog W 0 (fun _ => true) true Try.f4.params.toList args.toList ds p := hA0
  rw [Try.params4] at hA hval
  obtain ⟨v0, vs0, d0, ds0, p0, q0, hargs, rfl, rfl, h0, r0⟩ := trodAll_cons hA
  obtain ⟨rfl, rfl, rfl⟩ := trodAll_nil r0
  obtain rfl : args = #[v0] := by cases args; simp_all
  obtain ⟨rfl, rfl⟩ := trodVars_none hV
  have k0 := h0
  have lt0 : ∀ x ∈ p0, x.block < W.heap.size := by obtain ⟨m, hm⟩ := k0; exact DataW.trod_lt m _ _ _ hm
  obtain ⟨cs0, rfl, _⟩ := okWide_struct Try.underlying41 (hval 0 41 v0 rfl rfl)
  obtain ⟨x0, y0, g0⟩ : ∃ x, KCase.K W x cs0.toList ∧ (CaseG) x := by obtain ⟨m, hm⟩ := k0; exact op_case _ _ _ m _ _ hm
  clear hA0 hval0
  refine (walk cs0 x0 W y0 g0).mono fun e W' ⟨he, bel⟩ => ?_
  subst he
  exact ⟨_, rfl, _, _, _, [], _, [], hW', trodAll_mk1 (shut_bool Try.underlying4 _), (trodAll_cons_mk (Below.trod laidOut (by kernel_rfl) (of_decide_eq_true (by kernel_rfl)) k0 bel lt0) trodAll_mk0), rfl, bel.frame _, fun h => by cases h⟩

theorem over : Rows.attnStepsRow.holds Try.pinned (OpenSpec.ofChange Rows.attnStepsSpec) :=
  OpenClaim.holds_of_wide 4 Try.f4 rfl rfl rfl rfl rfl rfl rfl ⟨rfl, rfl, rfl, rfl, rfl⟩ rfl rfl rfl rfl rfl (by kernel_rfl) Try.func4 (by kernel_rfl)
    (of_decide_eq_true (by kernel_rfl)) (by unfold Func.isWrapper; first | (rw [if_pos (by decide +kernel)]; kernel_rfl) | (rw [if_neg (by decide +kernel)]; exact ⟨rfl, rfl⟩))
    (fun os started H enc _ => lifted os started H enc)

theorem proved : Rows.AttnStepsSaid := over
end Go.Proofs.Ytdfgmdmcdnnhfaa.attnSteps
