/- The lists that are handed in stay as they are, whatever is written into what comes back. -/
import Derived.Test.YtgedmelohiajjaaRows
import Derived.WalkKit
import Derived.ProofKit
import Derived.OpenShut
import Derived.ShutString
import Derived.ChangeOld
import Derived.Below
import Derived.Test.YtgedmelohiajjaaGbStay
namespace Go.Proofs.Ytgedmelohiajjaa.vecStays
open Go.ChangeShapes Go.WideShapes Go.ChangeAt Go.RowKit
open Go.ChangeMaps (open_string shut_string)
set_option linter.unusedVariables false
set_option linter.unusedSimpArgs false
open Go.Proofs.YtgedmelohiajjaaW.PrintWords Go.Proofs.YtgedmelohiajjaaW.PrintLast Go.Proofs.YtgedmelohiajjaaW.PrintMore

theorem own : ownKnob Try.prog.godebug = none := by kernel_rfl
theorem laidOut : laidOutB Try.prog = true := by kernel_rfl

def IsRow (k : IntKind) (w : World) (a : Option Addr) (len cap : Nat) (zs : List Int) : Prop :=
  (a = none ∧ len = 0 ∧ cap = 0 ∧ zs = []) ∨
  ∃ x, a = some x ∧ len ≤ cap ∧ cap ≤ maxLen ∧ zs.length = cap ∧ (∀ i, i < zs.length → w.cell? (x.add i) = some (.int k (zs.getD i 0))) ∧ ∀ n ∈ zs, (Lit.int k n).wf = true

set_option maxRecDepth 100000 in
set_option maxHeartbeats 2000000 in
theorem walk (a0 : Option Addr) (len0 cap0 : Nat) (z0 : List Int) (a1 : Option Addr) (len1 cap1 : Nat) (z1 : List Int) (a2 : Int) (w : World) (w0 : IsRow .i64 w a0 len0 cap0 z0) (w1 : IsRow .i64 w a1 len1 cap1 z1) (w2 : (Lit.int .i64 a2).wf = true) :
    Calls Try.prog 13 #[.slice a0 len0 cap0, .slice a1 len1 cap1, .int .i64 a2] w fun e w' => e = .returned (.bool true) ∧ Below w.heap.size w w' := by
  obtain ⟨xs, rfl, hxs, hcxs, -⟩ := isrow_C w0
  obtain ⟨ys, rfl, hys, hcys, -⟩ := isrow_C w1
  clear w0 w1
  have hr := rows2 w 22 a0 a1 cap0 cap1 xs ys hxs hys hcxs hcys
  have HR := Lib.hid hr
  have HX := Lib.hid (fun (W : World) (hb : Below w.heap.size w W) => Kd.C_below hxs hb)
  have HY := Lib.hid (fun (W : World) (hb : Below w.heap.size w W) => Kd.C_below hys hb)
  clear hr hxs hys
  by_cases hf : farB [xs, ys] = true
  · go_enter Try.func13, Try.ntmps13
    go_wp2_with fail
    refine (far_any _ _ [xs, ys] _ HR.out (by simp)).mono ?_
    unfold FarR
    rw [hf]
    rintro e w' ⟨rfl, rfl⟩
    go_wp2_with fail
    refine (alive_any _).mono ?_
    rintro e w1 ⟨rfl, hb⟩
    have HB := Lib.hid hb
    clear hb
    go_wp2_with fail
    go_ret
    exact ⟨rfl, below_then (below_alloc (Below.refl _ w) _) (by simp) HB.out⟩
  · have hf' : farB [xs, ys] = false := by simpa using hf
    obtain ⟨hn, hm⟩ := far2 xs ys hf'
    have HF := Lib.hid hf'
    clear hf hf'
    go_enter Try.func13, Try.ntmps13
    go_wp2_with fail
    refine (far_any _ _ [xs, ys] _ HR.out (by simp)).mono ?_
    unfold FarR
    rw [HF.out]
    rintro e w' ⟨rfl, rfl⟩
    obtain ⟨W0, hW0⟩ : ∃ W0, w.alloc (.cells #[.slice a0 xs.length cap0, .slice a1 ys.length cap1] 22) = W0 := ⟨_, rfl⟩
    have HB0 := Lib.hid (show Below w.heap.size w W0 by rw [← hW0]; exact below_alloc (Below.refl _ w) _)
    rw [hW0]
    clear hW0
    have HXa := Lib.hid (HX.out _ HB0.out)
    have HBa := Lib.hid (Below.refl W0.heap.size W0)
    go_wp2_with (at_builtin; first
      | (refine Kd.R_append_row (w0 := W0) (Value.int .i64) 0 (h1 := fun _ => rfl) W0.heap.size rfl _ _ 22 2 (.int .i64 0) 8 rfl Try.underlying22 infoI64 rfl (by decide) _ [] ys a1 ys.length cap1 (fun _ => True) rfl rfl (fun _ _ => trivial) (Kd.R_nil _ _ _ _ _) HYa.out HBb.out HSb.out (by simp; omega) ?_; intro v2 w2 hr2 hb2 hg2 hat2)
      | (refine Kd.R_append_row (w0 := W0) (Value.int .i64) 0 (h1 := fun _ => rfl) W0.heap.size rfl _ _ 22 2 (.int .i64 0) 8 rfl Try.underlying22 infoI64 rfl (by decide) _ [] xs a0 xs.length cap0 (fun _ => True) rfl rfl (fun _ _ => trivial) (Kd.R_nil _ _ _ _ _) HXa.out HBa.out (Nat.le_refl _) (by simp; omega) ?_; intro v1 w1 hr1 hb1 hg1 hat1; have HSb := Lib.hid hb1.size; have HBb := Lib.hid hb1; have HYa := Lib.hid (HY.out _ (below_then HB0.out HB0.out.size hb1)); have HG1 := Lib.hid hg1; have HO1 := Lib.hid hr1; clear hb1 hr1 hg1 hat1))
    have hB2 := below_then HB0.out HB0.out.size hb2
    have ho1 : Own w2 W0.heap.size 2 v1 xs := by
      have h := HO1.out
      rw [List.nil_append] at h
      exact Own.move h fun k hk => hg2.block k (own_block_lt h k hk) (show ¬ some k = none by simp)
    have ho2 : Own w2 W0.heap.size 2 v2 ys := by rw [List.nil_append] at hr2; exact hr2
    clear hr2 hb2 hg2 hat2 HO1 HBb HSb HYa HXa HBa HG1
    obtain ⟨W2, rfl⟩ : ∃ W2 : World, W2 = w2 := ⟨_, rfl⟩
    have HB2 := Lib.hid hB2
    have HOc := Lib.hid ho1
    have HOd := Lib.hid ho2
    clear hB2 ho1 ho2
    have HE := Lib.hid (Below.refl W2.heap.size W2)
    go_wp2_with fail
    refine (vadd_any _ _ _ _ xs ys W2 (HX.out _ HB2.out) (HY.out _ HB2.out) hcxs hcys (by omega) (by omega)).mono ?_
    rintro e W3 ⟨v3, rfl, ho, hb⟩
    have HB3 := Lib.hid (below_then HB2.out HB2.out.size hb)
    have HE3 := Lib.hid (below_then HE.out HE.out.size hb)
    have HO3_3 := Lib.hid (ho.lower (base' := W2.heap.size) HE.out.size)
    clear ho hb
    go_wp2_with fail
    refine (scale_any _ _ xs a2 W3 (HX.out _ HB3.out) hcxs (by omega)).mono ?_
    rintro e W4 ⟨v4, rfl, ho, hb⟩
    have HB4 := Lib.hid (below_then HB3.out HB3.out.size hb)
    have HE4 := Lib.hid (below_then HE3.out HE3.out.size hb)
    have HO3_4 := Lib.hid (HO3_3.out.below hb)
    clear HO3_3
    have HO4_4 := Lib.hid (ho.lower (base' := W2.heap.size) HE3.out.size)
    clear ho hb
    go_wp2_with fail
    refine (norm_any _ _ xs W4 (HX.out _ HB4.out) hcxs (by omega)).mono ?_
    rintro e W5 ⟨v5, rfl, ho, hb⟩
    have HB5 := Lib.hid (below_then HB4.out HB4.out.size hb)
    have HE5 := Lib.hid (below_then HE4.out HE4.out.size hb)
    have HO3_5 := Lib.hid (HO3_4.out.below hb)
    have HO4_5 := Lib.hid (HO4_4.out.below hb)
    clear HO3_4
    clear HO4_4
    have HO5_5 := Lib.hid (ho.lower (base' := W2.heap.size) HE4.out.size)
    clear ho hb
    go_wp2_with fail
    refine (soft_any _ _ xs W5 (HX.out _ HB5.out) hcxs (by omega)).mono ?_
    rintro e W6 ⟨v6, rfl, ho, hb⟩
    have HB6 := Lib.hid (below_then HB5.out HB5.out.size hb)
    have HE6 := Lib.hid (below_then HE5.out HE5.out.size hb)
    have HO3_6 := Lib.hid (HO3_5.out.below hb)
    have HO4_6 := Lib.hid (HO4_5.out.below hb)
    have HO5_6 := Lib.hid (HO5_5.out.below hb)
    clear HO3_5
    clear HO4_5
    clear HO5_5
    have HO6_6 := Lib.hid (ho.lower (base' := W2.heap.size) HE5.out.size)
    clear ho hb
    go_wp2_with fail
    refine (relu_any _ _ xs W6 (HX.out _ HB6.out) hcxs (by omega)).mono ?_
    rintro e W7 ⟨v7, rfl, ho, hb⟩
    have HB7 := Lib.hid (below_then HB6.out HB6.out.size hb)
    have HE7 := Lib.hid (below_then HE6.out HE6.out.size hb)
    have HO3_7 := Lib.hid (HO3_6.out.below hb)
    have HO4_7 := Lib.hid (HO4_6.out.below hb)
    have HO5_7 := Lib.hid (HO5_6.out.below hb)
    have HO6_7 := Lib.hid (HO6_6.out.below hb)
    clear HO3_6
    clear HO4_6
    clear HO5_6
    clear HO6_6
    have HO7_7 := Lib.hid (ho.lower (base' := W2.heap.size) HE6.out.size)
    clear ho hb
    go_wp2_with fail
    have hr := rows2 W7 22 a1 a0 cap1 cap0 ys xs (HY.out _ HB7.out) (HX.out _ HB7.out) hcys hcxs
    obtain ⟨W8L, hWL⟩ : ∃ W, W7.alloc (.cells #[.slice a1 ys.length cap1, .slice a0 xs.length cap0] 22) = W := ⟨_, rfl⟩
    have hbl : Below W7.heap.size W7 W8L := by rw [← hWL]; exact (Below.refl _ _).alloc (Nat.le_refl _) _
    rw [hWL] at hr ⊢
    have HRL8 := Lib.hid hr
    have HSL8 := Lib.hid (show Short [ys, xs] from fun j => by match j with | 0 => (show ys.length ≤ 4096; omega) | 1 => (show xs.length ≤ 4096; omega) | j + 2 => simp)
    have HB8L := Lib.hid (below_then HB7.out HB7.out.size hbl)
    have HE8L := Lib.hid (below_then HE7.out HE7.out.size hbl)
    have HO3_8L := Lib.hid (HO3_7.out.below hbl)
    have HO4_8L := Lib.hid (HO4_7.out.below hbl)
    have HO5_8L := Lib.hid (HO5_7.out.below hbl)
    have HO6_8L := Lib.hid (HO6_7.out.below hbl)
    have HO7_8L := Lib.hid (HO7_7.out.below hbl)
    clear HO3_7
    clear HO4_7
    clear HO5_7
    clear HO6_7
    clear HO7_7
    clear hr hbl hWL
    go_wp2_with fail
    refine (vmix_any _ _ _ _ xs [ys, xs] W8L (HX.out _ HB8L.out) HRL8.out HSL8.out (by simp) hcxs (by simp) (by omega)).mono ?_
    rintro e W8 ⟨v8, rfl, ho, hb⟩
    have HB8 := Lib.hid (below_then HB8L.out HB8L.out.size hb)
    have HE8 := Lib.hid (below_then HE8L.out HE8L.out.size hb)
    have HO3_8 := Lib.hid (HO3_8L.out.below hb)
    have HO4_8 := Lib.hid (HO4_8L.out.below hb)
    have HO5_8 := Lib.hid (HO5_8L.out.below hb)
    have HO6_8 := Lib.hid (HO6_8L.out.below hb)
    have HO7_8 := Lib.hid (HO7_8L.out.below hb)
    clear HO3_8L
    clear HO4_8L
    clear HO5_8L
    clear HO6_8L
    clear HO7_8L
    have HO8_8 := Lib.hid (ho.lower (base' := W2.heap.size) HE8L.out.size)
    clear ho hb
    go_wp2_with fail
    have hr := rows2 W8 22 a0 a1 cap0 cap1 xs ys (HX.out _ HB8.out) (HY.out _ HB8.out) hcxs hcys
    obtain ⟨W9L, hWL⟩ : ∃ W, W8.alloc (.cells #[.slice a0 xs.length cap0, .slice a1 ys.length cap1] 22) = W := ⟨_, rfl⟩
    have hbl : Below W8.heap.size W8 W9L := by rw [← hWL]; exact (Below.refl _ _).alloc (Nat.le_refl _) _
    rw [hWL] at hr ⊢
    have HRL9 := Lib.hid hr
    have HSL9 := Lib.hid (show Short [xs, ys] from fun j => by match j with | 0 => (show xs.length ≤ 4096; omega) | 1 => (show ys.length ≤ 4096; omega) | j + 2 => simp)
    have HB9L := Lib.hid (below_then HB8.out HB8.out.size hbl)
    have HE9L := Lib.hid (below_then HE8.out HE8.out.size hbl)
    have HO3_9L := Lib.hid (HO3_8.out.below hbl)
    have HO4_9L := Lib.hid (HO4_8.out.below hbl)
    have HO5_9L := Lib.hid (HO5_8.out.below hbl)
    have HO6_9L := Lib.hid (HO6_8.out.below hbl)
    have HO7_9L := Lib.hid (HO7_8.out.below hbl)
    have HO8_9L := Lib.hid (HO8_8.out.below hbl)
    clear HO3_8
    clear HO4_8
    clear HO5_8
    clear HO6_8
    clear HO7_8
    clear HO8_8
    clear hr hbl hWL
    go_wp2_with fail
    refine (vmul_any _ _ _ _ [xs, ys] ys W9L HRL9.out HSL9.out (HY.out _ HB9L.out) (by simp) hcys (by simp) (by omega)).mono ?_
    rintro e W9 ⟨v9, rfl, ho, hb⟩
    have HB9 := Lib.hid (below_then HB9L.out HB9L.out.size hb)
    have HE9 := Lib.hid (below_then HE9L.out HE9L.out.size hb)
    have HO3_9 := Lib.hid (HO3_9L.out.below hb)
    have HO4_9 := Lib.hid (HO4_9L.out.below hb)
    have HO5_9 := Lib.hid (HO5_9L.out.below hb)
    have HO6_9 := Lib.hid (HO6_9L.out.below hb)
    have HO7_9 := Lib.hid (HO7_9L.out.below hb)
    have HO8_9 := Lib.hid (HO8_9L.out.below hb)
    clear HO3_9L
    clear HO4_9L
    clear HO5_9L
    clear HO6_9L
    clear HO7_9L
    clear HO8_9L
    have HO9_9 := Lib.hid (ho.lower (base' := W2.heap.size) HE9L.out.size)
    clear ho hb
    obtain ⟨A3, c3, e3, -, -⟩ := HO3_9.out.reads
    obtain ⟨n3, hn3⟩ : ∃ n, (vadd xs ys).length = n := ⟨_, rfl⟩
    rw [hn3] at e3
    subst e3
    clear hn3
    obtain ⟨A4, c4, e4, -, -⟩ := HO4_9.out.reads
    obtain ⟨n4, hn4⟩ : ∃ n, (vscale xs a2).length = n := ⟨_, rfl⟩
    rw [hn4] at e4
    subst e4
    clear hn4
    obtain ⟨A5, c5, e5, -, -⟩ := HO5_9.out.reads
    obtain ⟨n5, hn5⟩ : ∃ n, (vnorm xs).length = n := ⟨_, rfl⟩
    rw [hn5] at e5
    subst e5
    clear hn5
    obtain ⟨A6, c6, e6, -, -⟩ := HO6_9.out.reads
    obtain ⟨n6, hn6⟩ : ∃ n, (vsoft xs).length = n := ⟨_, rfl⟩
    rw [hn6] at e6
    subst e6
    clear hn6
    obtain ⟨A7, c7, e7, -, -⟩ := HO7_9.out.reads
    obtain ⟨n7, hn7⟩ : ∃ n, (vrelu xs).length = n := ⟨_, rfl⟩
    rw [hn7] at e7
    subst e7
    clear hn7
    obtain ⟨A8, c8, e8, -, -⟩ := HO8_9.out.reads
    obtain ⟨n8, hn8⟩ : ∃ n, (vmix xs [ys, xs]).length = n := ⟨_, rfl⟩
    rw [hn8] at e8
    subst e8
    clear hn8
    obtain ⟨A9, c9, e9, -, -⟩ := HO9_9.out.reads
    obtain ⟨n9, hn9⟩ : ∃ n, (vmul [xs, ys] ys).length = n := ⟨_, rfl⟩
    rw [hn9] at e9
    subst e9
    clear hn9
    have hmade := Rs.made W9 W2.heap.size 22 [.slice A3 n3 c3, .slice A4 n4 c4, .slice A5 n5 c5, .slice A6 n6 c6, .slice A7 n7 c7, .slice A8 n8 c8, .slice A9 n9 c9] (by
      intro u hu
      simp only [List.mem_cons, List.not_mem_nil, or_false] at hu
      rcases hu with rfl | rfl | rfl | rfl | rfl | rfl | rfl
      · exact ⟨_, HO3_9.out⟩
      · exact ⟨_, HO4_9.out⟩
      · exact ⟨_, HO5_9.out⟩
      · exact ⟨_, HO6_9.out⟩
      · exact ⟨_, HO7_9.out⟩
      · exact ⟨_, HO8_9.out⟩
      · exact ⟨_, HO9_9.out⟩
      )
    obtain ⟨vs, hvs⟩ : ∃ vs : List Value, [.slice A3 n3 c3, .slice A4 n4 c4, .slice A5 n5 c5, .slice A6 n6 c6, .slice A7 n7 c7, .slice A8 n8 c8, .slice A9 n9 c9] = vs := ⟨_, rfl⟩
    have hvl : vs.length = 7 := by rw [← hvs]; rfl
    obtain ⟨g, hgl⟩ : ∃ g, W9.heap.size = g := ⟨_, rfl⟩
    obtain ⟨W10, hW10⟩ : ∃ W, W9.alloc (.cells ([.slice A3 n3 c3, .slice A4 n4 c4, .slice A5 n5 c5, .slice A6 n6 c6, .slice A7 n7 c7, .slice A8 n8 c8, .slice A9 n9 c9] : List Value).toArray 22) = W := ⟨_, rfl⟩
    have hb10 : Below W9.heap.size W9 W10 := by rw [← hW10]; exact (Below.refl _ _).alloc (Nat.le_refl _) _
    rw [hvs, hgl] at hmade
    have HM10 := Lib.hid (show Rs W10 W2.heap.size g vs by rw [← hW10, hvs]; exact hmade)
    have HB10 := Lib.hid (below_then HB9.out HB9.out.size hb10)
    have HE10 := Lib.hid (below_then HE9.out HE9.out.size hb10)
    have hgb : W2.heap.size ≤ g := by rw [← hgl]; exact HE9.out.size
    have HVL := Lib.hid hvl
    clear HO3_9
    clear HO4_9
    clear HO5_9
    clear HO6_9
    clear HO7_9
    clear HO8_9
    clear HO9_9
    have HGL := Lib.hid hgl
    have HW10 := Lib.hid hW10
    clear hmade hb10 hvl hgl hvs hW10
    go_wp2_with fail
    rw [HW10.out, HGL.out]
    clear HW10 HGL
    go_loopw [45] (fun s wr => ∃ k : Nat, s = .int .i64 k ∧ k ≤ 7 ∧ Below W2.heap.size W2 wr ∧ Rs wr W2.heap.size g vs) (fun s _ => 7 - (intOf s).toNat)
    case atStart => exact ⟨0, rfl, by omega, HE10.out, HM10.out⟩
    case round =>
      obtain ⟨k, rfl, hk, hb, hm⟩ := hrel
      have HE := Lib.hid hb
      have HM := Lib.hid hm
      clear hb hm
      by_cases hk7 : k < 7
      · obtain ⟨c1, hown, zs, hz⟩ := HM.out k (by rw [HVL.out]; exact hk7)
        obtain ⟨A, c, e, hnc, hC⟩ := hz.reads
        have hlen : zs.length ≤ 9223372036854775807 := hC.2.1
        have hform := hz.form
        obtain ⟨u, hu⟩ : ∃ u, vs.getD k undef = u := ⟨_, rfl⟩
        have HU := Lib.hid hu
        rw [hu] at c1 hform e hown
        clear hu hC hz
        obtain ⟨n, hnn⟩ : ∃ n, zs.length = n := ⟨_, rfl⟩
        rw [hnn] at e hform hnc hlen
        subst e
        have hgA : 0 < n → ∃ g', A = some ⟨g', 0, none⟩ ∧ W2.heap.size ≤ g' ∧ g' ≠ g := fun hp => by
          obtain ⟨g', cap', e1, e2, -⟩ := hform hp
          obtain ⟨rfl, -⟩ : A = some ⟨g', 0, none⟩ ∧ c = cap' := by simpa using e1
          exact ⟨g', rfl, e2, fun e3 => hown (by simp [Value.ownBlock, e3])⟩
        have HA := Lib.hid hgA
        have HU2 := Lib.hid (fun (W : World) (h : Rs W W2.heap.size g vs) (j : Nat) (hj : j < n) (g' : Nat) (ea : A = some ⟨g', 0, none⟩) => show W.cell? ⟨g', j, none⟩ ≠ none ∧ W.frozen? ⟨g', j, none⟩ = false by
          obtain ⟨-, -, zs', hz'⟩ := h k (by rw [HVL.out]; exact hk7)
          rw [HU.out, ea] at hz'
          obtain ⟨A2, c2, e2, -, -⟩ := hz'.reads
          have hn2 : n = zs'.length := by simpa using (congrArg (fun v => match v with | Value.slice _ n _ => n | _ => 0) e2)
          obtain ⟨h1, h2⟩ := hz'.at_n hn2.symm j hj
          exact ⟨by rw [h1]; simp, h2⟩)
        clear hform hgA hown hnn HU
        obtain ⟨wo, rfl⟩ : ∃ wo : World, wo = wr := ⟨_, rfl⟩
        go_wp2_with fail
        go_loopw [51] (fun s wq => ∃ j : Nat, s = .int .i64 j ∧ j ≤ n ∧ Below W2.heap.size W2 wq ∧ Rs wq W2.heap.size g vs) (fun s _ => n - (intOf s).toNat)
        case atStart => exact ⟨0, rfl, by omega, HE.out, HM.out⟩
        case round =>
          obtain ⟨j, rfl, hj, hb, hm⟩ := hrel
          have HE2 := Lib.hid hb
          have HM2 := Lib.hid hm
          clear hb hm
          by_cases hjn : j < n
          · obtain ⟨g', rfl, hg1, hg2⟩ := HA.out (by omega)
            obtain ⟨x1, x2⟩ := HU2.out _ HM2.out j hjn g' rfl
            obtain ⟨v, hv⟩ := Option.ne_none_iff_exists'.1 x1
            clear x1
            go_wp2_with fail
            go_roundw
            case rel => exact ⟨j + 1, by go_num, by omega, HE2.out.setCell (p := ⟨g', j, none⟩) hg1 _, HM2.out.store g' j 7 hg2⟩
            case measure => simp [intOf]; omega
          · go_wp2_with fail
            go_roundw
            case rel => exact ⟨k + 1, by go_num, by omega, HE2.out, HM2.out⟩
            case measure => simp [intOf]; omega
      · go_wp2_with fail
        have HBr := Lib.hid (below_then HB2.out HB2.out.size HE.out)
        refine (top_any _ _ xs 3 wr (HX.out _ HBr.out) hcxs (by omega)).mono ?_
        rintro e W11 ⟨v11, rfl, -, hb⟩
        have HB11 := Lib.hid (below_then HBr.out HBr.out.size hb)
        have HE11 := Lib.hid (below_then HE.out HE.out.size hb)
        clear hb
        obtain ⟨Ac, cc, ec, hcc, -⟩ := HOc.out.reads
        obtain ⟨Ad, cd, ed, hcd, -⟩ := HOd.out.reads
        subst ec ed
        have HCc := Lib.hid (fun (W : World) (hb : Below W2.heap.size W2 W) => (HOc.out.below hb).reads)
        have HCd := Lib.hid (fun (W : World) (hb : Below W2.heap.size W2 W) => (HOd.out.below hb).reads)
        clear HOc HOd
        go_wp2_with fail
        have hC1 : (Kd.int .i64).C W11 Ac xs.length xs := by
          obtain ⟨A, c, e, -, h⟩ := HCc.out _ HE11.out
          obtain ⟨rfl, -⟩ : Ac = A ∧ cc = c := by simpa using e
          exact h
        refine (same_any _ _ _ _ xs xs W11 (HX.out _ HB11.out) hC1 (by omega) (by omega)).mono ?_
        unfold SameR
        rw [decide_eq_true rfl]
        rintro e W12 ⟨rfl, hd⟩
        have HB12 := Lib.hid (HB11.out.trans (hd.below.mono HB11.out.size))
        have HE12 := Lib.hid (HE11.out.trans (hd.below.mono HE11.out.size))
        clear hd hC1
        go_wp2_with fail
        have hC2 : (Kd.int .i64).C W12 Ad ys.length ys := by
          obtain ⟨A, c, e, -, h⟩ := HCd.out _ HE12.out
          obtain ⟨rfl, -⟩ : Ad = A ∧ cd = c := by simpa using e
          exact h
        refine (same_any _ _ _ _ ys ys W12 (HY.out _ HB12.out) hC2 (by omega) (by omega)).mono ?_
        unfold SameR
        rw [decide_eq_true rfl]
        rintro e W13 ⟨rfl, hd⟩
        have HB13 := Lib.hid (HB12.out.trans (hd.below.mono HB12.out.size))
        clear hd hC2
        go_wp2_with fail
        refine (alive_any _).mono ?_
        rintro e W14 ⟨rfl, hb⟩
        have HB14 := Lib.hid (below_then HB13.out HB13.out.size hb)
        clear hb
        go_wp2_with fail
        go_ret
        exact ⟨rfl, HB14.out⟩

set_option maxRecDepth 100000 in
theorem lifted (os : Os) (started : os.Started) (H : Type) (enc : TypeId × Value → H) :
    ReturnsInHanded {} Try.checked os 13 .any (Rows.vecStaysSpec.pre6 enc Try.prog Try.f13 Rows.vecStaysRow.domain false) (Rows.vecStaysSpec.post enc Try.prog Try.f13 false true false false) := by
  refine returnsInHanded_of_change (C := Try.checked) own started (by kernel_rfl) Try.func13
    (ChangeSpec.witness6 (enc := enc) (C := Try.checked) false ⟨#[], #[.slice none 0 0, .slice none 0 0, .int .i64 0], []⟩ 8 (by kernel_rfl) (by kernel_rfl) (by kernel_rfl) (by kernel_rfl)) ?_
  intro W base args ds gs before hval0 hW hcnd _
  have hval : ∀ (j : Nat) t v, Try.f13.params[j]? = some t → args[j]? = some v → Value.okWide Try.prog W .any base t v := hval0
  have hW' := hW
  obtain ⟨p, q, hA0, hV, rfl, hfz, hnd⟩ := hW
  have hA : DataW.TrodAll enc Try.prog W 0 (fun _ => true) true Try.f13.params.toList args.toList ds p := hA0
  rw [Try.params13] at hA hval
  obtain ⟨v0, vs0, d0, ds0, p0, q0, hargs, rfl, rfl, h0, r0⟩ := trodAll_cons hA
  obtain ⟨v1, vs1, d1, ds1, p1, q1, rfl, rfl, rfl, h1, r1⟩ := trodAll_cons r0
  obtain ⟨v2, vs2, d2, ds2, p2, q2, rfl, rfl, rfl, h2, r2⟩ := trodAll_cons r1
  obtain ⟨rfl, rfl, rfl⟩ := trodAll_nil r2
  obtain rfl : args = #[v0, v1, v2] := by cases args; simp_all
  obtain ⟨rfl, rfl⟩ := trodVars_none hV
  obtain ⟨a0, len0, cap0, rfl⟩ := okWide_slice Try.underlying22 (hval 0 22 v0 rfl rfl)
  have k0 := h0
  have lt0 : ∀ x ∈ p0, x.block < W.heap.size := by obtain ⟨m, hm⟩ := k0; exact DataW.trod_lt m _ _ _ hm
  obtain ⟨z0, w0⟩ : ∃ zs, IsRow .i64 W a0 len0 cap0 zs := by
    obtain ⟨fuel, hf⟩ := h0
    rcases open_ints Try.underlying22 Try.underlying2 (by kernel_rfl) hf with ⟨hcs, _⟩ | ⟨x, l, c, zs, hcs, _, hl, hm, hz, _, hcell, hwz⟩
    · simp [Value.cells] at hcs
      obtain ⟨rfl, rfl, rfl⟩ := hcs
      exact ⟨[], .inl ⟨rfl, rfl, rfl, rfl⟩⟩
    · simp [Value.cells] at hcs
      obtain ⟨rfl, rfl, rfl⟩ := hcs
      exact ⟨zs, .inr ⟨_, rfl, hl, hm, by simpa using hz, hcell, hwz⟩⟩
  obtain ⟨a1, len1, cap1, rfl⟩ := okWide_slice Try.underlying22 (hval 1 22 v1 rfl rfl)
  have k1 := h1
  have lt1 : ∀ x ∈ p1, x.block < W.heap.size := by obtain ⟨m, hm⟩ := k1; exact DataW.trod_lt m _ _ _ hm
  obtain ⟨z1, w1⟩ : ∃ zs, IsRow .i64 W a1 len1 cap1 zs := by
    obtain ⟨fuel, hf⟩ := h1
    rcases open_ints Try.underlying22 Try.underlying2 (by kernel_rfl) hf with ⟨hcs, _⟩ | ⟨x, l, c, zs, hcs, _, hl, hm, hz, _, hcell, hwz⟩
    · simp [Value.cells] at hcs
      obtain ⟨rfl, rfl, rfl⟩ := hcs
      exact ⟨[], .inl ⟨rfl, rfl, rfl, rfl⟩⟩
    · simp [Value.cells] at hcs
      obtain ⟨rfl, rfl, rfl⟩ := hcs
      exact ⟨zs, .inr ⟨_, rfl, hl, hm, by simpa using hz, hcell, hwz⟩⟩
  obtain ⟨a2, rfl, rfl, rfl, w2⟩ := open_int Try.underlying2 (hval 2 2 v2 rfl rfl) h2
  clear hA0 hval0
  refine (walk a0 len0 cap0 z0 a1 len1 cap1 z1 a2 W w0 w1 w2).mono fun e W' ⟨he, bel⟩ => ?_
  subst he
  exact ⟨_, rfl, _, _, _, [], _, [], hW', trodAll_mk1 (shut_bool Try.underlying4 _), (trodAll_cons_mk (Below.trod laidOut (by kernel_rfl) (of_decide_eq_true (by kernel_rfl)) k0 bel lt0) (trodAll_cons_mk (Below.trod laidOut (by kernel_rfl) (of_decide_eq_true (by kernel_rfl)) k1 bel lt1) (trodAll_cons_mk (shut_int Try.underlying2 w2) trodAll_mk0))), rfl, bel.frame _, fun h => by cases h⟩

theorem over : Rows.vecStaysRow.holds Try.pinned (OpenSpec.ofChange Rows.vecStaysSpec) :=
  OpenClaim.holds_of_wide 13 Try.f13 rfl rfl rfl rfl rfl rfl rfl ⟨rfl, rfl, rfl, rfl, rfl⟩ rfl rfl rfl rfl rfl (by kernel_rfl) Try.func13 (by kernel_rfl)
    (of_decide_eq_true (by kernel_rfl)) (by unfold Func.isWrapper; first | (rw [if_pos (by decide +kernel)]; kernel_rfl) | (rw [if_neg (by decide +kernel)]; exact ⟨rfl, rfl⟩))
    (fun os started H enc _ => lifted os started H enc)

theorem proved : Rows.VecStaysSaid := over
end Go.Proofs.Ytgedmelohiajjaa.vecStays
