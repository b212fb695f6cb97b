/- A table: New, Ask. -/
import Derived.Test.YtmbhicjjbgbneaaAdM
import Derived.Deep.RegionHeld3
namespace Go.Proofs.Ytmbhicjjbgbneaa
open Go.RowKit Go.Shelf Go.Proofs.YtmbhicjjbgbneaaW.PrintWords Go.Proofs.YtmbhicjjbgbneaaW.PrintLast Go.Proofs.YtmbhicjjbgbneaaW.PrintMore
set_option linter.unusedVariables false
set_option linter.unusedSimpArgs false
set_option maxRecDepth 100000
theorem min_in (W : World) (n l m : Int) : Calls Try.prog 70 #[.int .i64 n, .int .i64 l, .int .i64 m] W fun e w' => e = .returned (.bool (decide (l ≤ n) && decide (n ≤ m))) ∧ W = w' := by
  by_cases h : l ≤ n
  · rw [decide_eq_true h]
    go_enter Try.func70, Try.ntmps70
    go_wp2_with fail
    go_ret
    exact ⟨rfl, rfl⟩
  · rw [decide_eq_false h]
    go_enter Try.func70, Try.ntmps70
    go_wp2_with fail
    go_ret
    exact ⟨rfl, rfl⟩
theorem adin_in (W : World) (n l m : Int) : Calls Try.prog 49 #[.int .i64 n, .int .i64 l, .int .i64 m] W fun e w' => e = .returned (.bool (decide (l ≤ n) && decide (n ≤ m))) ∧ W = w' := by
  by_cases h : l ≤ n
  · rw [decide_eq_true h]
    go_enter Try.func49, Try.ntmps49
    go_wp2_with fail
    go_ret
    exact ⟨rfl, rfl⟩
  · rw [decide_eq_false h]
    go_enter Try.func49, Try.ntmps49
    go_wp2_with fail
    go_ret
    exact ⟨rfl, rfl⟩
set_option maxHeartbeats 1000000 in
theorem mmay_any (c : Cfg) (W : World) : Calls Try.prog 48 #[c.v] W fun e w' => e = .returned (.bool (decide c.ok)) ∧ Below W.heap.size W w' := by
  rw [show c.v = .agg #[.int .u64 c.seed, .int .i64 c.vocab, .int .i64 c.dim, .int .i64 c.layers, .int .i64 c.top, .int .i64 c.heat] from rfl]
  have hb := below_alloc (Below.refl W.heap.size W) (.cells #[.int .u64 c.seed, .int .i64 c.vocab, .int .i64 c.dim, .int .i64 c.layers, .int .i64 c.top, .int .i64 c.heat] 24)
  have hk := heap_alloc_new W (.cells #[.int .u64 c.seed, .int .i64 c.vocab, .int .i64 c.dim, .int .i64 c.layers, .int .i64 c.top, .int .i64 c.heat] 24)
  obtain ⟨W0, hW0⟩ : ∃ W0, W.alloc (.cells #[.int .u64 c.seed, .int .i64 c.vocab, .int .i64 c.dim, .int .i64 c.layers, .int .i64 c.top, .int .i64 c.heat] 24) = W0 := ⟨_, rfl⟩
  obtain ⟨g, hg⟩ : ∃ g, W.heap.size = g := ⟨_, rfl⟩
  rw [hW0] at hb hk
  have HB := Lib.hid hb
  rw [hg] at hk
  obtain ⟨b1, hb1⟩ : ∃ b, (decide (2 ≤ c.vocab) && decide (c.vocab ≤ 64)) = b := ⟨_, rfl⟩
  obtain ⟨b2, hb2⟩ : ∃ b, (decide (1 ≤ c.dim) && decide (c.dim ≤ 16)) = b := ⟨_, rfl⟩
  obtain ⟨b3, hb3⟩ : ∃ b, (decide (1 ≤ c.layers) && decide (c.layers ≤ 4)) = b := ⟨_, rfl⟩
  obtain ⟨b4, hb4⟩ : ∃ b, (decide (1 ≤ c.top) && decide (c.top ≤ c.vocab)) = b := ⟨_, rfl⟩
  obtain ⟨b5, hb5⟩ : ∃ b, (decide (0 ≤ c.heat) && decide (c.heat ≤ 8)) = b := ⟨_, rfl⟩
  have hr : decide c.ok = (b1 && (b2 && (b3 && (b4 && b5)))) := by
    rw [← hb1, ← hb2, ← hb3, ← hb4, ← hb5, Bool.eq_iff_iff, decide_eq_true_iff]
    unfold Cfg.ok
    simp
  rw [hr]
  have H1 := Lib.hid (fun W => min_in W c.vocab 2 64)
  have H2 := Lib.hid (fun W => min_in W c.dim 1 16)
  have H3 := Lib.hid (fun W => min_in W c.layers 1 4)
  have H4 := Lib.hid (fun W => min_in W c.top 1 c.vocab)
  have H5 := Lib.hid (fun W => min_in W c.heat 0 8)
  rw [hb1] at H1
  rw [hb2] at H2
  rw [hb3] at H3
  rw [hb4] at H4
  rw [hb5] at H5
  have z1 := blk_cell hk 1
  have z2 := blk_cell hk 2
  have z3 := blk_cell hk 3
  have z4 := blk_cell hk 4
  have z5 := blk_cell hk 5
  have HW := Lib.hid hW0
  have HG := Lib.hid hg
  clear hb hk hW0 hg hb1 hb2 hb3 hb4 hb5 hr
  go_enter Try.func48, Try.ntmps48
  go_wp2_with fail
  try rw [HG.out]
  rw [HW.out]
  go_wp2_with fail
  refine (H1.out _).mono ?_
  rintro e w' ⟨rfl, rfl⟩
  cases b1 with
  | false =>
    go_wp2_with fail
    go_ret
    exact ⟨rfl, by first | exact HB.out | (rw [← HG.out]; exact HB.out)⟩
  | true =>
    go_wp2_with fail
    refine (H2.out _).mono ?_
    rintro e w' ⟨rfl, rfl⟩
    cases b2 with
    | false =>
      go_wp2_with fail
      go_ret
      exact ⟨rfl, by first | exact HB.out | (rw [← HG.out]; exact HB.out)⟩
    | true =>
      go_wp2_with fail
      refine (H3.out _).mono ?_
      rintro e w' ⟨rfl, rfl⟩
      cases b3 with
      | false =>
        go_wp2_with fail
        go_ret
        exact ⟨rfl, by first | exact HB.out | (rw [← HG.out]; exact HB.out)⟩
      | true =>
        go_wp2_with fail
        refine (H4.out _).mono ?_
        rintro e w' ⟨rfl, rfl⟩
        cases b4 with
        | false =>
          go_wp2_with fail
          go_ret
          exact ⟨rfl, by first | exact HB.out | (rw [← HG.out]; exact HB.out)⟩
        | true =>
          go_wp2_with fail
          refine (H5.out _).mono ?_
          rintro e w' ⟨rfl, rfl⟩
          go_wp2_with fail
          go_ret
          exact ⟨rfl, by first | exact HB.out | (rw [← HG.out]; exact HB.out)⟩
def TSet.cfg (s : TSet) : Cfg := ⟨s.seed, s.vocab, s.dim, s.layers, s.top, s.heat⟩
def TSet.ok (s : TSet) : Prop := s.cfg.ok ∧ (1 ≤ s.streams ∧ s.streams ≤ 64) ∧ (1 ≤ s.each ∧ s.each ≤ s.streams) ∧ (0 ≤ s.prompt ∧ s.prompt ≤ 255) ∧ (0 ≤ s.most ∧ s.most ≤ 256)
instance (s : TSet) : Decidable s.ok := by unfold TSet.ok; infer_instance
def TSet.v (s : TSet) : Value := .agg #[.int .u64 s.seed, .int .i64 s.vocab, .int .i64 s.dim, .int .i64 s.layers, .int .i64 s.top, .int .i64 s.heat, .int .i64 s.streams, .int .i64 s.each, .int .i64 s.prompt, .int .i64 s.most]
def AdNew (W : World) (st : TSet) (e : Ending) (w' : World) : Prop := ∃ p mA mP, e = .returned (.tuple #[.pointer (some ⟨p, 0, none⟩), .int .i64 0]) ∧ Tt w' p mA mP st [] [] (.slice none 0 0) ∧ (W.heap.size ≤ p ∧ W.heap.size ≤ mA ∧ W.heap.size ≤ mP) ∧ Below W.heap.size W w'
theorem adnew_mk (W w1 : World) (st : TSet) (hb : Below W.heap.size W w1) : AdNew W st (.returned (.tuple #[.pointer (some ⟨w1.heap.size + 1 + 1, 0, none⟩), .int .i64 0])) (((w1.alloc (.map #[] 0)).alloc (.map #[] 0)).alloc (.cells (st.cells w1.heap.size (w1.heap.size + 1) (.slice none 0 0)) 56)) := by
  have h1 := IsMp.made (Value.int .u64) w1
  have h2 := IsMp.made (Value.int .u64) (w1.alloc (.map #[] 0))
  have e1 : (w1.alloc (.map #[] 0)).heap.size = w1.heap.size + 1 := by simp
  have e2 : ((w1.alloc (.map #[] 0)).alloc (.map #[] 0)).heap.size = w1.heap.size + 1 + 1 := by simp
  have hs := hb.size
  rw [e1] at h2
  refine ⟨_, w1.heap.size, w1.heap.size + 1, rfl, ⟨by rw [← e2]; exact heap_alloc_new _ _, (h1.below (below_alloc (Below.refl _ _) _)).below (below_alloc (Below.refl _ _) _), h2.below (below_alloc (Below.refl _ _) _), by omega⟩, ⟨by omega, hs, by omega⟩, below_alloc (below_alloc (below_alloc hb _) _) _⟩
set_option maxHeartbeats 1000000 in
theorem adnew_ok (W : World) (st : TSet) (hok : st.ok) : Calls Try.prog 9 #[st.v] W (AdNew W st) := by
  have hc : decide st.cfg.ok = true := decide_eq_true hok.1
  obtain ⟨-, h1, h2, h3, h4⟩ := hok
  have HM := Lib.hid (fun W => mmay_any st.cfg W)
  rw [hc] at HM
  rw [show st.cfg.v = .agg #[.int .u64 st.seed, .int .i64 st.vocab, .int .i64 st.dim, .int .i64 st.layers, .int .i64 st.top, .int .i64 st.heat] from rfl] at HM
  have H1 := Lib.hid (fun W => adin_in W st.streams 1 64)
  have H2 := Lib.hid (fun W => adin_in W st.each 1 st.streams)
  have H3 := Lib.hid (fun W => adin_in W st.prompt 0 255)
  have H4 := Lib.hid (fun W => adin_in W st.most 0 256)
  rw [decide_eq_true h1.1, decide_eq_true h1.2] at H1
  rw [decide_eq_true h2.1, decide_eq_true h2.2] at H2
  rw [decide_eq_true h3.1, decide_eq_true h3.2] at H3
  rw [decide_eq_true h4.1, decide_eq_true h4.2] at H4
  have HE := Lib.hid (fun (w1 : World) hb => adnew_mk W w1 st hb)
  unfold TSet.cells at HE
  unfold TSet.v
  have hb := below_alloc (Below.refl W.heap.size W) (.cells #[.int .u64 st.seed, .int .i64 st.vocab, .int .i64 st.dim, .int .i64 st.layers, .int .i64 st.top, .int .i64 st.heat, .int .i64 st.streams, .int .i64 st.each, .int .i64 st.prompt, .int .i64 st.most] 32)
  have hk := heap_alloc_new W (.cells #[.int .u64 st.seed, .int .i64 st.vocab, .int .i64 st.dim, .int .i64 st.layers, .int .i64 st.top, .int .i64 st.heat, .int .i64 st.streams, .int .i64 st.each, .int .i64 st.prompt, .int .i64 st.most] 32)
  obtain ⟨W0, hW0⟩ : ∃ W0, W.alloc (.cells #[.int .u64 st.seed, .int .i64 st.vocab, .int .i64 st.dim, .int .i64 st.layers, .int .i64 st.top, .int .i64 st.heat, .int .i64 st.streams, .int .i64 st.each, .int .i64 st.prompt, .int .i64 st.most] 32) = W0 := ⟨_, rfl⟩
  obtain ⟨g, hg⟩ : ∃ g, W.heap.size = g := ⟨_, rfl⟩
  rw [hW0] at hb hk
  rw [hg] at hk
  have HB := Lib.hid hb
  have HK := Lib.hid hk
  have z0 := blk_cell hk 0
  have z1 := blk_cell hk 1
  have z2 := blk_cell hk 2
  have z3 := blk_cell hk 3
  have z4 := blk_cell hk 4
  have z5 := blk_cell hk 5
  have HW := Lib.hid hW0
  have HG := Lib.hid hg
  have hmk := @run_makeMap Try.prog
  clear hb hk hW0 hg h1 h2 h3 h4 hc
  go_enter Try.func9, Try.ntmps9
  go_wp2_with fail
  try rw [HG.out]
  rw [HW.out]
  go_wp2_with fail
  refine (HM.out _).mono ?_
  rintro e w1 ⟨rfl, hb⟩
  have HB1 := Lib.hid (below_then HB.out HB.out.size hb)
  have hk1 := blk_below HK.out hb
  clear hb z0 z1 z2 z3 z4 z5
  have z0 := blk_cell hk1 0
  have z1 := blk_cell hk1 1
  have z2 := blk_cell hk1 2
  have z3 := blk_cell hk1 3
  have z4 := blk_cell hk1 4
  have z5 := blk_cell hk1 5
  have z6 := blk_cell hk1 6
  have z7 := blk_cell hk1 7
  have z8 := blk_cell hk1 8
  have z9 := blk_cell hk1 9
  clear hk1
  go_wp2_with fail
  refine (H1.out _).mono ?_
  rintro e w' ⟨rfl, rfl⟩
  go_wp2_with fail
  refine (H2.out _).mono ?_
  rintro e w' ⟨rfl, rfl⟩
  go_wp2_with fail
  refine (H3.out _).mono ?_
  rintro e w' ⟨rfl, rfl⟩
  go_wp2_with fail
  refine (H4.out _).mono ?_
  rintro e w' ⟨rfl, rfl⟩
  go_wp2_with fail
  go_ret2
  exact HE.out _ HB1.out
end Go.Proofs.Ytmbhicjjbgbneaa
