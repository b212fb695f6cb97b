/- A table: New refused, the setting handed over, Over of a stream that is not there, Streams. -/
import Derived.Test.YtmbhicjjbgbneaaAdG
import Derived.Test.YtmbhicjjbgbneaaKyB
namespace Go.Proofs.Ytmbhicjjbgbneaa
open Go.RowKit Go.Shelf Go.Proofs.YtmbhicjjbgbneaaW.PrintWords Go.Proofs.YtmbhicjjbgbneaaW.PrintLast Go.Proofs.YtmbhicjjbgbneaaW.PrintMore
set_option linter.unusedVariables false
set_option linter.unusedSimpArgs false
set_option maxRecDepth 100000
set_option maxHeartbeats 1000000 in
theorem theirs26_any (st : TSet) (W : World) : Calls Try.prog 10 #[st.v] W fun e w' => e = .returned st.v ∧ Below W.heap.size W w' := by
  obtain ⟨c0, c1, c2, c3, c4, c5, c6, c7, c8, c9⟩ := st
  unfold TSet.v
  dsimp only
  obtain ⟨W1, hW1⟩ : ∃ W1, (W.alloc (.cells #[.int .u64 c0, .int .i64 c1, .int .i64 c2, .int .i64 c3, .int .i64 c4, .int .i64 c5, .int .i64 c6, .int .i64 c7, .int .i64 c8, .int .i64 c9] 26)) = W1 := ⟨_, rfl⟩
  obtain ⟨g, hg⟩ : ∃ g, W.heap.size = g := ⟨_, rfl⟩
  have hb1 := below_alloc (Below.refl W.heap.size W) (.cells #[.int .u64 c0, .int .i64 c1, .int .i64 c2, .int .i64 c3, .int .i64 c4, .int .i64 c5, .int .i64 c6, .int .i64 c7, .int .i64 c8, .int .i64 c9] 26)
  have hk1 := heap_alloc_new W (.cells #[.int .u64 c0, .int .i64 c1, .int .i64 c2, .int .i64 c3, .int .i64 c4, .int .i64 c5, .int .i64 c6, .int .i64 c7, .int .i64 c8, .int .i64 c9] 26)
  rw [hW1] at hb1 hk1
  rw [hg] at hk1
  have hs1 : W1.heap.size = g + 1 := by rw [← hW1, ← hg]; simp
  obtain ⟨W2, hW2⟩ : ∃ W2, (W1.alloc (.cells #[.int .u64 0, .int .i64 0, .int .i64 0, .int .i64 0, .int .i64 0, .int .i64 0, .int .i64 0, .int .i64 0, .int .i64 0, .int .i64 0] 32)) = W2 := ⟨_, rfl⟩
  have hb2 := below_alloc hb1 (.cells #[.int .u64 0, .int .i64 0, .int .i64 0, .int .i64 0, .int .i64 0, .int .i64 0, .int .i64 0, .int .i64 0, .int .i64 0, .int .i64 0] 32)
  have hk2 := heap_alloc_new W1 (.cells #[.int .u64 0, .int .i64 0, .int .i64 0, .int .i64 0, .int .i64 0, .int .i64 0, .int .i64 0, .int .i64 0, .int .i64 0, .int .i64 0] 32)
  have hk12 := blk_below hk1 (below_alloc (Below.refl W1.heap.size W1) (.cells #[.int .u64 0, .int .i64 0, .int .i64 0, .int .i64 0, .int .i64 0, .int .i64 0, .int .i64 0, .int .i64 0, .int .i64 0, .int .i64 0] 32))
  rw [hW2] at hb2 hk2 hk12
  rw [hs1] at hk2
  have z0 := blk_cell hk12 0
  have z1 := blk_cell hk12 1
  have z2 := blk_cell hk12 2
  have z3 := blk_cell hk12 3
  have z4 := blk_cell hk12 4
  have z5 := blk_cell hk12 5
  have z6 := blk_cell hk12 6
  have z7 := blk_cell hk12 7
  have z8 := blk_cell hk12 8
  have z9 := blk_cell hk12 9
  have y0 := blk_cell hk2 0
  have y1 := blk_cell hk2 1
  have y2 := blk_cell hk2 2
  have y3 := blk_cell hk2 3
  have y4 := blk_cell hk2 4
  have y5 := blk_cell hk2 5
  have y6 := blk_cell hk2 6
  have y7 := blk_cell hk2 7
  have y8 := blk_cell hk2 8
  have y9 := blk_cell hk2 9
  have f0 := blk_frozen hk2 0
  have f1 := blk_frozen hk2 1
  have f2 := blk_frozen hk2 2
  have f3 := blk_frozen hk2 3
  have f4 := blk_frozen hk2 4
  have f5 := blk_frozen hk2 5
  have f6 := blk_frozen hk2 6
  have f7 := blk_frozen hk2 7
  have f8 := blk_frozen hk2 8
  have f9 := blk_frozen hk2 9
  have HB := Lib.hid hb2
  have HGE := Lib.hid (show W.heap.size ≤ g + 1 by omega)
  have HH := Lib.hid hk2
  clear hb1 hb2 hk1 hk2 hk12
  go_enter Try.func10, Try.ntmps10
  go_wp2_with fail
  clear hW1 hW2 hg hs1
  clear z0 z1 z2 z3 z4 z5 z6 z7 z8 z9 y0 y1 y2 y3 y4 y5 y6 y7 y8 y9 f0 f1 f2 f3 f4 f5 f6 f7 f8 f9
  have e0 : (W2.setCell ⟨g + 1, 0, none⟩ (.int .u64 c0)).heap[g + 1]? = some (.cells #[.int .u64 c0, .int .i64 0, .int .i64 0, .int .i64 0, .int .i64 0, .int .i64 0, .int .i64 0, .int .i64 0, .int .i64 0, .int .i64 0] 32 (0, 0)) := blk_set HH.out 0 _
  have e1 : ((W2.setCell ⟨g + 1, 0, none⟩ (.int .u64 c0)).setCell ⟨g + 1, 1, none⟩ (.int .i64 c1)).heap[g + 1]? = some (.cells #[.int .u64 c0, .int .i64 c1, .int .i64 0, .int .i64 0, .int .i64 0, .int .i64 0, .int .i64 0, .int .i64 0, .int .i64 0, .int .i64 0] 32 (0, 0)) := blk_set e0 1 _
  have e2 : (((W2.setCell ⟨g + 1, 0, none⟩ (.int .u64 c0)).setCell ⟨g + 1, 1, none⟩ (.int .i64 c1)).setCell ⟨g + 1, 2, none⟩ (.int .i64 c2)).heap[g + 1]? = some (.cells #[.int .u64 c0, .int .i64 c1, .int .i64 c2, .int .i64 0, .int .i64 0, .int .i64 0, .int .i64 0, .int .i64 0, .int .i64 0, .int .i64 0] 32 (0, 0)) := blk_set e1 2 _
  have e3 : ((((W2.setCell ⟨g + 1, 0, none⟩ (.int .u64 c0)).setCell ⟨g + 1, 1, none⟩ (.int .i64 c1)).setCell ⟨g + 1, 2, none⟩ (.int .i64 c2)).setCell ⟨g + 1, 3, none⟩ (.int .i64 c3)).heap[g + 1]? = some (.cells #[.int .u64 c0, .int .i64 c1, .int .i64 c2, .int .i64 c3, .int .i64 0, .int .i64 0, .int .i64 0, .int .i64 0, .int .i64 0, .int .i64 0] 32 (0, 0)) := blk_set e2 3 _
  have e4 : (((((W2.setCell ⟨g + 1, 0, none⟩ (.int .u64 c0)).setCell ⟨g + 1, 1, none⟩ (.int .i64 c1)).setCell ⟨g + 1, 2, none⟩ (.int .i64 c2)).setCell ⟨g + 1, 3, none⟩ (.int .i64 c3)).setCell ⟨g + 1, 4, none⟩ (.int .i64 c4)).heap[g + 1]? = some (.cells #[.int .u64 c0, .int .i64 c1, .int .i64 c2, .int .i64 c3, .int .i64 c4, .int .i64 0, .int .i64 0, .int .i64 0, .int .i64 0, .int .i64 0] 32 (0, 0)) := blk_set e3 4 _
  have e5 : ((((((W2.setCell ⟨g + 1, 0, none⟩ (.int .u64 c0)).setCell ⟨g + 1, 1, none⟩ (.int .i64 c1)).setCell ⟨g + 1, 2, none⟩ (.int .i64 c2)).setCell ⟨g + 1, 3, none⟩ (.int .i64 c3)).setCell ⟨g + 1, 4, none⟩ (.int .i64 c4)).setCell ⟨g + 1, 5, none⟩ (.int .i64 c5)).heap[g + 1]? = some (.cells #[.int .u64 c0, .int .i64 c1, .int .i64 c2, .int .i64 c3, .int .i64 c4, .int .i64 c5, .int .i64 0, .int .i64 0, .int .i64 0, .int .i64 0] 32 (0, 0)) := blk_set e4 5 _
  have e6 : (((((((W2.setCell ⟨g + 1, 0, none⟩ (.int .u64 c0)).setCell ⟨g + 1, 1, none⟩ (.int .i64 c1)).setCell ⟨g + 1, 2, none⟩ (.int .i64 c2)).setCell ⟨g + 1, 3, none⟩ (.int .i64 c3)).setCell ⟨g + 1, 4, none⟩ (.int .i64 c4)).setCell ⟨g + 1, 5, none⟩ (.int .i64 c5)).setCell ⟨g + 1, 6, none⟩ (.int .i64 c6)).heap[g + 1]? = some (.cells #[.int .u64 c0, .int .i64 c1, .int .i64 c2, .int .i64 c3, .int .i64 c4, .int .i64 c5, .int .i64 c6, .int .i64 0, .int .i64 0, .int .i64 0] 32 (0, 0)) := blk_set e5 6 _
  have e7 : ((((((((W2.setCell ⟨g + 1, 0, none⟩ (.int .u64 c0)).setCell ⟨g + 1, 1, none⟩ (.int .i64 c1)).setCell ⟨g + 1, 2, none⟩ (.int .i64 c2)).setCell ⟨g + 1, 3, none⟩ (.int .i64 c3)).setCell ⟨g + 1, 4, none⟩ (.int .i64 c4)).setCell ⟨g + 1, 5, none⟩ (.int .i64 c5)).setCell ⟨g + 1, 6, none⟩ (.int .i64 c6)).setCell ⟨g + 1, 7, none⟩ (.int .i64 c7)).heap[g + 1]? = some (.cells #[.int .u64 c0, .int .i64 c1, .int .i64 c2, .int .i64 c3, .int .i64 c4, .int .i64 c5, .int .i64 c6, .int .i64 c7, .int .i64 0, .int .i64 0] 32 (0, 0)) := blk_set e6 7 _
  have e8 : (((((((((W2.setCell ⟨g + 1, 0, none⟩ (.int .u64 c0)).setCell ⟨g + 1, 1, none⟩ (.int .i64 c1)).setCell ⟨g + 1, 2, none⟩ (.int .i64 c2)).setCell ⟨g + 1, 3, none⟩ (.int .i64 c3)).setCell ⟨g + 1, 4, none⟩ (.int .i64 c4)).setCell ⟨g + 1, 5, none⟩ (.int .i64 c5)).setCell ⟨g + 1, 6, none⟩ (.int .i64 c6)).setCell ⟨g + 1, 7, none⟩ (.int .i64 c7)).setCell ⟨g + 1, 8, none⟩ (.int .i64 c8)).heap[g + 1]? = some (.cells #[.int .u64 c0, .int .i64 c1, .int .i64 c2, .int .i64 c3, .int .i64 c4, .int .i64 c5, .int .i64 c6, .int .i64 c7, .int .i64 c8, .int .i64 0] 32 (0, 0)) := blk_set e7 8 _
  have e9 : ((((((((((W2.setCell ⟨g + 1, 0, none⟩ (.int .u64 c0)).setCell ⟨g + 1, 1, none⟩ (.int .i64 c1)).setCell ⟨g + 1, 2, none⟩ (.int .i64 c2)).setCell ⟨g + 1, 3, none⟩ (.int .i64 c3)).setCell ⟨g + 1, 4, none⟩ (.int .i64 c4)).setCell ⟨g + 1, 5, none⟩ (.int .i64 c5)).setCell ⟨g + 1, 6, none⟩ (.int .i64 c6)).setCell ⟨g + 1, 7, none⟩ (.int .i64 c7)).setCell ⟨g + 1, 8, none⟩ (.int .i64 c8)).setCell ⟨g + 1, 9, none⟩ (.int .i64 c9)).heap[g + 1]? = some (.cells #[.int .u64 c0, .int .i64 c1, .int .i64 c2, .int .i64 c3, .int .i64 c4, .int .i64 c5, .int .i64 c6, .int .i64 c7, .int .i64 c8, .int .i64 c9] 32 (0, 0)) := blk_set e8 9 _
  refine bodyPost_ret (results_cell_row rfl _ _ (g + 1) 32 #[.int .u64 c0, .int .i64 c1, .int .i64 c2, .int .i64 c3, .int .i64 c4, .int .i64 c5, .int .i64 c6, .int .i64 c7, .int .i64 c8, .int .i64 c9] (0, 0) _ rfl e9 Try.underlying32 rfl (by kernel_rfl)) rfl ?_
  clear e0 e1 e2 e3 e4 e5 e6 e7 e8 e9
  exact ⟨rfl, ((((((((((HB.out.setCell (p := ⟨g + 1, 0, none⟩) HGE.out _).setCell (p := ⟨g + 1, 1, none⟩) HGE.out _).setCell (p := ⟨g + 1, 2, none⟩) HGE.out _).setCell (p := ⟨g + 1, 3, none⟩) HGE.out _).setCell (p := ⟨g + 1, 4, none⟩) HGE.out _).setCell (p := ⟨g + 1, 5, none⟩) HGE.out _).setCell (p := ⟨g + 1, 6, none⟩) HGE.out _).setCell (p := ⟨g + 1, 7, none⟩) HGE.out _).setCell (p := ⟨g + 1, 8, none⟩) HGE.out _).setCell (p := ⟨g + 1, 9, none⟩) HGE.out _)⟩
set_option maxHeartbeats 1000000 in
theorem adnew_bad (W : World) (st : TSet) (hok : ¬ st.ok) : Calls Try.prog 9 #[st.v] W fun e w' => e = .returned (.tuple #[.pointer none, .int .i64 1]) ∧ Below W.heap.size W w' := by
  have HM := Lib.hid (fun W => mmay_any st.cfg W)
  rw [show st.cfg.v = .agg #[.int .u64 st.seed, .int .i64 st.vocab, .int .i64 st.dim, .int .i64 st.layers, .int .i64 st.top, .int .i64 st.heat] from rfl] at HM
  have H1 := Lib.hid (fun W => adin_in W st.streams 1 64)
  have H2 := Lib.hid (fun W => adin_in W st.each 1 st.streams)
  have H3 := Lib.hid (fun W => adin_in W st.prompt 0 255)
  have H4 := Lib.hid (fun W => adin_in W st.most 0 256)
  have hall : (decide st.cfg.ok && ((decide (1 ≤ st.streams) && decide (st.streams ≤ 64)) && ((decide (1 ≤ st.each) && decide (st.each ≤ st.streams)) && ((decide (0 ≤ st.prompt) && decide (st.prompt ≤ 255)) && (decide (0 ≤ st.most) && decide (st.most ≤ 256)))))) = false := by
    rw [Bool.eq_false_iff]
    intro h
    apply hok
    simp only [Bool.and_eq_true, decide_eq_true_eq] at h
    exact h
  obtain ⟨b0, hb0⟩ : ∃ b, decide st.cfg.ok = b := ⟨_, rfl⟩
  obtain ⟨b1, hb1⟩ : ∃ b, (decide (1 ≤ st.streams) && decide (st.streams ≤ 64)) = b := ⟨_, rfl⟩
  obtain ⟨b2, hb2⟩ : ∃ b, (decide (1 ≤ st.each) && decide (st.each ≤ st.streams)) = b := ⟨_, rfl⟩
  obtain ⟨b3, hb3⟩ : ∃ b, (decide (0 ≤ st.prompt) && decide (st.prompt ≤ 255)) = b := ⟨_, rfl⟩
  obtain ⟨b4, hb4⟩ : ∃ b, (decide (0 ≤ st.most) && decide (st.most ≤ 256)) = b := ⟨_, rfl⟩
  rw [hb0, hb1, hb2, hb3, hb4] at hall
  rw [hb0] at HM
  rw [hb1] at H1
  rw [hb2] at H2
  rw [hb3] at H3
  rw [hb4] at H4
  have HALL := Lib.hid hall
  unfold TSet.v
  have hb := below_alloc (Below.refl W.heap.size W) (.cells #[.int .u64 st.seed, .int .i64 st.vocab, .int .i64 st.dim, .int .i64 st.layers, .int .i64 st.top, .int .i64 st.heat, .int .i64 st.streams, .int .i64 st.each, .int .i64 st.prompt, .int .i64 st.most] 32)
  have hk := heap_alloc_new W (.cells #[.int .u64 st.seed, .int .i64 st.vocab, .int .i64 st.dim, .int .i64 st.layers, .int .i64 st.top, .int .i64 st.heat, .int .i64 st.streams, .int .i64 st.each, .int .i64 st.prompt, .int .i64 st.most] 32)
  obtain ⟨W0, hW0⟩ : ∃ W0, W.alloc (.cells #[.int .u64 st.seed, .int .i64 st.vocab, .int .i64 st.dim, .int .i64 st.layers, .int .i64 st.top, .int .i64 st.heat, .int .i64 st.streams, .int .i64 st.each, .int .i64 st.prompt, .int .i64 st.most] 32) = W0 := ⟨_, rfl⟩
  obtain ⟨g, hg⟩ : ∃ g, W.heap.size = g := ⟨_, rfl⟩
  rw [hW0] at hb hk
  rw [hg] at hk
  have HB := Lib.hid hb
  have HK := Lib.hid hk
  have z0 := blk_cell hk 0
  have z1 := blk_cell hk 1
  have z2 := blk_cell hk 2
  have z3 := blk_cell hk 3
  have z4 := blk_cell hk 4
  have z5 := blk_cell hk 5
  have HW := Lib.hid hW0
  have HG := Lib.hid hg
  clear hb hk hW0 hg hall hok hb0 hb1 hb2 hb3 hb4
  go_enter Try.func9, Try.ntmps9
  go_wp2_with fail
  try rw [HG.out]
  rw [HW.out]
  go_wp2_with fail
  refine (HM.out _).mono ?_
  rintro e w1 ⟨rfl, hb⟩
  have HB1 := Lib.hid (below_then HB.out HB.out.size hb)
  have hk1 := blk_below HK.out hb
  clear hb z0 z1 z2 z3 z4 z5
  have z6 := blk_cell hk1 6
  have z7 := blk_cell hk1 7
  have z8 := blk_cell hk1 8
  have z9 := blk_cell hk1 9
  clear hk1
  cases b0 with
  | false =>
    go_wp2_with fail
    go_ret2
    exact ⟨rfl, by first | exact HB1.out | (rw [← HG.out]; exact HB1.out)⟩
  | true =>
    go_wp2_with fail
    refine (H1.out _).mono ?_
    rintro e w' ⟨rfl, rfl⟩
    cases b1 with
    | false =>
      go_wp2_with fail
      go_ret2
      exact ⟨rfl, by first | exact HB1.out | (rw [← HG.out]; exact HB1.out)⟩
    | true =>
      go_wp2_with fail
      refine (H2.out _).mono ?_
      rintro e w' ⟨rfl, rfl⟩
      cases b2 with
      | false =>
        go_wp2_with fail
        go_ret2
        exact ⟨rfl, by first | exact HB1.out | (rw [← HG.out]; exact HB1.out)⟩
      | true =>
        go_wp2_with fail
        refine (H3.out _).mono ?_
        rintro e w' ⟨rfl, rfl⟩
        cases b3 with
        | false =>
          go_wp2_with fail
          go_ret2
          exact ⟨rfl, by first | exact HB1.out | (rw [← HG.out]; exact HB1.out)⟩
        | true =>
          have h4 : b4 = false := by simpa using HALL.out
          subst h4
          go_wp2_with fail
          refine (H4.out _).mono ?_
          rintro e w' ⟨rfl, rfl⟩
          go_wp2_with fail
          go_ret2
          exact ⟨rfl, by first | exact HB1.out | (rw [← HG.out]; exact HB1.out)⟩
section
variable {W : World} {p mA mP : Nat} {st : TSet} {all : List (Int × Int)} {past : List Int} {lv : Value}
theorem adover_none (h : Tt W p mA mP st all past lv) (s : Int) (hs : mlook all s = none) : Calls Try.prog 17 #[.pointer (some ⟨p, 0, none⟩), .int .u64 s] W fun e w' => e = .returned (.int .i64 6) ∧ W = w' := by
  have HO := Lib.hid (adok_in h)
  have k0 := h.cA
  have hlk := run_mlook (P := Try.prog) Try.underlying54 (key_int Try.underlying22) (zu64 W) h.all_ s true
  rw [encA_look, hs] at hlk
  have hlk' : (Instr.lookup 54 (.map (some mA)) (.int .u64 s) true).run Try.prog W = .ok (.tuple #[.int .u64 0, .bool false]) W := hlk
  clear h hlk hs
  go_enter Try.func17, Try.ntmps17
  go_wp2_with fail
  refine HO.out.mono ?_
  rintro e w' ⟨rfl, rfl⟩
  go_wp2_with fail
  go_ret
  exact ⟨rfl, rfl⟩
theorem adstreams_in (h : Tt W p mA mP st all past lv) (hl : all.length ≤ 255) : Calls Try.prog 21 #[.pointer (some ⟨p, 0, none⟩)] W (SrtK W (mkeys all)) := by
  have HO := Lib.hid (adok_in h)
  have k0 := h.cA
  have hmp := h.all_
  obtain ⟨W1, hW1⟩ : ∃ W1, W.alloc (.cells #[.map (some mA)] 54) = W1 := ⟨_, rfl⟩
  obtain ⟨g, hg⟩ : ∃ g, W.heap.size = g := ⟨_, rfl⟩
  have hb1 := below_alloc (Below.refl W.heap.size W) (.cells #[.map (some mA)] 54)
  have hk1 := heap_alloc_new W (.cells #[.map (some mA)] 54)
  rw [hW1] at hb1 hk1
  rw [hg] at hk1
  have HS := Lib.hid (mksorted_any g mA (encA all) W1 (blk_lt hk1) (blk_cell hk1 0) (hmp.below hb1) (by rw [encA_len]; exact hl))
  rw [show (encA all).map Prod.fst = mkeys all by unfold encA mkeys; rw [List.map_map]; rfl] at HS
  obtain ⟨ks, hks⟩ : ∃ ks, mkeys all = ks := ⟨_, rfl⟩
  rw [hks] at HS ⊢
  have HK := Lib.hid (mkeys_any W (some mA))
  have HB := Lib.hid hb1
  have HW := Lib.hid hW1
  have HG := Lib.hid hg
  rw [hg, hW1] at HK
  unfold SrtK
  clear h hmp hb1 hk1 hl hks hW1 hg
  go_enter Try.func21, Try.ntmps21
  go_wp2_with fail
  refine HO.out.mono ?_
  rintro e w' ⟨rfl, rfl⟩
  go_wp2_with fail
  refine HK.out.mono ?_
  rintro e w' ⟨rfl, rfl⟩
  go_wp2_with fail
  refine HS.out.mono ?_
  rintro e w2 ⟨ys, v, rfl, h1, h2, h3, h4⟩
  have HH := Lib.hid (And.intro h1 (And.intro h2 (And.intro h3 h4)))
  clear h1 h2 h3 h4
  go_wp2_with fail
  go_ret
  obtain ⟨h1, h2, h3, h4⟩ := HH.out
  exact ⟨ys, v, rfl, h1, h2, own_less h3 HB.out.size, below_then HB.out HB.out.size h4⟩
end
end Go.Proofs.Ytmbhicjjbgbneaa
