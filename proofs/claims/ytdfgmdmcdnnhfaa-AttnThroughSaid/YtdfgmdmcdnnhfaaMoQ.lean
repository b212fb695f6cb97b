/- (*Model).ok, Config, row, Token, Place, Rows. -/
import Derived.Test.YtdfgmdmcdnnhfaaMoM
namespace Go.Proofs.Ytdfgmdmcdnnhfaa
open Go.RowKit Go.Shelf Go.Proofs.YtdfgmdmcdnnhfaaW.PrintWords Go.Proofs.YtdfgmdmcdnnhfaaW.PrintLast Go.Proofs.YtdfgmdmcdnnhfaaW.PrintMore
set_option linter.unusedVariables false
set_option linter.unusedSimpArgs false
set_option maxRecDepth 100000
attribute [local go_sem] gb_max2 gb_min2 gb_max_two gb_min_two gb_max_three gb_min_three

theorem mok_any (W : World) (p : Nat) (c : Cfg) (h : Mo W p c) :
    Calls Try.prog 94 #[.pointer (some ⟨p, 0, none⟩)] W fun e w' => e = .returned (.bool true) ∧ W = w' := by
  obtain ⟨-, -, -, -, -, -, A, k, m6, -, -⟩ := h.at_
  obtain ⟨n, hn⟩ : ∃ n, (mtables c).length = n := ⟨_, rfl⟩
  have hn0 : 0 < n := by rw [← hn, mtables_len]; omega
  rw [hn] at m6
  clear h hn
  go_enter Try.func94, Try.ntmps94
  go_wp2_with fail
  go_ret
  exact ⟨rfl, rfl⟩
theorem mok_nil (W : World) :
    Calls Try.prog 94 #[.pointer none] W fun e w' => e = .returned (.bool false) ∧ W = w' := by
  go_enter Try.func94, Try.ntmps94
  go_wp2_with fail
  go_ret
  exact ⟨rfl, rfl⟩

theorem config_any (W : World) (p : Nat) (c : Cfg) (h : Mo W p c) :
    Calls Try.prog 47 #[.pointer (some ⟨p, 0, none⟩)] W fun e w' => e = .returned c.v ∧ Below W.heap.size W w' := by
  have HMo := Lib.hid (h.below ((Below.refl _ W).alloc (Nat.le_refl _) (.cells #[.int .u64 0, .int .i64 0, .int .i64 0, .int .i64 0, .int .i64 0, .int .i64 0] 24)))
  have HV := Lib.hid (show c.v = .agg #[.int .u64 c.seed, .int .i64 c.vocab, .int .i64 c.dim, .int .i64 c.layers, .int .i64 c.top, .int .i64 c.heat] from rfl)
  rw [HV.out]
  obtain ⟨W0, hW0⟩ : ∃ W0, W.alloc (.cells #[.int .u64 0, .int .i64 0, .int .i64 0, .int .i64 0, .int .i64 0, .int .i64 0] 24) = W0 := ⟨_, rfl⟩
  obtain ⟨g, hg⟩ : ∃ g, W.heap.size = g := ⟨_, rfl⟩
  have HB0 := Lib.hid (show Below W.heap.size W W0 by rw [← hW0]; exact below_alloc (Below.refl _ W) _)
  have hh : W0.heap[g]? = some (.cells #[.int .u64 0, .int .i64 0, .int .i64 0, .int .i64 0, .int .i64 0, .int .i64 0] 24 (0, 0)) := by rw [← hW0, ← hg]; exact heap_alloc_new _ _
  have hge : W.heap.size ≤ g := by omega
  rw [hW0] at HMo
  have HW0 := Lib.hid hW0
  have HG := Lib.hid hg
  have z0 : W0.cell? ⟨g, 0, none⟩ = some (.int .u64 0) := by rw [blk_cell hh]; rfl
  have z1 : W0.cell? ⟨g, 1, none⟩ = some (.int .i64 0) := by rw [blk_cell hh]; rfl
  have z2 : W0.cell? ⟨g, 2, none⟩ = some (.int .i64 0) := by rw [blk_cell hh]; rfl
  have z3 : W0.cell? ⟨g, 3, none⟩ = some (.int .i64 0) := by rw [blk_cell hh]; rfl
  have z4 : W0.cell? ⟨g, 4, none⟩ = some (.int .i64 0) := by rw [blk_cell hh]; rfl
  have z5 : W0.cell? ⟨g, 5, none⟩ = some (.int .i64 0) := by rw [blk_cell hh]; rfl
  have f0 := blk_frozen hh 0
  have f1 := blk_frozen hh 1
  have f2 := blk_frozen hh 2
  have f3 := blk_frozen hh 3
  have f4 := blk_frozen hh 4
  have f5 := blk_frozen hh 5
  have HH := Lib.hid hh
  clear h hW0 hg hh
  go_enter Try.func47, Try.ntmps47
  go_wp2_with fail
  rw [HW0.out, HG.out]
  refine (mok_any _ p c HMo.out).mono ?_
  rintro e w' ⟨rfl, rfl⟩
  obtain ⟨m0, m1, m2, m3, m4, m5, -⟩ := HMo.out.at_
  go_wp2_with fail
  refine bodyPost_ret (results_cell_row rfl _ _ g 24 #[.int .u64 c.seed, .int .i64 c.vocab, .int .i64 c.dim, .int .i64 c.layers, .int .i64 c.top, .int .i64 c.heat] (0, 0) _ rfl (blk_set (blk_set (blk_set (blk_set (blk_set (blk_set HH.out 0 _) 1 _) 2 _) 3 _) 4 _) 5 _) Try.underlying24 rfl (by kernel_rfl)) rfl ?_
  exact ⟨rfl, (((((HB0.out.setCell (p := ⟨g, 0, none⟩) hge _).setCell (p := ⟨g, 1, none⟩) hge _).setCell (p := ⟨g, 2, none⟩) hge _).setCell (p := ⟨g, 3, none⟩) hge _).setCell (p := ⟨g, 4, none⟩) hge _).setCell (p := ⟨g, 5, none⟩) hge _⟩

end Go.Proofs.Ytdfgmdmcdnnhfaa
