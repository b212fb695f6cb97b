/- Ref without a model. -/
import Derived.Test.YtdfgmdmcdnnhfaaGreatDzD
import Derived.Test.YtdfgmdmcdnnhfaaGreatDzB
namespace Go.Proofs.YtdfgmdmcdnnhfaaGreat
open Go.RowKit Go.Shelf Go.Proofs.YtdfgmdmcdnnhfaaGreatW.PrintWords Go.Proofs.YtdfgmdmcdnnhfaaGreatW.PrintLast Go.Proofs.YtdfgmdmcdnnhfaaGreatW.PrintMore
set_option linter.unusedVariables false
set_option linter.unusedSimpArgs false
set_option maxRecDepth 100000
attribute [local go_sem] gb_max2 gb_min2 gb_max_two gb_min_two gb_max_three gb_min_three run_cfg1 run_cfg2 run_cfg3
theorem dnew_none (W : World) : Calls Tryz.prog 13 #[.pointer none] W fun e w' => e = .returned (.tuple #[.pointer none, .int .i64 2]) ∧ Below W.heap.size W w' := by
  go_enter Tryz.func13, Tryz.ntmps13
  go_wp2_with fail
  refine (config_nil _).mono ?_
  rintro e w1 ⟨rfl, hb⟩
  have HB := Lib.hid hb
  clear hb
  go_wp2_with fail
  go_ret2
  exact ⟨rfl, HB.out⟩
theorem dstart_none (W : World) (sd most : Int) (A B : Option Addr) (n ca m cb : Nat) : Calls Tryz.prog 22 #[.pointer none, .agg #[.int .u64 sd, .slice A n ca, .int .i64 most], .slice B m cb] W fun e w' => e = .returned (.tuple #[.pointer none, .int .i64 2]) ∧ Below W.heap.size W w' := by
  have HB0 := Lib.hid (below_alloc (Below.refl W.heap.size W) (.cells #[.int .u64 sd, .slice A n ca, .int .i64 most] 27))
  go_enter Tryz.func22, Tryz.ntmps22
  go_wp2_with fail
  refine (dnew_none _).mono ?_
  rintro e w1 ⟨rfl, hb⟩
  have HB := Lib.hid (below_then HB0.out HB0.out.size hb)
  clear hb
  go_wp2_with fail
  go_ret2
  exact ⟨rfl, HB.out⟩
theorem dref_none (W : World) (sd most : Int) (A : Option Addr) (n ca : Nat) : Calls Tryz.prog 7 #[.pointer none, .agg #[.int .u64 sd, .slice A n ca, .int .i64 most]] W fun e w' => e = .returned (.tuple #[.slice none 0 0, .int .i64 2]) ∧ Below W.heap.size W w' := by
  obtain ⟨W0, hW0⟩ : ∃ W0, W.alloc (.cells #[.int .u64 sd, .slice A n ca, .int .i64 most] 27) = W0 := ⟨_, rfl⟩
  have HB0 := Lib.hid (show Below W.heap.size W W0 by rw [← hW0]; exact below_alloc (Below.refl _ W) _)
  have hk := heap_alloc_new W (.cells #[.int .u64 sd, .slice A n ca, .int .i64 most] 27)
  rw [hW0] at hk
  have HK := Lib.hid hk
  have HW := Lib.hid hW0
  clear hk hW0
  have y0 := blk_cell HK.out 0
  have y1 := blk_cell HK.out 1
  have y2 := blk_cell HK.out 2
  go_enter Tryz.func7, Tryz.ntmps7
  go_wp2_with fail
  rw [HW.out]
  go_wp2_with fail
  refine (dstart_none _ sd most A none n ca 0 0).mono ?_
  rintro e w1 ⟨rfl, hb⟩
  have HB := Lib.hid (below_then HB0.out HB0.out.size hb)
  clear hb
  go_wp2_with fail
  go_ret2
  exact ⟨rfl, HB.out⟩
end Go.Proofs.YtdfgmdmcdnnhfaaGreat
