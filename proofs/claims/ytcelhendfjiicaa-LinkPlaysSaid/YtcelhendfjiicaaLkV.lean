/- A link that nobody made. -/
import Derived.Test.YtcelhendfjiicaaLkU
namespace Go.Proofs.Ytcelhendfjiicaa
open Go.RowKit Go.Shelf Go.Proofs.YtcelhendfjiicaaW.PrintWords Go.Proofs.YtcelhendfjiicaaW.PrintLast Go.Proofs.YtcelhendfjiicaaW.PrintMore
set_option linter.unusedVariables false
set_option linter.unusedSimpArgs false
set_option maxRecDepth 100000
attribute [local go_sem] gb_max2 gb_min2 gb_max_two gb_min_two gb_max_three gb_min_three

/-- nil, or a link that is all zero. -/
def NoLk (W : World) (v : Value) : Prop := v = .pointer none ∨ ∃ b, v = .pointer (some ⟨b, 0, none⟩) ∧ W.cell? ⟨b, 0, none⟩ = some (.int .i64 0)
theorem NoLk.below {W W' : World} {v : Value} (h : NoLk W v) (hb : Below W.heap.size W W') : NoLk W' v := by
  rcases h with h | ⟨b, h, hc⟩
  · exact .inl h
  · exact .inr ⟨b, h, pw_cell_below hb hc⟩
theorem lok_no (W : World) (v : Value) (h : NoLk W v) : Calls Try.prog 42 #[v] W fun e w' => e = .returned (.bool false) ∧ W = w' := by
  rcases h with rfl | ⟨b, rfl, k0⟩
  · go_enter Try.func42, Try.ntmps42
    go_wp2_with fail
    go_ret
    exact ⟨rfl, rfl⟩
  · go_enter Try.func42, Try.ntmps42
    go_wp2_with fail
    go_ret
    exact ⟨rfl, rfl⟩
theorem send_no (W : World) (v : Value) (h : NoLk W v) (A : Option Addr) (n c : Nat) : Calls Try.prog 12 #[v, .slice A n c] W fun e w' => e = .returned (.int .i64 2) ∧ W = w' := by
  have HO := Lib.hid (lok_no W v h)
  clear h
  go_enter Try.func12, Try.ntmps12
  go_wp2_with fail
  refine HO.out.mono ?_
  rintro e w' ⟨rfl, rfl⟩
  go_wp2_with fail
  go_ret
  exact ⟨rfl, rfl⟩
theorem ask_no (W : World) (v : Value) (h : NoLk W v) (i : Int) : Calls Try.prog 45 #[v, .int .i64 i] W fun e w' => e = .returned (.int .i64 2) ∧ W = w' := by
  have HO := Lib.hid (lok_no W v h)
  clear h
  go_enter Try.func45, Try.ntmps45
  go_wp2_with fail
  refine HO.out.mono ?_
  rintro e w' ⟨rfl, rfl⟩
  go_wp2_with fail
  go_ret
  exact ⟨rfl, rfl⟩
theorem drop_no (W : World) (v : Value) (h : NoLk W v) (i : Int) : Calls Try.prog 23 #[v, .int .i64 i] W fun e w' => e = .returned (.int .i64 2) ∧ W = w' := by
  have HO := Lib.hid (ask_no W v h i)
  clear h
  go_enter Try.func23, Try.ntmps23
  go_wp2_with fail
  refine HO.out.mono ?_
  rintro e w' ⟨rfl, rfl⟩
  go_wp2_with fail
  go_ret
  exact ⟨rfl, rfl⟩
theorem twice_no (W : World) (v : Value) (h : NoLk W v) (i : Int) : Calls Try.prog 24 #[v, .int .i64 i] W fun e w' => e = .returned (.int .i64 2) ∧ W = w' := by
  have HO := Lib.hid (ask_no W v h i)
  clear h
  go_enter Try.func24, Try.ntmps24
  go_wp2_with fail
  refine HO.out.mono ?_
  rintro e w' ⟨rfl, rfl⟩
  go_wp2_with fail
  go_ret
  exact ⟨rfl, rfl⟩
theorem later_no (W : World) (v : Value) (h : NoLk W v) (i : Int) : Calls Try.prog 25 #[v, .int .i64 i] W fun e w' => e = .returned (.int .i64 2) ∧ W = w' := by
  have HO := Lib.hid (ask_no W v h i)
  clear h
  go_enter Try.func25, Try.ntmps25
  go_wp2_with fail
  refine HO.out.mono ?_
  rintro e w' ⟨rfl, rfl⟩
  go_wp2_with fail
  go_ret
  exact ⟨rfl, rfl⟩
theorem turn_no (W : World) (v : Value) (h : NoLk W v) (i at_ m : Int) : Calls Try.prog 35 #[v, .int .i64 i, .int .i64 at_, .int .u32 m] W fun e w' => e = .returned (.int .i64 2) ∧ W = w' := by
  have HO := Lib.hid (ask_no W v h i)
  clear h
  go_enter Try.func35, Try.ntmps35
  go_wp2_with fail
  refine HO.out.mono ?_
  rintro e w' ⟨rfl, rfl⟩
  go_wp2_with fail
  go_ret
  exact ⟨rfl, rfl⟩
theorem len_no (W : World) (v : Value) (h : NoLk W v)  : Calls Try.prog 13 #[v] W fun e w' => e = .returned (.int .i64 0) ∧ W = w' := by
  have HO := Lib.hid (lok_no W v h)
  clear h
  go_enter Try.func13, Try.ntmps13
  go_wp2_with fail
  refine HO.out.mono ?_
  rintro e w' ⟨rfl, rfl⟩
  go_wp2_with fail
  go_ret
  exact ⟨rfl, rfl⟩
theorem clear_no (W : World) (v : Value) (h : NoLk W v)  : Calls Try.prog 37 #[v] W fun e w' => e = .returned (.int .i64 0) ∧ W = w' := by
  have HO := Lib.hid (len_no W v h)
  clear h
  go_enter Try.func37, Try.ntmps37
  go_wp2_with fail
  refine HO.out.mono ?_
  rintro e w' ⟨rfl, rfl⟩
  go_wp2_with fail
  go_ret
  exact ⟨rfl, rfl⟩
theorem deliver_no (W : World) (v : Value) (h : NoLk W v) (i : Int) : Calls Try.prog 14 #[v, .int .i64 i] W fun e w' => e = .returned (.tuple #[.slice none 0 0, .int .i64 2]) ∧ W = w' := by
  have heg := enters_of Try.func45 (by kernel_rfl) rfl
  have HO := Lib.hid (ask_no W v h i)
  clear h
  go_enter Try.func14, Try.ntmps14
  go_wp2_with fail
  refine HO.out.mono ?_
  rintro e w' ⟨rfl, rfl⟩
  go_wp2_with fail
  go_ret2
  exact ⟨rfl, rfl⟩
theorem counts_no (W : World) (v : Value) (h : NoLk W v) : Calls Try.prog 39 #[v] W fun e w' => e = .returned (.agg #[.int .u32 0, .int .u32 0, .int .u32 0, .int .u32 0]) ∧ Below W.heap.size W w' := by
  have hb := below_alloc (Below.refl W.heap.size W) (.cells #[.int .u32 0, .int .u32 0, .int .u32 0, .int .u32 0] 77)
  have HO := Lib.hid (lok_no _ v (h.below hb))
  have HB := Lib.hid hb
  clear h hb
  go_enter Try.func39, Try.ntmps39
  go_wp2_with fail
  refine HO.out.mono ?_
  rintro e w' ⟨rfl, hw⟩
  subst hw
  go_wp2_with fail
  refine bodyPost_ret (results_cell_row rfl _ _ W.heap.size 77 #[.int .u32 0, .int .u32 0, .int .u32 0, .int .u32 0] (0, 0) _ rfl (heap_alloc_new _ _) Try.underlying77 rfl (by kernel_rfl)) rfl ?_
  exact ⟨rfl, HB.out⟩

end Go.Proofs.Ytcelhendfjiicaa
