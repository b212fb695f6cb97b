/- A list of replicas that nobody made. -/
import Derived.Test.YtmbhicjjbgbneaaMpU
import Derived.Test.YtmbhicjjbgbneaaWMore
import Derived.Test.YtmbhicjjbgbneaaProg
import Derived.KernelRfl
import Derived.Tactics
import Derived.OwnWalk
import Derived.BigQuiet
import Derived.Deep.QuietTactic
import Derived.Deep.RegionLaw
import Derived.Lib.SliceRun
import Derived.Outline
import Derived.Shelf.Abstract
import Derived.WalkSpells
namespace Go.Proofs.Ytmbhicjjbgbneaa
open Go.RowKit Go.Shelf Go.Proofs.YtmbhicjjbgbneaaW.PrintWords Go.Proofs.YtmbhicjjbgbneaaW.PrintLast Go.Proofs.YtmbhicjjbgbneaaW.PrintMore
set_option linter.unusedVariables false
set_option linter.unusedSimpArgs false
set_option maxRecDepth 100000

theorem results_cell_tmp {P : Program} {fn : Func} {p u : Tmp} {ty : TypeId} (h : fn.results = #[.cell p ty, .tmp u]) (tmps : Array Value) (w : World) (g : Nat) (t : TypeId) (cs : Array Value) (fr : Nat × Nat) (d : TypeDesc)
    (hp : tmps.getD p undef = .pointer (some ⟨g, 0, none⟩)) (hg : w.heap[g]? = some (.cells cs t fr))
    (hu : P.underlying ty = some d) (hd : (match d with | .struct _ | .array _ _ => true | _ => false) = true) (hi : (P.info? ty).map (·.size) = some cs.size) :
    (results fn tmps).run P w = .ok (.tuple #[.agg cs, tmps.getD u undef]) w := by
  have hp' : tmps[p]?.getD undef = .pointer (some ⟨g, 0, none⟩) := by simpa using hp
  simp [results, h, hp', asAddr, run_loadVar_row w g t ty cs fr d hg hu hd hi]
/-- nil, or a list that is all zero. -/
def NoM (W : World) (v : Value) : Prop := v = .pointer none ∨ ∃ b, v = .pointer (some ⟨b, 0, none⟩) ∧ W.cell? ⟨b, 2, none⟩ = some (.map none)
theorem NoM.below {W W' : World} {v : Value} (h : NoM W v) (hb : Below W.heap.size W W') : NoM W' v := by
  rcases h with h | ⟨b, h, hc⟩
  · exact .inl h
  · exact .inr ⟨b, h, pw_cell_below hb hc⟩
theorem mbok_no (W : World) (v : Value) (h : NoM W v) : Calls Try.prog 58 #[v] W fun e w' => e = .returned (.bool false) ∧ W = w' := by
  rcases h with rfl | ⟨b, rfl, k0⟩
  · go_enter Try.func58, Try.ntmps58
    go_wp2_with fail
    go_ret
    exact ⟨rfl, rfl⟩
  · have hm := run_neq_map_nil (P := Try.prog) W 93 22 112 none Try.underlying93
    go_enter Try.func58, Try.ntmps58
    go_wp2_with fail
    go_ret
    exact ⟨rfl, rfl⟩
theorem mbfind_no (W : World) (v : Value) (h : NoM W v) (t : Int) (n : Int) : Calls Try.prog 65 #[v, .int .i64 t, .int .u64 n] W fun e w' => e = .returned (.tuple #[.pointer none, .int .i64 2]) ∧ W = w' := by
  have HO := Lib.hid (mbok_no W v h )
  clear h
  go_enter Try.func65, Try.ntmps65
  go_wp2_with fail
  refine HO.out.mono ?_
  rintro e w' ⟨rfl, rfl⟩
  go_wp2_with fail
  go_ret2
  exact ⟨rfl, rfl⟩
theorem mbadd_no (W : World) (v : Value) (h : NoM W v) (t : Int) : Calls Try.prog 29 #[v, .int .i64 t] W fun e w' => e = .returned (.tuple #[.int .u64 0, .int .i64 2]) ∧ W = w' := by
  have HO := Lib.hid (mbok_no W v h )
  clear h
  go_enter Try.func29, Try.ntmps29
  go_wp2_with fail
  refine HO.out.mono ?_
  rintro e w' ⟨rfl, rfl⟩
  go_wp2_with fail
  go_ret2
  exact ⟨rfl, rfl⟩
theorem mbup_no (W : World) (v : Value) (h : NoM W v) (t : Int) (n : Int) (i : Int) : Calls Try.prog 34 #[v, .int .i64 t, .int .u64 n, .int .u64 i] W fun e w' => e = .returned (.tuple #[.bool false, .int .i64 2]) ∧ W = w' := by
  have HO := Lib.hid (mbfind_no W v h t n)
  clear h
  go_enter Try.func34, Try.ntmps34
  go_wp2_with fail
  refine HO.out.mono ?_
  rintro e w' ⟨rfl, rfl⟩
  go_wp2_with fail
  go_ret2
  exact ⟨rfl, rfl⟩
theorem mbleave_no (W : World) (v : Value) (h : NoM W v) (t : Int) (n : Int) (x : Int) : Calls Try.prog 64 #[v, .int .i64 t, .int .u64 n, .int .i64 x] W fun e w' => e = .returned (.int .i64 2) ∧ W = w' := by
  have HO := Lib.hid (mbfind_no W v h t n)
  clear h
  go_enter Try.func64, Try.ntmps64
  go_wp2_with fail
  refine HO.out.mono ?_
  rintro e w' ⟨rfl, rfl⟩
  go_wp2_with fail
  go_ret
  exact ⟨rfl, rfl⟩
theorem mblost_no (W : World) (v : Value) (h : NoM W v) (t : Int) (n : Int) : Calls Try.prog 30 #[v, .int .i64 t, .int .u64 n] W fun e w' => e = .returned (.int .i64 2) ∧ W = w' := by
  have HO := Lib.hid (mbleave_no W v h t n 4)
  clear h
  go_enter Try.func30, Try.ntmps30
  go_wp2_with fail
  refine HO.out.mono ?_
  rintro e w' ⟨rfl, rfl⟩
  go_wp2_with fail
  go_ret
  exact ⟨rfl, rfl⟩
theorem mbdrain_no (W : World) (v : Value) (h : NoM W v) (t : Int) (n : Int) : Calls Try.prog 31 #[v, .int .i64 t, .int .u64 n] W fun e w' => e = .returned (.int .i64 2) ∧ W = w' := by
  have HO := Lib.hid (mbleave_no W v h t n 3)
  clear h
  go_enter Try.func31, Try.ntmps31
  go_wp2_with fail
  refine HO.out.mono ?_
  rintro e w' ⟨rfl, rfl⟩
  go_wp2_with fail
  go_ret
  exact ⟨rfl, rfl⟩
theorem mbremove_no (W : World) (v : Value) (h : NoM W v) (t : Int) (n : Int) (x : Int) : Calls Try.prog 32 #[v, .int .i64 t, .int .u64 n, .int .i64 x] W fun e w' => e = .returned (.int .i64 2) ∧ W = w' := by
  have HO := Lib.hid (mbfind_no W v h t n)
  clear h
  go_enter Try.func32, Try.ntmps32
  go_wp2_with fail
  refine HO.out.mono ?_
  rintro e w' ⟨rfl, rfl⟩
  go_wp2_with fail
  go_ret
  exact ⟨rfl, rfl⟩
theorem mbbind_no (W : World) (v : Value) (h : NoM W v) (n : Int) (x : Int) : Calls Try.prog 33 #[v, .int .u64 n, .int .i64 x] W fun e w' => e = .returned (.int .i64 2) ∧ W = w' := by
  have HO := Lib.hid (mbfind_no W v h 0 n)
  clear h
  go_enter Try.func33, Try.ntmps33
  go_wp2_with fail
  refine HO.out.mono ?_
  rintro e w' ⟨rfl, rfl⟩
  go_wp2_with fail
  go_ret
  exact ⟨rfl, rfl⟩
theorem mball_no (W : World) (v : Value) (h : NoM W v)  : Calls Try.prog 28 #[v] W fun e w' => e = .returned (.slice none 0 0) ∧ W = w' := by
  have HO := Lib.hid (mbok_no W v h )
  clear h
  go_enter Try.func28, Try.ntmps28
  go_wp2_with fail
  refine HO.out.mono ?_
  rintro e w' ⟨rfl, rfl⟩
  go_wp2_with fail
  go_ret
  exact ⟨rfl, rfl⟩
theorem mbnow_no (W : World) (v : Value) (h : NoM W v)  : Calls Try.prog 47 #[v] W fun e w' => e = .returned (.int .i64 0) ∧ W = w' := by
  have HO := Lib.hid (mbok_no W v h )
  clear h
  go_enter Try.func47, Try.ntmps47
  go_wp2_with fail
  refine HO.out.mono ?_
  rintro e w' ⟨rfl, rfl⟩
  go_wp2_with fail
  go_ret
  exact ⟨rfl, rfl⟩
theorem mblive_no (W : World) (v : Value) (h : NoM W v) : Calls Try.prog 37 #[v] W fun e w' => e = .returned (.int .i64 0) ∧ W = w' := by
  have HO := Lib.hid (mball_no W v h)
  clear h
  go_enter Try.func37, Try.ntmps37
  go_wp2_with fail
  refine HO.out.mono ?_
  rintro e w' ⟨rfl, rfl⟩
  go_wp2_with fail
  go_loopw [3, 9] (fun n s wr => n = .int .i64 0 ∧ s = .int .i64 0 ∧ wr = W) (fun _ s _ => 0)
  case atStart => exact ⟨rfl, rfl, rfl⟩
  case round =>
    obtain ⟨rfl, rfl, rfl⟩ := hrel
    go_wp2_with fail
    go_ret
    exact ⟨rfl, rfl⟩
theorem mbget_no (W : World) (v : Value) (h : NoM W v) (n : Int) : Calls Try.prog 35 #[v, .int .u64 n] W fun e w' => e = .returned (.tuple #[.agg #[.int .u64 0, .int .i64 0, .int .u64 0, .int .i64 0, .int .i64 0], .int .i64 2]) ∧ Below W.heap.size W w' := by
  obtain ⟨W0, hW0⟩ : ∃ W0, W.alloc (.cells #[.int .u64 0, .int .i64 0, .int .u64 0, .int .i64 0, .int .i64 0] 75) = W0 := ⟨_, rfl⟩
  obtain ⟨g, hg⟩ : ∃ g, W.heap.size = g := ⟨_, rfl⟩
  have HB0 := Lib.hid (show Below W.heap.size W W0 by rw [← hW0]; exact below_alloc (Below.refl _ W) _)
  have HK := Lib.hid (show W0.heap[g]? = some (.cells #[.int .u64 0, .int .i64 0, .int .u64 0, .int .i64 0, .int .i64 0] 75 (0, 0)) by rw [← hW0, ← hg]; exact heap_alloc_new W _)
  have HF := Lib.hid (mbfind_no W0 v (h.below HB0.out) 0 n)
  have HW := Lib.hid hW0
  have HG := Lib.hid hg
  clear hW0 hg h
  go_enter Try.func35, Try.ntmps35
  go_wp2_with fail
  try rw [HG.out]
  rw [HW.out]
  refine HF.out.mono ?_
  rintro e w1 ⟨rfl, hw⟩
  subst hw
  have z0 := blk_cell HK.out 0
  have z1 := blk_cell HK.out 1
  have z2 := blk_cell HK.out 2
  have z3 := blk_cell HK.out 3
  have z4 := blk_cell HK.out 4
  have f0 := blk_frozen HK.out 0
  have f1 := blk_frozen HK.out 1
  have f2 := blk_frozen HK.out 2
  have f3 := blk_frozen HK.out 3
  have f4 := blk_frozen HK.out 4
  go_wp2_with fail
  refine bodyPost_ret (results_cell_tmp rfl _ _ g 75 #[.int .u64 0, .int .i64 0, .int .u64 0, .int .i64 0, .int .i64 0] (0, 0) _ rfl (by exact blk_set (blk_set (blk_set (blk_set (blk_set HK.out 0 _) 1 _) 2 _) 3 _) 4 _) Try.underlying75 rfl (by kernel_rfl)) rfl ?_
  have hge : W.heap.size ≤ g := Nat.le_of_eq HG.out
  exact ⟨rfl, ((((HB0.out.setCell (p := ⟨g, 0, none⟩) hge _).setCell (p := ⟨g, 1, none⟩) hge _).setCell (p := ⟨g, 2, none⟩) hge _).setCell (p := ⟨g, 3, none⟩) hge _).setCell (p := ⟨g, 4, none⟩) hge _⟩
end Go.Proofs.Ytmbhicjjbgbneaa
