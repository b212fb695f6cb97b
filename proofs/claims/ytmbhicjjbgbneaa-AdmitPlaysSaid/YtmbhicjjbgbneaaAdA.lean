/- A table that nobody made. -/
import Derived.Test.YtmbhicjjbgbneaaMbE
import Derived.Test.YtmbhicjjbgbneaaMpR
namespace Go.Proofs.Ytmbhicjjbgbneaa
open Go.RowKit Go.Shelf Go.Proofs.YtmbhicjjbgbneaaW.PrintWords Go.Proofs.YtmbhicjjbgbneaaW.PrintLast Go.Proofs.YtmbhicjjbgbneaaW.PrintMore
set_option linter.unusedVariables false
set_option linter.unusedSimpArgs false
set_option maxRecDepth 100000

theorem calls_flip {P : Program} {f : FuncId} {args : Array Value} {w : World} {X : Ending} (h : Calls P f args w fun e w' => e = X ∧ w = w') : Calls P f args w fun e w' => e = X ∧ w' = w := h.mono (fun _ _ h => ⟨h.1, h.2.symm⟩)
/-- nil, or a table that is all zero. -/
def NoT (W : World) (v : Value) : Prop := v = .pointer none ∨ ∃ b, v = .pointer (some ⟨b, 0, none⟩) ∧ W.cell? ⟨b, 10, none⟩ = some (.map none)
theorem NoT.below {W W' : World} {v : Value} (h : NoT W v) (hb : Below W.heap.size W W') : NoT W' v := by
  rcases h with h | ⟨b, h, hc⟩
  · exact .inl h
  · exact .inr ⟨b, h, pw_cell_below hb hc⟩
theorem adok_no (W : World) (v : Value) (h : NoT W v) : Calls Try.prog 53 #[v] W fun e w' => e = .returned (.bool false) ∧ W = w' := by
  rcases h with rfl | ⟨b, rfl, k0⟩
  · go_enter Try.func53, Try.ntmps53
    go_wp2_with fail
    go_ret
    exact ⟨rfl, rfl⟩
  · have hm := run_neq_map_nil (P := Try.prog) W 54 22 22 none Try.underlying54
    go_enter Try.func53, Try.ntmps53
    go_wp2_with fail
    go_ret
    exact ⟨rfl, rfl⟩
theorem adknows_no (W : World) (v : Value) (h : NoT W v) (s : Int) : Calls Try.prog 24 #[v, .int .u64 s] W fun e w' => e = .returned (.bool false) ∧ W = w' := by
  have HO := Lib.hid (adok_no W v h)
  clear h
  go_enter Try.func24, Try.ntmps24
  go_wp2_with fail
  refine HO.out.mono ?_
  rintro e w' ⟨rfl, rfl⟩
  go_wp2_with fail
  go_ret
  exact ⟨rfl, rfl⟩
theorem adof_no (W : World) (v : Value) (h : NoT W v) (s : Int) : Calls Try.prog 22 #[v, .int .u64 s] W fun e w' => e = .returned (.int .i64 0) ∧ W = w' := by
  have HO := Lib.hid (adok_no W v h)
  clear h
  go_enter Try.func22, Try.ntmps22
  go_wp2_with fail
  refine HO.out.mono ?_
  rintro e w' ⟨rfl, rfl⟩
  go_wp2_with fail
  go_ret
  exact ⟨rfl, rfl⟩
theorem adover_no (W : World) (v : Value) (h : NoT W v) (s : Int) : Calls Try.prog 17 #[v, .int .u64 s] W fun e w' => e = .returned (.int .i64 6) ∧ W = w' := by
  have HO := Lib.hid (adok_no W v h)
  clear h
  go_enter Try.func17, Try.ntmps17
  go_wp2_with fail
  refine HO.out.mono ?_
  rintro e w' ⟨rfl, rfl⟩
  go_wp2_with fail
  go_ret
  exact ⟨rfl, rfl⟩
theorem adstreams_no (W : World) (v : Value) (h : NoT W v)  : Calls Try.prog 21 #[v] W fun e w' => e = .returned (.slice none 0 0) ∧ W = w' := by
  have HO := Lib.hid (adok_no W v h)
  clear h
  go_enter Try.func21, Try.ntmps21
  go_wp2_with fail
  refine HO.out.mono ?_
  rintro e w' ⟨rfl, rfl⟩
  go_wp2_with fail
  go_ret
  exact ⟨rfl, rfl⟩
theorem adask_no (W : World) (v : Value) (h : NoT W v) (s u sd most : Int) (A : Option Addr) (n c : Nat) : Calls Try.prog 16 #[v, .int .u64 s, .int .u64 u, .agg #[.int .u64 sd, .slice A n c, .int .i64 most]] W fun e w' => e = .returned (.int .i64 1) ∧ Below W.heap.size W w' := by
  obtain ⟨W0, hW0⟩ : ∃ W0, W.alloc (.cells #[.int .u64 sd, .slice A n c, .int .i64 most] 44) = W0 := ⟨_, rfl⟩
  have hb : Below W.heap.size W W0 := by rw [← hW0]; exact below_alloc (Below.refl _ W) _
  have HO := Lib.hid (fun u : Nat => adok_no (W0.drewN u) v (h.below (pw_below_drewN hb u)))
  have HB := Lib.hid (fun u : Nat => pw_below_drewN hb u)
  have HW := Lib.hid hW0
  clear h hb hW0
  go_enter Try.func16, Try.ntmps16
  go_upto_region 1 with fail
  rw [HW.out]
  go_quiet (first | (go_at_call 53; exact Calls.quiet_of_same (calls_flip (HO.out _))))
  go_wp2_with fail
  go_ret
  exact ⟨rfl, HB.out _⟩
theorem adtake_no (W : World) (v : Value) (h : NoT W v) (s u sd most : Int) (A : Option Addr) (n c : Nat) : Calls Try.prog 19 #[v, .int .u64 s, .int .u64 u, .agg #[.int .u64 sd, .slice A n c, .int .i64 most]] W fun e w' => e = .returned (.int .i64 1) ∧ Below W.heap.size W w' := by
  have hb := below_alloc (Below.refl W.heap.size W) (.cells #[.int .u64 sd, .slice A n c, .int .i64 most] 44)
  have HA := Lib.hid (adask_no _ v (h.below hb) s u sd most A n c)
  have HB := Lib.hid hb
  clear h hb
  go_enter Try.func19, Try.ntmps19
  go_wp2_with fail
  refine HA.out.mono ?_
  rintro e w1 ⟨rfl, hb⟩
  have HE := Lib.hid (below_then HB.out HB.out.size hb)
  clear hb
  go_wp2_with fail
  go_ret
  exact ⟨rfl, HE.out⟩
end Go.Proofs.Ytmbhicjjbgbneaa
