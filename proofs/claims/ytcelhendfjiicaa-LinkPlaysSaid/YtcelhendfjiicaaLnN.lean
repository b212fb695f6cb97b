/- The document's link: New, Twice. -/
import Derived.Test.YtcelhendfjiicaaLnM
namespace Go.Proofs.Ytcelhendfjiicaa
open Go.RowKit Go.Shelf Go.Proofs.YtcelhendfjiicaaW.PrintWords Go.Proofs.YtcelhendfjiicaaW.PrintLast Go.Proofs.YtcelhendfjiicaaW.PrintMore
set_option linter.unusedVariables false
set_option linter.unusedSimpArgs false
set_option maxRecDepth 100000
attribute [local go_sem] gb_max2 gb_min2 gb_max_two gb_min_two gb_max_three gb_min_three
theorem results_cell_tmp {P : Program} {fn : Func} {p u : Tmp} {ty : TypeId} (h : fn.results = #[.cell p ty, .tmp u]) (tmps : Array Value) (w : World) (g : Nat) (t : TypeId) (cs : Array Value) (fr : Nat × Nat) (d : TypeDesc)
    (hp : tmps.getD p undef = .pointer (some ⟨g, 0, none⟩)) (hg : w.heap[g]? = some (.cells cs t fr))
    (hu : P.underlying ty = some d) (hd : (match d with | .struct _ | .array _ _ => true | _ => false) = true) (hi : (P.info? ty).map (·.size) = some cs.size) :
    (results fn tmps).run P w = .ok (.tuple #[.agg cs, tmps.getD u undef]) w := by
  have hp' : tmps[p]?.getD undef = .pointer (some ⟨g, 0, none⟩) := by simpa using hp
  simp [results, h, hp', asAddr, run_loadVar_row w g t ty cs fr d hg hu hd hi]
theorem rnew_bad (room : Int) (h : room < 1 ∨ 256 < room) (W : World) : Calls Try.prog 30 #[.int .i64 room] W fun e w' => e = .returned (.tuple #[.agg #[.int .i64 0, .slice none 0 0, .int .u32 0, .int .u32 0, .int .u32 0, .int .u32 0], .int .i64 1]) ∧ Below W.heap.size W w' := by
  have hb := below_alloc (Below.refl W.heap.size W) (.cells #[.int .i64 0, .slice none 0 0, .int .u32 0, .int .u32 0, .int .u32 0, .int .u32 0] 67)
  have HB := Lib.hid hb
  clear hb
  by_cases h1 : room < 1
  · clear h
    go_enter Try.func30, Try.ntmps30
    go_wp2_with fail
    refine bodyPost_ret (results_cell_tmp rfl _ _ W.heap.size 67 #[.int .i64 0, .slice none 0 0, .int .u32 0, .int .u32 0, .int .u32 0, .int .u32 0] (0, 0) _ rfl (heap_alloc_new _ _) Try.underlying67 rfl (by kernel_rfl)) rfl ?_
    exact ⟨rfl, HB.out⟩
  · have h2 : 256 < room := by omega
    clear h
    go_enter Try.func30, Try.ntmps30
    go_wp2_with fail
    refine bodyPost_ret (results_cell_tmp rfl _ _ W.heap.size 67 #[.int .i64 0, .slice none 0 0, .int .u32 0, .int .u32 0, .int .u32 0, .int .u32 0] (0, 0) _ rfl (heap_alloc_new _ _) Try.underlying67 rfl (by kernel_rfl)) rfl ?_
    exact ⟨rfl, HB.out⟩
theorem rnew_ok (room : Int) (h1 : 1 ≤ room) (h2 : room ≤ 256) (W : World) : Calls Try.prog 30 #[.int .i64 room] W fun e w' => e = .returned (.tuple #[.agg #[.int .i64 room, .slice none 0 0, .int .u32 0, .int .u32 0, .int .u32 0, .int .u32 0], .int .i64 0]) ∧ Below W.heap.size W w' := by
  have hb := below_alloc (Below.refl W.heap.size W) (.cells #[.int .i64 room, .slice none 0 0, .int .u32 0, .int .u32 0, .int .u32 0, .int .u32 0] 67)
  have HB := Lib.hid hb
  clear hb
  go_enter Try.func30, Try.ntmps30
  go_wp2_with fail
  refine bodyPost_ret (results_cell_tmp rfl _ _ W.heap.size 67 #[.int .i64 room, .slice none 0 0, .int .u32 0, .int .u32 0, .int .u32 0, .int .u32 0] (0, 0) _ rfl (heap_alloc_new _ _) Try.underlying67 rfl (by kernel_rfl)) rfl ?_
  exact ⟨rfl, HB.out⟩
theorem rtwice_full (W : World) (base q : Nat) (room : Int) (ts : List SlT) (s c d t : Int) (h : RF W base q room ts s c d t) (hf : room ≤ (ts.length : Int)) (i : Nat) (hi : i < ts.length) :
    Calls Try.prog 33 #[.pointer (some ⟨q, 0, none⟩), .int .i64 i] W fun e w' => e = .returned (.int .i64 9) ∧ RfP W base q room ts s c d t w' := by
  have HH := Lib.hid (rhas_yes h i hi)
  have HR := Lib.hid h
  obtain ⟨n, hn⟩ : ∃ n, ts.length = n := ⟨_, rfl⟩
  obtain ⟨A1, k1, q0, q1, -⟩ := h.cells n hn
  rw [hn] at hf
  clear h hi hn
  go_enter Try.func33, Try.ntmps33
  go_wp2_with fail
  refine HH.out.mono ?_
  rintro e w' ⟨rfl, rfl⟩
  go_wp2_with fail
  go_quiet (fail)
  go_wp2_with fail
  go_ret
  exact ⟨rfl, HR.out.below (pw_below_drewN (Below.refl W.heap.size W) nq), (Lg.refl q none W).bel (pw_below_drewN (Below.refl W.heap.size W) nq), (RN.refl W q).bel HR.out (pw_below_drewN (Below.refl W.heap.size W) nq)⟩
end Go.Proofs.Ytcelhendfjiicaa
