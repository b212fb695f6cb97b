/- A configuration and a job that came in. -/
import Derived.Test.YtdfgmdmcdnnhfaaGreatDcI
import Derived.Test.YtdfgmdmcdnnhfaaGreatOpE
namespace Go.Proofs.YtdfgmdmcdnnhfaaGreat
open Go.RowKit Go.Shelf Go.Proofs.YtdfgmdmcdnnhfaaGreatW.PrintWords Go.Proofs.YtdfgmdmcdnnhfaaGreatW.PrintLast Go.Proofs.YtdfgmdmcdnnhfaaGreatW.PrintMore
set_option linter.unusedVariables false
set_option linter.unusedSimpArgs false
set_option maxRecDepth 100000

abbrev KInts : Kd (List Int) := Kd.slice 3 (Kd.int .i64)
abbrev JobV := Int × List Int × Int
abbrev KJob : Kd JobV := Kd.pair (Kd.int .u64) (Kd.pair KInts (Kd.int .i64))
abbrev JobG (x : JobV) : Prop := (Lit.int .i64 x.2.2).wf = true
theorem op_ints : Opens Tryz.prog 25 KInts (fun xs => (∀ x ∈ xs, (Lit.int .i64 x).wf = true) ∧ xs.length ≤ maxLen) := Opens.slice Tryz.underlying25 (by kernel_rfl) (Opens.int Tryz.underlying3)
theorem op_job : Opens Tryz.prog 27 KJob JobG := by
  have h := Opens.struct Tryz.underlying27 (by kernel_rfl)
    (OpensFs.cons rfl (by kernel_rfl) (Opens.int Tryz.underlying22) (OpensFs.cons rfl (by kernel_rfl) op_ints (OpensFs.one rfl (by kernel_rfl) (Opens.int Tryz.underlying3))))
  intro H enc w n cs y hy
  obtain ⟨x, hx, hg⟩ := h H enc w n cs y hy
  exact ⟨x, hx, hg.2.2⟩
theorem job_cells {w : World} {d : JobV} {cs : Array Value} (h : KJob.K w d cs.toList) : ∃ A k, cs = #[.int .u64 d.1, .slice A d.2.1.length k, .int .i64 d.2.2] ∧ d.2.1.length ≤ k ∧ (Kd.int .i64).C w A d.2.1.length d.2.1 := by
  obtain ⟨c0, r, e, h0, ⟨c1, r1, e1, h1, h2⟩⟩ := h
  have h0' : c0 = [.int .u64 d.1] := h0
  have h2' : r1 = [.int .i64 d.2.2] := h2
  obtain ⟨A, k, rfl, hl, hC⟩ := h1
  subst e1 h0' h2'
  exact ⟨A, k, Array.toList_inj.1 e, hl, hC⟩
/-- Both boxes. -/
def BCJ (c : Cfg) (g : Nat) (sd : Int) (x : Value) (most : Int) (j : Nat) (w0 W : World) : Prop := W.cell? ⟨g, 0, none⟩ = some (.int .u64 c.seed) ∧ W.cell? ⟨g, 1, none⟩ = some (.int .i64 c.vocab) ∧ W.cell? ⟨g, 2, none⟩ = some (.int .i64 c.dim) ∧ W.cell? ⟨g, 3, none⟩ = some (.int .i64 c.layers) ∧ W.cell? ⟨g, 4, none⟩ = some (.int .i64 c.top) ∧ W.cell? ⟨g, 5, none⟩ = some (.int .i64 c.heat) ∧
  W.cell? ⟨j, 0, none⟩ = some (.int .u64 sd) ∧ W.cell? ⟨j, 1, none⟩ = some x ∧ W.cell? ⟨j, 2, none⟩ = some (.int .i64 most) ∧ Hid (Below w0.heap.size w0 W)
theorem BCJ.step {c : Cfg} {g : Nat} {sd : Int} {x : Value} {most : Int} {j : Nat} {w0 W W' : World} (h : BCJ c g sd x most j w0 W) (hb : Below W.heap.size W W') : BCJ c g sd x most j w0 W' := by
  obtain ⟨h0, h1, h2, h3, h4, h5, h6, h7, h8, h9⟩ := h
  exact ⟨pw_cell_below hb h0, pw_cell_below hb h1, pw_cell_below hb h2, pw_cell_below hb h3, pw_cell_below hb h4, pw_cell_below hb h5, pw_cell_below hb h6, pw_cell_below hb h7, pw_cell_below hb h8, Lib.hid (below_then h9.out h9.out.size hb)⟩
theorem BCJ.b {c : Cfg} {g : Nat} {sd : Int} {x : Value} {most : Int} {j : Nat} {w0 W : World} (h : BCJ c g sd x most j w0 W) : Below w0.heap.size w0 W := h.2.2.2.2.2.2.2.2.2.out
theorem BCJ.new (c : Cfg) (sd : Int) (x : Value) (most : Int) (w : World) : BCJ c w.heap.size sd x most (w.heap.size + 1) w ((w.alloc (.cells #[.int .u64 c.seed, .int .i64 c.vocab, .int .i64 c.dim, .int .i64 c.layers, .int .i64 c.top, .int .i64 c.heat] 24)).alloc (.cells #[.int .u64 sd, x, .int .i64 most] 27)) := by
  have h1 := blk_alloc (heap_alloc_new w (.cells #[.int .u64 c.seed, .int .i64 c.vocab, .int .i64 c.dim, .int .i64 c.layers, .int .i64 c.top, .int .i64 c.heat] 24)) (.cells #[.int .u64 sd, x, .int .i64 most] 27)
  have h2 := heap_alloc2_new w (.cells #[.int .u64 c.seed, .int .i64 c.vocab, .int .i64 c.dim, .int .i64 c.layers, .int .i64 c.top, .int .i64 c.heat] 24) (.cells #[.int .u64 sd, x, .int .i64 most] 27)
  exact ⟨blk_cell h1 0, blk_cell h1 1, blk_cell h1 2, blk_cell h1 3, blk_cell h1 4, blk_cell h1 5, blk_cell h2 0, blk_cell h2 1, blk_cell h2 2, Lib.hid (below_alloc (below_alloc (Below.refl _ w) _) _)⟩

end Go.Proofs.YtdfgmdmcdnnhfaaGreat
