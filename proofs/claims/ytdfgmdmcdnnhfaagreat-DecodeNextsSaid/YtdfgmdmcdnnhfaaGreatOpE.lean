/- The kinds of what the laws of the layers 10 to 12 are handed. -/
import Derived.Test.YtdfgmdmcdnnhfaaGreatOpn
import Derived.Test.YtdfgmdmcdnnhfaaGreatMoA
import Derived.Test.YtdfgmdmcdnnhfaaGreatProg
import Derived.KernelRfl
namespace Go.Proofs.YtdfgmdmcdnnhfaaGreat
open Go.RowKit Go.Proofs.YtdfgmdmcdnnhfaaGreatW.PrintWords Go.Proofs.YtdfgmdmcdnnhfaaGreatW.PrintLast Go.Proofs.YtdfgmdmcdnnhfaaGreatW.PrintMore
set_option linter.unusedVariables false
set_option linter.unusedSimpArgs false
set_option maxRecDepth 100000

abbrev KCfg : Kd Cfg := Kd.iso (Kd.pair (Kd.int .u64) (Kd.pair (Kd.int .i64) (Kd.pair (Kd.int .i64) (Kd.pair (Kd.int .i64) (Kd.pair (Kd.int .i64) (Kd.int .i64)))))) (fun c => (c.seed, c.vocab, c.dim, c.layers, c.top, c.heat))
def CfgW (c : Cfg) : Prop := (Lit.int .u64 c.seed).wf = true ∧ (Lit.int .i64 c.vocab).wf = true ∧ (Lit.int .i64 c.dim).wf = true ∧ (Lit.int .i64 c.layers).wf = true ∧ (Lit.int .i64 c.top).wf = true ∧ (Lit.int .i64 c.heat).wf = true
theorem op_cfg : Opens Tryz.prog 24 KCfg CfgW := by
  have h := Opens.iso (fun c : Cfg => (c.seed, c.vocab, c.dim, c.layers, c.top, c.heat)) (fun x => ⟨x.1, x.2.1, x.2.2.1, x.2.2.2.1, x.2.2.2.2.1, x.2.2.2.2.2⟩) (fun _ => rfl)
    (Opens.struct Tryz.underlying24 (by kernel_rfl)
      (OpensFs.cons rfl (by kernel_rfl) (Opens.int Tryz.underlying22) (OpensFs.cons rfl (by kernel_rfl) (Opens.int Tryz.underlying3) (OpensFs.cons rfl (by kernel_rfl) (Opens.int Tryz.underlying3)
        (OpensFs.cons rfl (by kernel_rfl) (Opens.int Tryz.underlying3) (OpensFs.cons rfl (by kernel_rfl) (Opens.int Tryz.underlying3) (OpensFs.one rfl (by kernel_rfl) (Opens.int Tryz.underlying3))))))))
  exact h
theorem cfg_cells {w : World} {c : Cfg} {cs : Array Value} (h : KCfg.K w c cs.toList) : cs = #[.int .u64 c.seed, .int .i64 c.vocab, .int .i64 c.dim, .int .i64 c.layers, .int .i64 c.top, .int .i64 c.heat] := by
  obtain ⟨c0, r, e, h0, ⟨c1, r1, e1, h1, ⟨c2, r2, e2, h2, ⟨c3, r3, e3, h3, ⟨c4, r4, e4, h4, h5⟩⟩⟩⟩⟩ := h
  subst e4 e3 e2 e1
  have h0' : c0 = [.int .u64 c.seed] := h0
  have h1' : c1 = [.int .i64 c.vocab] := h1
  have h2' : c2 = [.int .i64 c.dim] := h2
  have h3' : c3 = [.int .i64 c.layers] := h3
  have h4' : c4 = [.int .i64 c.top] := h4
  have h5' : r4 = [.int .i64 c.heat] := h5
  subst h0' h1' h2' h3' h4' h5'
  exact Array.toList_inj.1 e
abbrev KRow : Kd (List Int) := Kd.slice 2 (Kd.int .i64)
abbrev KTab : Kd (List (List Int)) := Kd.slice 55 KRow
theorem op_row : Opens Tryz.prog 55 KRow (fun xs => (∀ x ∈ xs, (Lit.int .i64 x).wf = true) ∧ xs.length ≤ maxLen) := Opens.slice Tryz.underlying55 (by kernel_rfl) (Opens.int Tryz.underlying2)
theorem op_tab : Opens Tryz.prog 54 KTab (fun xss => (∀ xs ∈ xss, (∀ x ∈ xs, (Lit.int .i64 x).wf = true) ∧ xs.length ≤ maxLen) ∧ xss.length ≤ maxLen) := Opens.slice Tryz.underlying54 (by kernel_rfl) op_row
/-- A slice that came in. -/
theorem slice_came {α : Type} {e : Nat} {d : Kd α} {w : World} {a : Option Addr} {len cap : Nat} {xs : List α} (h : (Kd.slice e d).K w xs [.slice a len cap]) : len = xs.length ∧ xs.length ≤ cap ∧ d.C w a xs.length xs := by
  obtain ⟨A, c, he, hl, hC⟩ := h
  simp only [List.cons.injEq, Value.slice.injEq, and_true] at he
  obtain ⟨rfl, rfl, rfl⟩ := he
  exact ⟨rfl, hl, hC⟩

end Go.Proofs.YtdfgmdmcdnnhfaaGreat
