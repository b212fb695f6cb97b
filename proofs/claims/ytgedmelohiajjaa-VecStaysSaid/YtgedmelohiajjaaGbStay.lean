/- Rows of one's own that are written over. -/
import Derived.Test.YtgedmelohiajjaaGbTab
import Derived.Test.YtgedmelohiajjaaGbTopR
namespace Go.Proofs.Ytgedmelohiajjaa
open Go.RowKit Go.Proofs.YtgedmelohiajjaaW.PrintWords Go.Proofs.YtgedmelohiajjaaW.PrintLast Go.Proofs.YtgedmelohiajjaaW.PrintMore
set_option linter.unusedVariables false
set_option linter.unusedSimpArgs false

/-- A store of a number anywhere leaves a row of one's own one of the same length. -/
theorem Own.poke {W : World} {B e : Nat} {u : Value} {zs : List Int} (h : Own W B e u zs) (g j : Nat) (x : Int) : ∃ zs' : List Int, zs'.length = zs.length ∧ Own (W.setCell ⟨g, j, none⟩ (.int .i64 x)) B e u zs' := by
  by_cases hg : u.ownBlock = some g
  · obtain ⟨A, c, rfl, -, -⟩ := h.reads
    have ho := Kd.own_of_R (enc := Value.int .i64) (h1 := fun _ => rfl) h
    rcases ho.2 with ⟨he, -⟩ | ⟨g', cap, cur, he, -⟩
    · rw [he] at hg; simp [Value.ownBlock] at hg
    · obtain ⟨rfl, -, rfl⟩ : A = some ⟨g', 0, none⟩ ∧ zs.length = zs.length ∧ c = cap := by simpa using he
      obtain rfl : g' = g := by simpa [Value.ownBlock] using hg
      exact ⟨zs.set j x, List.length_set, h.store j x⟩
  · exact ⟨zs, rfl, h.move fun k hk => Below.heap_setCell _ _ _ k (fun e => hg (by rw [hk, e]))⟩
/-- A table of rows of one's own, its block gL, ahead of which all rows lie. -/
def Rs (W : World) (B gL : Nat) (vs : List Value) : Prop := ∀ i, i < vs.length → W.cell? ⟨gL, i, none⟩ = some (vs.getD i undef) ∧ (vs.getD i undef).ownBlock ≠ some gL ∧ ∃ zs, Own W B 2 (vs.getD i undef) zs
theorem Rs.store {W : World} {B gL : Nat} {vs : List Value} (h : Rs W B gL vs) (g j : Nat) (x : Int) (hg : g ≠ gL) : Rs (W.setCell ⟨g, j, none⟩ (.int .i64 x)) B gL vs := by
  intro i hi
  obtain ⟨h1, h2, zs, h3⟩ := h i hi
  obtain ⟨zs', -, h4⟩ := h3.poke g j x
  refine ⟨?_, h2, zs', h4⟩
  rw [← h1]
  exact World.cell?_of_block (w := W) (Below.heap_setCell _ _ _ gL (Ne.symm hg))
/-- The table as it is made. -/
theorem Rs.made (W : World) (B : Nat) (e : TypeId) (vs : List Value) (h : ∀ u ∈ vs, ∃ zs, Own W B 2 u zs) : Rs (W.alloc (.cells vs.toArray e)) B W.heap.size vs := by
  intro i hi
  have hm : vs.getD i undef ∈ vs := by rw [List.getD_eq_getElem?_getD, List.getElem?_eq_getElem hi]; exact List.getElem_mem _
  obtain ⟨zs, hz⟩ := h _ hm
  refine ⟨?_, fun e => absurd (own_block_lt hz _ e) (Nat.lt_irrefl _), zs, hz.below ((Below.refl _ W).alloc (Nat.le_refl _) _)⟩
  rw [blk_cell (heap_alloc_new W (.cells vs.toArray e))]
  simp [List.getD_eq_getElem?_getD, List.getElem?_eq_getElem hi]

end Go.Proofs.Ytgedmelohiajjaa
