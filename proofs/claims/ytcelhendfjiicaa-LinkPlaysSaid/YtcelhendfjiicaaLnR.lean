/- A link and the document's link side by side. -/
import Derived.Test.YtcelhendfjiicaaLnQ
namespace Go.Proofs.Ytcelhendfjiicaa
open Go.RowKit Go.Shelf Go.Proofs.YtcelhendfjiicaaW.PrintWords Go.Proofs.YtcelhendfjiicaaW.PrintLast Go.Proofs.YtcelhendfjiicaaW.PrintMore
set_option linter.unusedVariables false
set_option linter.unusedSimpArgs false
set_option maxRecDepth 100000
section
variable {W W' : World} {base b2 p q : Nat} {g : Option Nat} {room : Int} {vs : List Value} {ts : List SlT} {s c d t s' c' d' t' r' : Int}
/-- The document's list does not lie in block g. -/
def Apart (W : World) (q : Nat) (g : Option Nat) : Prop := ∀ v, W.cell? ⟨q, 1, none⟩ = some v → ∀ kk, v.ownBlock = some kk → g ≠ some kk
theorem Ln.typedG (h : Ln W base p g room vs s c d t) (k : Nat) (hk : g = some k) : ∃ cells, W.heap[k]? = some (.cells cells 28 (0, 0)) := by
  obtain ⟨-, -, v, hg, -, hT⟩ := h
  exact own_typed hT k (hg.trans hk)
theorem Ln.boxP (h : Ln W base p g room vs s c d t) : ∃ cells, W.heap[p]? = some (.cells cells 83 (0, 0)) := by
  obtain ⟨-, -, v, -, hh, -⟩ := h
  exact ⟨_, hh⟩
theorem ne_typed {a b : Nat} {e f : TypeId} {x y : Array Value} (h1 : W.heap[a]? = some (.cells x e (0, 0))) (h2 : W.heap[b]? = some (.cells y f (0, 0))) (hef : e ≠ f) : a ≠ b := by
  rintro rfl
  rw [h1] at h2
  injection h2 with h2
  injection h2 with _ h2
  exact hef h2
theorem RF.keep (h : RF W b2 q r' ts s' c' d' t') (hL : Ln W base p g room vs s c d t) (ha : Apart W q g) (hg : Lg p g W W') : RF W' b2 q r' ts s' c' d' t' := by
  obtain ⟨hq, A, k, h1, h2⟩ := h
  obtain ⟨pc, hp⟩ := hL.boxP
  have hqp : q ≠ p := ne_typed h1 hp (by decide)
  have hqg : some q ≠ g := fun e => by
    obtain ⟨cells, hc⟩ := hL.typedG q e.symm
    exact ne_typed h1 hc (by decide) rfl
  have hbq := hg.block q (blk_lt h1) hqp hqg
  refine ⟨hq, A, k, hbq.trans h1, ?_⟩
  have hown := Kd.own_of_R (enc := encT) (h1 := fun _ => rfl) h2
  refine Kd.R_of_own (enc := encT) (h1 := fun _ => rfl) (own_move hown (fun kk hkk => ?_)) (fun _ _ => trivial)
  obtain ⟨cells, hc⟩ := own_typed hown kk hkk
  exact hg.block kk (blk_lt hc) (ne_typed hc hp (by decide)) (fun e => ha _ h1.at_.2.2.1 kk hkk e.symm)
theorem Apart.keep (ha : Apart W q g) (h : RF W b2 q r' ts s' c' d' t') (hL : Ln W base p g room vs s c d t) (hg : Lg p g W W') {g' : Option Nat} (hn : GN W g g') : Apart W' q g' := by
  have h' := h.keep hL ha hg
  obtain ⟨hq, A, k, h1, h2⟩ := h
  have hown := Kd.own_of_R (enc := encT) (h1 := fun _ => rfl) h2
  obtain ⟨pc, hp⟩ := hL.boxP
  have hqp : q ≠ p := ne_typed h1 hp (by decide)
  have hqg : some q ≠ g := fun e => by
    obtain ⟨cells, hc⟩ := hL.typedG q e.symm
    exact ne_typed h1 hc (by decide) rfl
  have hbq := hg.block q (blk_lt h1) hqp hqg
  intro v hv kk hkk e
  have hv2 : W.cell? ⟨q, 1, none⟩ = some v := by rw [← hv]; unfold World.cell?; rw [hbq]
  have hv3 := hv2
  rw [h1.at_.2.2.1] at hv3
  injection hv3 with hv3
  subst hv3
  have hlt := own_lt hown kk hkk
  rcases hn with rfl | ⟨b, rfl, hb⟩
  · exact ha _ hv2 kk hkk e
  · injection e with e
    omega
theorem Ln.keepR (hL : Ln W base p g room vs s c d t) (h : RF W b2 q r' ts s' c' d' t') (hg : Lg q none W W') : Ln W' base p g room vs s c d t := by
  obtain ⟨hq, A, k, h1, -⟩ := h
  obtain ⟨pc, hp⟩ := hL.boxP
  have hty := hL.typedG
  obtain ⟨hbp, hsl, v, hgv, hh, hT⟩ := hL
  refine ⟨hbp, hsl, v, hgv, (hg.block p (blk_lt hp) (ne_typed hp h1 (by decide)) (by simp)).trans hh, own_move hT (fun kk hkk => ?_)⟩
  obtain ⟨cells, hc⟩ := own_typed hT kk hkk
  exact hg.block kk (blk_lt hc) (ne_typed hc h1 (by decide)) (by simp)
theorem Apart.keepR (ha : Apart W q g) (hL : Ln W base p g room vs s c d t) (hn : RN W W' q) : Apart W' q g := by
  intro v hv kk hkk e
  rcases hn v hv with h | h
  · exact ha v h kk hkk e
  · have h1 := h kk hkk
    have := (hL.gb kk e).2.1
    omega
theorem Tx8.keepR {B : Nat} {v : Value} {xs : List Int} (hx : Tx8 W B v xs) (h : RF W b2 q r' ts s' c' d' t') (hg : Lg q none W W') : Tx8 W' B v xs := by
  obtain ⟨hq, A, k, h1, -⟩ := h
  exact hx.kept2 (fun kk _ hlt hc => by
    obtain ⟨cells, hc⟩ := hc
    exact hg.block kk hlt (ne_typed hc h1 (by decide)) (by simp))
end
end Go.Proofs.Ytcelhendfjiicaa
