/- What stands between two steps of LinkPlays. -/
import Derived.Test.YtcelhendfjiicaaLnS
namespace Go.Proofs.Ytcelhendfjiicaa
open Go.RowKit Go.Shelf Go.Proofs.YtcelhendfjiicaaW.PrintWords Go.Proofs.YtcelhendfjiicaaW.PrintLast Go.Proofs.YtcelhendfjiicaaW.PrintMore
set_option linter.unusedVariables false
set_option linter.unusedSimpArgs false
set_option maxRecDepth 100000
section
variable {W W1 W2 W' : World} {base p q : Nat} {g g' : Option Nat} {room : Int} {vs vs' : List Value} {ts ts' : List SlT} {s c d t s' c' d' t' : Int}
/-- The link at p and the document's link at q, with the same counters and the same texts. -/
structure PlI (W : World) (base p q : Nat) (room : Int) (g : Option Nat) (vs : List Value) (ts : List SlT) (s c d t : Int) : Prop where
  lk : Ln W base p g room vs s c d t
  rf : RF W base q room ts s c d t
  ap : Apart W q g
  tt : TT W base vs ts
  le : (vs.length : Int) ≤ room
theorem PlI.below (h : PlI W base p q room g vs ts s c d t) (hb : Below W.heap.size W W') : PlI W' base p q room g vs ts s c d t := by
  refine ⟨h.lk.below hb, h.rf.below hb, fun v hv kk hkk e => ?_, ?_, h.le⟩
  · obtain ⟨hq, A, k, h1, h2⟩ := h.rf
    have h3 := h1.below hb
    rw [h3.at_.2.2.1] at hv
    exact h.ap v (by rw [h1.at_.2.2.1]; exact hv) kk hkk e
  · exact h.tt.below hb
/-- The link has moved, then the document's link. -/
theorem PlI.next (h : PlI W base p q room g vs ts s c d t) (hL : Ln W1 base p g' room vs' s' c' d' t') (hg : Lg p g W W1) (hn : GN W g g') (hR : RF W2 base q room ts' s' c' d' t') (hg2 : Lg q none W1 W2) (hn2 : RN W1 W2 q) (hl : (vs'.length : Int) ≤ room) (ht : TT W2 base vs' ts') : PlI W2 base p q room g' vs' ts' s' c' d' t' := by
  have hR1 := h.rf.keep h.lk h.ap hg
  exact ⟨hL.keepR hR1 hg2, hR, (h.ap.keep h.rf h.lk hg hn).keepR hL hn2, ht, hl⟩
theorem PlI.out (h : PlI W base p q room g vs ts s c d t) (hg : Lg p g W W1) (hg2 : Lg q none W1 W2) {B : Nat} (hb : B ≤ base) : Below B W W2 := by
  have hbp := h.lk.1
  have hw : base ≤ W.heap.size := Nat.le_trans hbp (Nat.le_of_lt h.lk.at_.1)
  have h1 : Below B W W1 := hg.below (by omega) (fun k hk => by have := (h.lk.gb k hk).1; omega) (by omega)
  have hs := hg.size
  exact h1.trans (hg2.below (by have := h.rf.1; omega) (fun k hk => by simp at hk) (by omega))
theorem PlI.made (hL : Ln W base p none room [] 0 0 0 0) (hb : base ≤ W.heap.size) (hr : 0 ≤ room) : PlI (W.alloc (.cells #[.int .i64 room, .slice none 0 0, .int .u32 0, .int .u32 0, .int .u32 0, .int .u32 0] 67)) base p W.heap.size room none [] [] 0 0 0 0 := by
  refine ⟨hL.below (below_alloc (Below.refl _ _) _), ⟨hb, none, 0, heap_alloc_new _ _, Kd.R_nil _ _ _ _ _⟩, fun v hv kk hkk e => by simp at e, TT.nil, by simpa using hr⟩
end
end Go.Proofs.Ytcelhendfjiicaa
