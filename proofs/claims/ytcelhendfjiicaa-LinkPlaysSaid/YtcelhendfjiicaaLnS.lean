/- The texts of a link and of the document's link. -/
import Derived.Test.YtcelhendfjiicaaLnR
namespace Go.Proofs.Ytcelhendfjiicaa
open Go.RowKit Go.Shelf Go.Proofs.YtcelhendfjiicaaW.PrintWords Go.Proofs.YtcelhendfjiicaaW.PrintLast Go.Proofs.YtcelhendfjiicaaW.PrintMore
set_option linter.unusedVariables false
set_option linter.unusedSimpArgs false
set_option maxRecDepth 100000
abbrev noT : SlT := (none, 0, 0)
/-- The same bytes, each in a row of its own. -/
def SameB (W : World) (B : Nat) (v : Value) (x : SlT) : Prop := ∃ bs, Tx8 W B v bs ∧ Tx8 W B (encT x) bs ∧ By8 bs ∧ bs.length ≤ 140737488351232
def TT (W : World) (B : Nat) (vs : List Value) (ts : List SlT) : Prop := vs.length = ts.length ∧ ∀ i, i < vs.length → SameB W B (vs.getD i undef) (ts.getD i noT)
theorem getD_app {α : Type} (d : α) (l m : List α) (i : Nat) : (l ++ m).getD i d = if i < l.length then l.getD i d else m.getD (i - l.length) d := by
  rw [List.getD_eq_getElem?_getD]
  split
  · rename_i h; rw [List.getElem?_append_left h, List.getD_eq_getElem?_getD]
  · rename_i h; rw [List.getElem?_append_right (by omega), List.getD_eq_getElem?_getD]
theorem getD_ers {α : Type} (d : α) (l : List α) (i j : Nat) (hi : i < l.length) : (l.take i ++ l.drop (i + 1)).getD j d = if j < i then l.getD j d else l.getD (j + 1) d := by
  rw [getD_app, List.length_take, Nat.min_eq_left (by omega)]
  split
  · rename_i h; rw [List.getD_eq_getElem?_getD, List.getElem?_take, if_pos h, List.getD_eq_getElem?_getD]
  · rename_i h; rw [List.getD_eq_getElem?_getD, List.getElem?_drop, show i + 1 + (j - i) = j + 1 by omega, List.getD_eq_getElem?_getD]
section
variable {W W' : World} {B base b2 p q : Nat} {g : Option Nat} {room : Int} {vs : List Value} {ts : List SlT} {s c d t s' c' d' t' r' : Int}
theorem TT.imp (h : TT W B vs ts) (hk : ∀ v xs, Tx8 W B v xs → Tx8 W' B v xs) : TT W' B vs ts :=
  ⟨h.1, fun i hi => by obtain ⟨bs, h1, h2, h3, h4⟩ := h.2 i hi; exact ⟨bs, hk _ _ h1, hk _ _ h2, h3, h4⟩⟩
theorem TT.below (h : TT W B vs ts) (hb : Below W.heap.size W W') : TT W' B vs ts := h.imp (fun v xs hx => hx.below hb)
theorem TT.nil : TT W B [] [] := ⟨rfl, fun i hi => absurd hi (by simp)⟩
theorem TT.ers (h : TT W B vs ts) (i : Nat) (hi : i < vs.length) : TT W B (eraseV vs i) (ersT ts i) := by
  have hl := h.1
  have hlen : (eraseV vs i).length = vs.length - 1 := eraseV_len vs i hi
  refine ⟨by rw [hlen]; unfold ersT; rw [List.length_append, List.length_take, List.length_drop]; omega, fun j hj => ?_⟩
  unfold eraseV ersT
  rw [getD_ers undef vs i j hi, getD_ers noT ts i j (by omega)]
  rw [hlen] at hj
  split
  · exact h.2 j (by omega)
  · exact h.2 (j + 1) (by omega)
theorem TT.snoc (h : TT W B vs ts) (v : Value) (x : SlT) (hx : SameB W B v x) : TT W B (vs ++ [v]) (ts ++ [x]) := by
  have hl := h.1
  refine ⟨by rw [List.length_append, List.length_append, hl]; rfl, fun j hj => ?_⟩
  rw [getD_app, getD_app, ← hl]
  rw [List.length_append, List.length_singleton] at hj
  split
  · rename_i hlt; exact h.2 j hlt
  · rw [show j - vs.length = 0 by omega]; exact hx
theorem TT.set (h : TT W B vs ts) (i : Nat) (hi : i < vs.length) (v : Value) (x : SlT) (hx : SameB W B v x) : TT W B (vs.set i v) (ts.set i x) := by
  have hl := h.1
  refine ⟨by rw [List.length_set, List.length_set, hl], fun j hj => ?_⟩
  rw [List.length_set] at hj
  rw [List.getD_eq_getElem?_getD, List.getD_eq_getElem?_getD, List.getElem?_set, List.getElem?_set]
  by_cases hij : i = j
  · subst hij
    rw [if_pos rfl, if_pos rfl, if_pos hi, if_pos (by omega)]
    exact hx
  · rw [if_neg hij, if_neg hij, ← List.getD_eq_getElem?_getD, ← List.getD_eq_getElem?_getD]
    exact h.2 j hj
theorem TT.keepL (h : TT W B vs ts) {us : List Value} (hL : Ln W base p g room us s c d t) (hg : Lg p g W W') : TT W' B vs ts := h.imp (fun v xs hx => hx.keep hL hg)
theorem TT.keepR (h : TT W B vs ts) {us : List SlT} (hR : RF W b2 q r' us s' c' d' t') (hg : Lg q none W W') : TT W' B vs ts := h.imp (fun v xs hx => hx.keepR hR hg)
end
end Go.Proofs.Ytcelhendfjiicaa
