/- Of the elder blocks those of F alone may have turned. -/
import Derived.Test.YtmbhicjjbgbneaaWMore
import Derived.Test.YtmbhicjjbgbneaaProg
import Derived.KernelRfl
import Derived.Tactics
import Derived.OwnWalk
import Derived.Shelf.Abstract
import Derived.Lib.Hide
namespace Go.Proofs.Ytmbhicjjbgbneaa
open Go.RowKit Go.Shelf Go.Proofs.YtmbhicjjbgbneaaW.PrintWords Go.Proofs.YtmbhicjjbgbneaaW.PrintLast Go.Proofs.YtmbhicjjbgbneaaW.PrintMore
set_option linter.unusedVariables false
set_option linter.unusedSimpArgs false
/-- Of the elder blocks those of F alone may have turned. -/
structure Tn (F : Nat → Prop) (W W' : World) : Prop where
  os : W'.os = W.os
  tape : W'.tape = W.tape
  output : W'.output = W.output
  size : W.heap.size ≤ W'.heap.size
  block : ∀ k, k < W.heap.size → ¬ F k → W'.heap[k]? = W.heap[k]?
theorem Tn.refl (F : Nat → Prop) (W : World) : Tn F W W := ⟨rfl, rfl, rfl, Nat.le_refl _, fun _ _ _ => rfl⟩
theorem Tn.bel {F : Nat → Prop} {W W' W'' : World} (h : Tn F W W') (hb : Below W'.heap.size W' W'') : Tn F W W'' :=
  ⟨hb.os.trans h.os, hb.tape.trans h.tape, hb.output.trans h.output, Nat.le_trans h.size hb.size, fun k hk hF => (hb.block k (Nat.lt_of_lt_of_le hk h.size)).trans (h.block k hk hF)⟩
theorem Tn.put {F : Nat → Prop} {W W' : World} (h : Tn F W W') (p j : Nat) (u : Value) (hp : F p ∨ W.heap.size ≤ p) : Tn F W (W'.setCell ⟨p, j, none⟩ u) :=
  ⟨h.os, h.tape, h.output, by simpa [World.setCell] using h.size, fun k hk hF => (Below.heap_setCell W' ⟨p, j, none⟩ u k (by rintro rfl; rcases hp with hp | hp; exact hF hp; exact absurd hk (by simpa using hp))).trans (h.block k hk hF)⟩
theorem Tn.grown {F : Nat → Prop} {W W' W'' : World} (h : Tn F W W') {b : Nat} (hg : W'.grownBy W'' (some b)) (hr : F b ∨ W.heap.size ≤ b) : Tn F W W'' :=
  ⟨hg.os.trans h.os, hg.tape.trans h.tape, hg.output.trans h.output, Nat.le_trans h.size hg.size, fun k hk hF => (hg.block k (Nat.lt_of_lt_of_le hk h.size) (fun e => by
    injection e with e
    subst e
    rcases hr with hr | hr
    · exact hF hr
    · omega)).trans (h.block k hk hF)⟩
theorem Tn.trans {F F' : Nat → Prop} {W W' W'' : World} (h : Tn F W W') (h' : Tn F' W' W'') (hF : ∀ k, F' k → F k ∨ W.heap.size ≤ k) : Tn F W W'' :=
  ⟨h'.os.trans h.os, h'.tape.trans h.tape, h'.output.trans h.output, Nat.le_trans h.size h'.size, fun k hk hn => (h'.block k (Nat.lt_of_lt_of_le hk h.size) (fun e => by
    rcases hF k e with e | e
    · exact hn e
    · omega)).trans (h.block k hk hn)⟩
theorem Tn.mono {F F' : Nat → Prop} {W W' : World} (h : Tn F W W') (hF : ∀ k, F k → F' k) : Tn F' W W' := ⟨h.os, h.tape, h.output, h.size, fun k hk hn => h.block k hk (fun e => hn (hF k e))⟩
theorem Tn.below {F : Nat → Prop} {base : Nat} {W W' : World} (h : Tn F W W') (hF : ∀ k, F k → base ≤ k) (hs : base ≤ W.heap.size) : Below base W W' :=
  ⟨h.os, h.tape, h.output, h.size, fun k hk => h.block k (Nat.lt_of_lt_of_le hk hs) (fun e => absurd (hF k e) (by omega))⟩

theorem Tn.grownO {F : Nat → Prop} {W W' W'' : World} (h : Tn F W W') {row : Option Nat} (hg : W'.grownBy W'' row) (hr : ∀ b, row = some b → F b ∨ W.heap.size ≤ b) : Tn F W W'' :=
  ⟨hg.os.trans h.os, hg.tape.trans h.tape, hg.output.trans h.output, Nat.le_trans h.size hg.size, fun k hk hF => (hg.block k (Nat.lt_of_lt_of_le hk h.size) (fun e => by
    rcases hr k e.symm with hr | hr
    · exact hF hr
    · omega)).trans (h.block k hk hF)⟩
theorem Tn.drew {F : Nat → Prop} {W W' : World} (h : Tn F W W') : Tn F W W'.drew := h.bel (below_drew (Below.refl _ _))
theorem Tn.of {F : Nat → Prop} {W W' : World} (h : Below W.heap.size W W') : Tn F W W' := ⟨h.os, h.tape, h.output, h.size, fun k hk _ => h.block k hk⟩
theorem Tn.keep {F : Nat → Prop} {W W' : World} (h : Tn F W W') {G : Nat → Prop} (hd : ∀ k, G k → ¬ F k) (hG : ∀ k, G k → k < W.heap.size) : ∀ k, G k → W'.heap[k]? = W.heap[k]? := fun k hk => h.block k (hG k hk) (hd k hk)
/-- The footprint behind a call: what it was, and new blocks. -/
def Nw (W W' : World) (F : Nat → Prop) : Nat → Prop := fun k => F k ∨ (W.heap.size ≤ k ∧ k < W'.heap.size)
theorem Tn.nw {F : Nat → Prop} {W W' W'' : World} (h : Tn F W W') (h' : Tn (Nw W W' F) W' W'') : Tn F W W'' := h.trans h' (fun k hk => hk.imp id (fun h => h.1))
theorem Nw.nw {F : Nat → Prop} {W W' W'' : World} (hs : W.heap.size ≤ W'.heap.size) (hs' : W'.heap.size ≤ W''.heap.size) : ∀ k, Nw W' W'' (Nw W W' F) k → Nw W W'' F k := fun k hk => by
  rcases hk with (hk | hk) | hk
  · exact .inl hk
  · exact .inr ⟨hk.1, by omega⟩
  · exact .inr ⟨by omega, hk.2⟩
theorem Nw.up {F : Nat → Prop} {W W' : World} : ∀ k, F k → Nw W W' F k := fun k hk => .inl hk
theorem ne_map {W : World} {a b : Nat} {x : Array Value} {e : TypeId} {fr : Nat × Nat} {es : Array MapEntry} {cl : Nat} (h1 : W.heap[a]? = some (.cells x e fr)) (h2 : W.heap[b]? = some (.map es cl)) : a ≠ b := by
  rintro rfl
  rw [h1] at h2
  cases h2
end Go.Proofs.Ytmbhicjjbgbneaa
