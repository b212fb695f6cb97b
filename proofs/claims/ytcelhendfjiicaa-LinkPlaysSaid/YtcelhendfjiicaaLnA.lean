/- A link, its list as it lies. -/
import Derived.Test.YtcelhendfjiicaaLkV
namespace Go.Proofs.Ytcelhendfjiicaa
open Go.RowKit Go.Shelf Go.Proofs.YtcelhendfjiicaaW.PrintWords Go.Proofs.YtcelhendfjiicaaW.PrintLast Go.Proofs.YtcelhendfjiicaaW.PrintMore
set_option linter.unusedVariables false
set_option linter.unusedSimpArgs false
set_option maxRecDepth 100000
attribute [local go_sem] gb_max2 gb_min2 gb_max_two gb_min_two gb_max_three gb_min_three

/-- Of the elder blocks p and g alone may have turned. -/
structure Lg (p : Nat) (g : Option Nat) (W W' : World) : Prop where
  os : W'.os = W.os
  tape : W'.tape = W.tape
  output : W'.output = W.output
  size : W.heap.size ≤ W'.heap.size
  block : ∀ k, k < W.heap.size → k ≠ p → some k ≠ g → W'.heap[k]? = W.heap[k]?
/-- The same block, or a new one. -/
def GN (W : World) (g g' : Option Nat) : Prop := g' = g ∨ ∃ b, g' = some b ∧ W.heap.size ≤ b
theorem GN.refl (W : World) (g : Option Nat) : GN W g g := .inl rfl
theorem GN.trans {W W' : World} {g g' g'' : Option Nat} (h : GN W g g') (h' : GN W' g' g'') (hs : W.heap.size ≤ W'.heap.size) : GN W g g'' := by
  rcases h' with rfl | ⟨b, rfl, hb⟩
  · exact h
  · exact .inr ⟨b, rfl, Nat.le_trans hs hb⟩
theorem Lg.refl (p : Nat) (g : Option Nat) (W : World) : Lg p g W W := ⟨rfl, rfl, rfl, Nat.le_refl _, fun _ _ _ _ => rfl⟩
theorem Lg.bel {p : Nat} {g : Option Nat} {W W' W'' : World} (h : Lg p g W W') (hb : Below W'.heap.size W' W'') : Lg p g W W'' :=
  ⟨hb.os.trans h.os, hb.tape.trans h.tape, hb.output.trans h.output, Nat.le_trans h.size hb.size, fun k hk hp hg => (hb.block k (Nat.lt_of_lt_of_le hk h.size)).trans (h.block k hk hp hg)⟩
theorem Lg.put {p : Nat} {g : Option Nat} {W W' : World} (h : Lg p g W W') (j : Nat) (u : Value) : Lg p g W (W'.setCell ⟨p, j, none⟩ u) :=
  ⟨h.os, h.tape, h.output, by simpa [World.setCell] using h.size, fun k hk hp hg => (Below.heap_setCell W' ⟨p, j, none⟩ u k hp).trans (h.block k hk hp hg)⟩
theorem Lg.grown {p : Nat} {g : Option Nat} {W W' W'' : World} (h : Lg p g W W') {row : Option Nat} (hg : W'.grownBy W'' row) (hr : ∀ k, row = some k → g = some k ∨ W.heap.size ≤ k) : Lg p g W W'' :=
  ⟨hg.os.trans h.os, hg.tape.trans h.tape, hg.output.trans h.output, Nat.le_trans h.size hg.size, fun k hk hp hne => (hg.block k (Nat.lt_of_lt_of_le hk h.size) (fun e => by
    rcases hr k e.symm with h1 | h1
    · exact hne h1.symm
    · omega)).trans (h.block k hk hp hne)⟩
theorem Lg.trans {p : Nat} {g g' : Option Nat} {W W' W'' : World} (h : Lg p g W W') (h' : Lg p g' W' W'') (hn : GN W g g') : Lg p g W W'' :=
  ⟨h'.os.trans h.os, h'.tape.trans h.tape, h'.output.trans h.output, Nat.le_trans h.size h'.size, fun k hk hp hne => (h'.block k (Nat.lt_of_lt_of_le hk h.size) hp (fun e => by
    rcases hn with h1 | ⟨b, h1, h2⟩
    · exact hne (e.trans h1)
    · rw [h1] at e; injection e with e; omega)).trans (h.block k hk hp hne)⟩
theorem Lg.below {base p : Nat} {g : Option Nat} {W W' : World} (h : Lg p g W W') (hp : base ≤ p) (hg : ∀ k, g = some k → base ≤ k) (hs : base ≤ W.heap.size) : Below base W W' :=
  ⟨h.os, h.tape, h.output, h.size, fun k hk => h.block k (Nat.lt_of_lt_of_le hk hs) (by omega) (fun e => by have := hg k e.symm; omega)⟩

/-- A slice's value. -/
def SlV (u : Value) : Prop := ∃ A n c, u = .slice A n c
theorem SlV.one {u : Value} (h : SlV u) : u.oneCell' = true := by obtain ⟨A, n, c, rfl⟩ := h; rfl
/-- A link at p whose list's block is g: the values of its texts. -/
def Ln (W : World) (base p : Nat) (g : Option Nat) (room : Int) (vs : List Value) (s c d t : Int) : Prop :=
  base ≤ p ∧ (∀ u ∈ vs, SlV u) ∧ ∃ v, v.ownBlock = g ∧ W.heap[p]? = some (.cells (lkCells room v s c d t) 83 (0, 0)) ∧ W.ownsRow base 28 1 v vs.length vs
theorem Ln.below {W W' : World} {base p : Nat} {g : Option Nat} {room : Int} {vs : List Value} {s c d t : Int} (h : Ln W base p g room vs s c d t) (hb : Below W.heap.size W W') : Ln W' base p g room vs s c d t := by
  obtain ⟨hp, h1, v, hg, hh, hT⟩ := h
  exact ⟨hp, h1, v, hg, blk_below hh hb, pw_own_below hT hb⟩
theorem Ln.own_set {W : World} {base p : Nat} {v : Value} {vs : List Value} {n : Nat} {cs : Array Value} (h : W.ownsRow base 28 1 v n vs) (hh : W.heap[p]? = some (.cells cs 83 (0, 0))) (j : Nat) (u : Value) : (W.setCell ⟨p, j, none⟩ u).ownsRow base 28 1 v n vs :=
  own_setCell h (own_ne h hh (by decide)) u
theorem Ln.putS {W : World} {base p : Nat} {g : Option Nat} {room : Int} {vs : List Value} {s c d t : Int} (h : Ln W base p g room vs s c d t) (s' : Int) : Ln ((W.setCell ⟨p, 2, none⟩ (.int .u32 s')).setCell ⟨p, 3, none⟩ (.int .u32 4294967295)) base p g room vs s' c d t := by
  obtain ⟨hp, h1, v, hg, hh, hT⟩ := h
  exact ⟨hp, h1, v, hg, blk_set (blk_set hh 2 _) 3 _, Ln.own_set (Ln.own_set hT hh 2 _) (blk_set hh 2 _) 3 _⟩
theorem Ln.putC {W : World} {base p : Nat} {g : Option Nat} {room : Int} {vs : List Value} {s c d t : Int} (h : Ln W base p g room vs s c d t) (c' : Int) : Ln ((W.setCell ⟨p, 4, none⟩ (.int .u32 c')).setCell ⟨p, 5, none⟩ (.int .u32 4294967295)) base p g room vs s c' d t := by
  obtain ⟨hp, h1, v, hg, hh, hT⟩ := h
  exact ⟨hp, h1, v, hg, blk_set (blk_set hh 4 _) 5 _, Ln.own_set (Ln.own_set hT hh 4 _) (blk_set hh 4 _) 5 _⟩
theorem Ln.putD {W : World} {base p : Nat} {g : Option Nat} {room : Int} {vs : List Value} {s c d t : Int} (h : Ln W base p g room vs s c d t) (d' : Int) : Ln ((W.setCell ⟨p, 6, none⟩ (.int .u32 d')).setCell ⟨p, 7, none⟩ (.int .u32 4294967295)) base p g room vs s c d' t := by
  obtain ⟨hp, h1, v, hg, hh, hT⟩ := h
  exact ⟨hp, h1, v, hg, blk_set (blk_set hh 6 _) 7 _, Ln.own_set (Ln.own_set hT hh 6 _) (blk_set hh 6 _) 7 _⟩
theorem Ln.putT {W : World} {base p : Nat} {g : Option Nat} {room : Int} {vs : List Value} {s c d t : Int} (h : Ln W base p g room vs s c d t) (t' : Int) : Ln ((W.setCell ⟨p, 8, none⟩ (.int .u32 t')).setCell ⟨p, 9, none⟩ (.int .u32 4294967295)) base p g room vs s c d t' := by
  obtain ⟨hp, h1, v, hg, hh, hT⟩ := h
  exact ⟨hp, h1, v, hg, blk_set (blk_set hh 8 _) 9 _, Ln.own_set (Ln.own_set hT hh 8 _) (blk_set hh 8 _) 9 _⟩
theorem Ln.at_ {W : World} {base p : Nat} {g : Option Nat} {room : Int} {vs : List Value} {s c d t : Int} (h : Ln W base p g room vs s c d t) : p < W.heap.size ∧ W.cell? ⟨p, 0, none⟩ = some (.int .i64 room) ∧ (∃ A k, W.cell? ⟨p, 1, none⟩ = some (.slice A vs.length k) ∧ vs.length ≤ k ∧ (Value.slice A vs.length k).ownBlock = g ∧ W.ownsRow base 28 1 (.slice A vs.length k) vs.length vs) ∧
    (W.cell? ⟨p, 2, none⟩ = some (.int .u32 s) ∧ W.cell? ⟨p, 3, none⟩ = some (.int .u32 4294967295)) ∧ (W.cell? ⟨p, 4, none⟩ = some (.int .u32 c) ∧ W.cell? ⟨p, 5, none⟩ = some (.int .u32 4294967295)) ∧
    (W.cell? ⟨p, 6, none⟩ = some (.int .u32 d) ∧ W.cell? ⟨p, 7, none⟩ = some (.int .u32 4294967295)) ∧ (W.cell? ⟨p, 8, none⟩ = some (.int .u32 t) ∧ W.cell? ⟨p, 9, none⟩ = some (.int .u32 4294967295)) := by
  obtain ⟨hp, h1, v, hg, hh, hT⟩ := h
  obtain ⟨A, k, rfl⟩ := own_slice hT
  refine ⟨blk_lt hh, ?_, ⟨A, k, ?_, own_le hT, hg, hT⟩, ⟨?_, ?_⟩, ⟨?_, ?_⟩, ⟨?_, ?_⟩, ⟨?_, ?_⟩⟩ <;> rw [blk_cell hh] <;> rfl
theorem Ln.frz {W : World} {base p : Nat} {g : Option Nat} {room : Int} {vs : List Value} {s c d t : Int} (h : Ln W base p g room vs s c d t) (j : Nat) : W.frozen? ⟨p, j, none⟩ = false := by
  obtain ⟨hp, h1, v, hg, hh, hT⟩ := h
  exact blk_frozen hh j
theorem Ln.gb {W : World} {base p : Nat} {g : Option Nat} {room : Int} {vs : List Value} {s c d t : Int} (h : Ln W base p g room vs s c d t) : ∀ k, g = some k → base ≤ k ∧ k < W.heap.size ∧ k ≠ p := by
  obtain ⟨hp, h1, v, hg, hh, hT⟩ := h
  intro k hk
  rw [hk] at hg
  exact ⟨own_base hT k hg, own_lt hT k hg, fun e => own_ne hT hh (by decide) (by rw [hg, e])⟩
theorem SlV.at_ {vs : List Value} (h : ∀ u ∈ vs, SlV u) (i : Nat) (hi : i < vs.length) : SlV (vs.getD i undef) := by
  rw [List.getD_eq_getElem?_getD, List.getElem?_eq_getElem hi]; exact h _ (List.getElem_mem hi)
/-- Where the texts' values lie. -/
theorem Ln.get {W : World} {base p : Nat} {g : Option Nat} {room : Int} {vs : List Value} {s c d t : Int} (h : Ln W base p g room vs s c d t) (i : Nat) (hi : i < vs.length) :
    ∃ b k, g = some b ∧ W.cell? ⟨p, 1, none⟩ = some (.slice (some ⟨b, 0, none⟩) vs.length k) ∧ vs.length ≤ k ∧ W.cell? ⟨b, i, none⟩ = some (vs.getD i undef) ∧ W.frozen? ⟨b, i, none⟩ = false ∧ W.ownsRow base 28 1 (.slice (some ⟨b, 0, none⟩) vs.length k) vs.length vs := by
  obtain ⟨hp, h1, v, hg, hh, hT⟩ := h
  have hT' := hT
  obtain ⟨hl, ⟨-, h0⟩ | ⟨b, k, cur, rfl, hbg, hb, hnc, hcm, hcs, htk⟩⟩ := hT
  · omega
  · refine ⟨b, k, hg.symm, by rw [blk_cell hh]; rfl, hnc, ?_, blk_frozen hb i, hT'⟩
    rw [Nat.mul_one] at htk
    rw [blk_cell hb, List.getD_eq_getElem?_getD, ← htk, List.getElem?_take, if_pos hi, Array.getElem?_toList]
    rw [Nat.mul_one] at hcs
    rw [Array.getElem?_eq_getElem (by omega)]; rfl
/-- What came of a call: the same link, its list's block the same or a new one. -/
def LnP (W : World) (base p : Nat) (g : Option Nat) (room : Int) (vs : List Value) (s c d t : Int) (w' : World) : Prop := ∃ g', GN W g g' ∧ Ln w' base p g' room vs s c d t ∧ Lg p g W w'

/-- A text more. -/
theorem Ln.app {W w1 w5 : World} {base p : Nat} {g : Option Nat} {room : Int} {us : List Value} {s c d t : Int} {x v5 : Value} (hg1 : Lg p g W w1) (hL1 : Ln w1 base p g room us s c d t) (hx : SlV x)
    (ho5 : w5.ownsRow base 28 1 v5 (us.length + 1) (us ++ [x])) (hg5 : w1.grownBy w5 g) (hat5 : GN w1 g v5.ownBlock) : LnP W base p g room (us ++ [x]) s c d t (w5.setCell ⟨p, 1, none⟩ v5) := by
  have hgb := hL1.gb
  obtain ⟨hp, h1, v, hg, hh, hT⟩ := hL1
  have hh5 := blk_grown hh hg5 (fun e => (hgb p e.symm).2.2 rfl)
  refine ⟨v5.ownBlock, ?_, ⟨hp, ?_, v5, rfl, blk_set hh5 1 _, ?_⟩, ?_⟩
  · rcases hat5 with h | ⟨b, h, hb⟩
    · exact .inl h
    · exact .inr ⟨b, h, Nat.le_trans hg1.size hb⟩
  · intro u hu
    rcases List.mem_append.1 hu with hu | hu
    · exact h1 u hu
    · obtain rfl : u = x := by simpa using hu
      exact hx
  · rw [List.length_append, List.length_singleton]
    exact Ln.own_set ho5 hh5 1 _
  · exact (hg1.grown hg5 (fun k hk => .inl hk)).put 1 _
/-- The list's slot behind an append. -/
theorem Ln.app_cell {w1 w5 : World} {base p : Nat} {g : Option Nat} {room : Int} {us : List Value} {s c d t : Int} (hL1 : Ln w1 base p g room us s c d t) (hg5 : w1.grownBy w5 g) : (∃ u, w5.cell? ⟨p, 1, none⟩ = some u) ∧ w5.frozen? ⟨p, 1, none⟩ = false := by
  have hgb := hL1.gb
  obtain ⟨hp, h1, v, hg, hh, hT⟩ := hL1
  have hh5 := blk_grown hh hg5 (fun e => (hgb p e.symm).2.2 rfl)
  exact ⟨⟨v, by rw [blk_cell hh5]; rfl⟩, blk_frozen hh5 1⟩
/-- A text of one's own. -/
def Tx8 (W : World) (base : Nat) (v : Value) (xs : List Int) : Prop := (Kd.int .u8).R 5 W base (fun _ => True) v xs
theorem Tx8.keep {W W' : World} {base b2 p : Nat} {g : Option Nat} {room : Int} {vs : List Value} {s c d t : Int} {v : Value} {xs : List Int} (h : Tx8 W b2 v xs) (hL : Ln W base p g room vs s c d t) (hg : Lg p g W W') : Tx8 W' b2 v xs := by
  obtain ⟨hp, h1, u, hu, hh, hT⟩ := hL
  refine Kd.R_mono (Kd.R_move (Kd.R_bound h) (fun k hk => ?_)) (fun _ _ => trivial)
  obtain ⟨-, -, hlt, q, hq, cells, hc⟩ := hk
  have hq8 : q = 5 := by simpa [Kd.int, Kd.scalar] using hq
  subst hq8
  refine hg.block k hlt (fun e => ?_) (fun e => ?_)
  · subst e; rw [hh] at hc; injection hc with hc; injection hc with _ hc; exact absurd hc (by decide)
  · obtain ⟨cells', hc'⟩ := own_typed hT k (by rw [hu]; exact e.symm)
    rw [hc'] at hc; injection hc with hc; injection hc with _ hc; exact absurd hc (by decide)
theorem Tx8.lower {W : World} {b b' : Nat} {v : Value} {xs : List Int} (h : Tx8 W b v xs) (hb : b' ≤ b) : Tx8 W b' v xs := Kd.R_lower h hb
/-- A store into another text. -/
theorem Tx8.far {W : World} {B g : Nat} {v : Value} {xs : List Int} (h : Tx8 W B v xs) (hlt : g < B) (j : Nat) (u : Value) : Tx8 (W.setCell ⟨g, j, none⟩ u) B v xs :=
  Kd.R_mono (Kd.R_far (p := ⟨g, j, none⟩) (Kd.R_bound h) (fun k hk => by have := hk.2.1; simp; omega) u) (fun _ _ => trivial)
theorem Ln.u8set {W : World} {base p : Nat} {g : Option Nat} {room : Int} {vs : List Value} {s c d t : Int} (h : Ln W base p g room vs s c d t) {b : Nat} {cells : Array Value} (hb : W.heap[b]? = some (.cells cells 5 (0, 0))) (j : Nat) (u : Value) : Ln (W.setCell ⟨b, j, none⟩ u) base p g room vs s c d t := by
  obtain ⟨hp, h1, v, hg, hh, hT⟩ := h
  exact ⟨hp, h1, v, hg, blk_far hh (p := ⟨b, j, none⟩) (blk_ne hh hb (by decide)) u, own_setCell hT (p := ⟨b, j, none⟩) (own_ne hT hb (by decide)) u⟩
/-- A text of one's own, as a row of numbers. -/
theorem Tx8.row {W : World} {base : Nat} {v : Value} {xs : List Int} (h : Tx8 W base v xs) : W.ownsRow base 5 1 v xs.length (nums .u8 xs) := Kd.own_of_R (enc := Value.int .u8) (h1 := fun _ => rfl) h
theorem Tx8.below {W W' : World} {base : Nat} {v : Value} {xs : List Int} (h : Tx8 W base v xs) (hb : Below W.heap.size W W') : Tx8 W' base v xs := Kd.R_below h hb
theorem Tx8.reads {W : World} {base : Nat} {v : Value} {xs : List Int} (h : Tx8 W base v xs) : ∃ A c, v = .slice A xs.length c ∧ xs.length ≤ c ∧ (Kd.int .u8).C W A xs.length xs := Kd.R_reads h
theorem Tx8.sl {W : World} {base : Nat} {v : Value} {xs : List Int} (h : Tx8 W base v xs) : SlV v := by
  obtain ⟨A, c, rfl, -, -⟩ := h.reads
  exact ⟨_, _, _, rfl⟩

theorem lnok_any (W : World) (base p : Nat) (g : Option Nat) (room : Int) (vs : List Value) (s c d t : Int) (h : Ln W base p g room vs s c d t) (hr : 0 < room) :
    Calls Try.prog 42 #[.pointer (some ⟨p, 0, none⟩)] W fun e w' => e = .returned (.bool true) ∧ W = w' := by
  have k0 := h.at_.2.1
  have g0 : decide (0 < room) = true := decide_eq_true hr
  clear h
  go_enter Try.func42, Try.ntmps42
  go_wp2_with fail
  go_ret
  exact ⟨rfl, rfl⟩
theorem lnlen_any (W : World) (base p : Nat) (g : Option Nat) (room : Int) (vs : List Value) (s c d t : Int) (h : Ln W base p g room vs s c d t) (hr : 0 < room) (n : Nat) (hn : vs.length = n) :
    Calls Try.prog 13 #[.pointer (some ⟨p, 0, none⟩)] W fun e w' => e = .returned (.int .i64 n) ∧ W = w' := by
  have HO := Lib.hid (lnok_any W base p g room vs s c d t h hr)
  obtain ⟨-, -, ⟨A1, c1, k1, -, -, -⟩, -⟩ := h.at_
  rw [hn] at k1
  clear h hn
  go_enter Try.func13, Try.ntmps13
  go_wp2_with fail
  refine HO.out.mono ?_
  rintro e w' ⟨rfl, rfl⟩
  go_wp2_with fail
  go_ret
  exact ⟨rfl, rfl⟩
theorem lnask_in (W : World) (base p : Nat) (g : Option Nat) (room : Int) (vs : List Value) (s c d t : Int) (h : Ln W base p g room vs s c d t) (hr : 0 < room) (i : Int) (h0 : 0 ≤ i) (hi : i < vs.length) :
    Calls Try.prog 45 #[.pointer (some ⟨p, 0, none⟩), .int .i64 i] W fun e w' => e = .returned (.int .i64 0) ∧ W = w' := by
  have HO := Lib.hid (lnok_any W base p g room vs s c d t h hr)
  obtain ⟨-, -, ⟨A1, c1, k1, -, -, -⟩, -⟩ := h.at_
  obtain ⟨n, hn⟩ : ∃ n, vs.length = n := ⟨_, rfl⟩
  rw [hn] at k1 hi
  have g0 : decide ((n : Int) ≤ i) = false := decide_eq_false (by omega)
  have g1 : decide (i < 0) = false := decide_eq_false (by omega)
  clear h hn
  go_enter Try.func45, Try.ntmps45
  go_wp2_with fail
  refine HO.out.mono ?_
  rintro e w' ⟨rfl, rfl⟩
  go_wp2_with fail
  go_ret
  exact ⟨rfl, rfl⟩
theorem lnask_out (W : World) (base p : Nat) (g : Option Nat) (room : Int) (vs : List Value) (s c d t : Int) (h : Ln W base p g room vs s c d t) (hr : 0 < room) (i : Int) (hi : i < 0 ∨ (vs.length : Int) ≤ i) :
    Calls Try.prog 45 #[.pointer (some ⟨p, 0, none⟩), .int .i64 i] W fun e w' => e = .returned (.int .i64 6) ∧ W = w' := by
  have HO := Lib.hid (lnok_any W base p g room vs s c d t h hr)
  obtain ⟨-, -, ⟨A1, c1, k1, -, -, -⟩, -⟩ := h.at_
  obtain ⟨n, hn⟩ : ∃ n, vs.length = n := ⟨_, rfl⟩
  rw [hn] at k1 hi
  clear h hn
  by_cases h0 : i < 0
  · have g1 : decide (i < 0) = true := decide_eq_true h0
    clear h0 hi
    go_enter Try.func45, Try.ntmps45
    go_wp2_with fail
    refine HO.out.mono ?_
    rintro e w' ⟨rfl, rfl⟩
    go_wp2_with fail
    go_ret
    exact ⟨rfl, rfl⟩
  · have g1 : decide (i < 0) = false := decide_eq_false h0
    have g0 : decide ((n : Int) ≤ i) = true := decide_eq_true (by omega)
    clear hi
    go_enter Try.func45, Try.ntmps45
    go_wp2_with fail
    refine HO.out.mono ?_
    rintro e w' ⟨rfl, rfl⟩
    go_wp2_with fail
    go_ret
    exact ⟨rfl, rfl⟩

def eraseV (vs : List Value) (i : Nat) : List Value := vs.take i ++ vs.drop (i + 1)
theorem eraseV_len (vs : List Value) (i : Nat) (hi : i < vs.length) : (eraseV vs i).length = vs.length - 1 := by unfold eraseV; rw [List.length_append, List.length_take, List.length_drop]; omega
/-- take. -/
def TakeV (W : World) (base p : Nat) (g : Option Nat) (room : Int) (vs : List Value) (s c d t : Int) (i : Nat) (e : Ending) (w' : World) : Prop :=
  e = .returned (vs.getD i undef) ∧ Ln w' base p g room (eraseV vs i) s c d t ∧ Lg p g W w'
set_option maxHeartbeats 1000000 in
theorem lntake_any (W : World) (base p : Nat) (g : Option Nat) (room : Int) (vs : List Value) (s c d t : Int) (h : Ln W base p g room vs s c d t) (i : Nat) (hi : i < vs.length) (hn : vs.length ≤ 1000000) :
    Calls Try.prog 46 #[.pointer (some ⟨p, 0, none⟩), .int .i64 i] W (TakeV W base p g room vs s c d t i) := by
  obtain ⟨b, k, hg, k1, hk, q1, -, ho⟩ := h.get i hi
  have hgb := h.gb b hg
  obtain ⟨hp, h1, v, hgv, hh, -⟩ := h
  have e1 : ((i + 1 : Nat) : Int) = (i : Int) + 1 := by omega
  have e2 : i + (vs.length - (i + 1)) = vs.length - 1 := by omega
  have hd := delete_any ho (fun u hu => (h1 u hu).one) i (i + 1) (by omega) hi
  rw [e1, e2] at hd
  have hvc : v = .slice (some ⟨b, 0, none⟩) vs.length k := by
    have e3 : W.cell? ⟨p, 1, none⟩ = some v := by rw [blk_cell hh]; rfl
    rw [k1] at e3; exact (Option.some.inj e3).symm
  obtain ⟨x, hx⟩ : ∃ x, vs.getD i undef = x := ⟨_, rfl⟩
  have HLN := Lib.hid (eraseV_len vs i hi)
  unfold TakeV
  rw [hx] at q1 ⊢
  obtain ⟨n, hnn⟩ : ∃ n, vs.length = n := ⟨_, rfl⟩
  rw [hnn] at hi hn hd k1 hk hvc
  have HD := Lib.hid hd
  have HH := Lib.hid hh
  have HG := Lib.hid hg
  have HP := Lib.hid hp
  have H1 := Lib.hid (show ∀ u ∈ eraseV vs i, SlV u from fun u hu => by
    unfold eraseV at hu
    rcases List.mem_append.1 hu with hu | hu
    · exact h1 u (List.mem_of_mem_take hu)
    · exact h1 u (List.mem_of_mem_drop hu))
  have HNN := Lib.hid hnn
  have HB := Lib.hid hgb
  clear hd hh hg hp h1 hgv hnn hgb e1 e2 ho hvc hx
  go_enter Try.func46, Try.ntmps46
  go_wp2_with fail
  refine HD.out.mono ?_
  rintro e w1 ⟨rfl, ho1, hg1⟩
  have hh1 := blk_grown HH.out hg1 (fun e => HB.out.2.2 (by injection e with e; exact e.symm))
  have q2 : w1.cell? ⟨p, 1, none⟩ = some v := by rw [blk_cell hh1]; rfl
  have f2 := blk_frozen hh1 1
  have HH1 := Lib.hid hh1
  have HO1 := Lib.hid ho1
  have HG1 := Lib.hid hg1
  clear ho1 hg1 hh1 q1 k1
  go_wp2_with fail
  go_ret
  refine ⟨rfl, ⟨HP.out, H1.out, .slice (some ⟨b, 0, none⟩) (n - 1) k, HG.out.symm, blk_set HH1.out 1 _, ?_⟩, (Lg.refl p g W).grown HG1.out (fun k hk => .inl (by rw [HG.out]; exact hk)) |>.put 1 _⟩
  rw [HLN.out, HNN.out]
  exact Ln.own_set HO1.out HH1.out 1 _

end Go.Proofs.Ytcelhendfjiicaa
