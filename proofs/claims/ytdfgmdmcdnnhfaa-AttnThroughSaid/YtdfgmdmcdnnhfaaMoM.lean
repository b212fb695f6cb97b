/- A model in memory. -/
import Derived.Test.YtdfgmdmcdnnhfaaMoT
import Derived.Test.YtdfgmdmcdnnhfaaMoR
import Derived.Deep.RegionHeld3
namespace Go.Proofs.Ytdfgmdmcdnnhfaa
open Go.RowKit Go.Shelf Go.Proofs.YtdfgmdmcdnnhfaaW.PrintWords Go.Proofs.YtdfgmdmcdnnhfaaW.PrintLast Go.Proofs.YtdfgmdmcdnnhfaaW.PrintMore
set_option linter.unusedVariables false
set_option linter.unusedSimpArgs false
set_option maxRecDepth 100000
attribute [local go_sem] gb_max2 gb_min2 gb_max_two gb_min_two gb_max_three gb_min_three

/-- Tables. -/
abbrev KT : Kd (List (List Int)) := Kd.slice 25 (Kd.slice 2 (Kd.int .i64))
theorem infoTab : (Try.prog.info? 39).map (fun i => (i.zero, i.size, i.bytes)) = some (some (.slice none 0 0), 1, 24) := by kernel_rfl
theorem Tb.toR {W : World} {base g n : Nat} {vs : Nat → Value} {f : Nat → List Int} (h : Tb W base g n vs f) (hn : n ≤ 1000000) : (Kd.slice 2 (Kd.int .i64)).R 25 W base (fun _ => True) (.slice (some ⟨g, 0, none⟩) n n) ((List.range n).map f) := by
  obtain ⟨h0, ⟨cur, h1, h2, h3⟩, h4, h5⟩ := h
  refine ⟨fun _ _ => trivial, (List.range n).map vs, ⟨by simp [Kd.slice], .inr ⟨g, n, cur, by simp, h0, h1, by simp, by unfold maxLen; omega, by simp [Kd.slice, h2], ?_⟩⟩, by simp [Kd.slice], fun j p hj => ?_⟩
  · apply List.ext_getElem
    · simp [Kd.slice, h2]
    · intro j hj1 hj2
      have hjn : j < n := by simpa using hj2
      have h6 := h3 j hjn
      rw [Array.getElem?_eq_getElem (by omega)] at h6
      simp only [List.getElem_take, Array.getElem_toList, List.getElem_map, List.getElem_range]
      exact Option.some.inj h6
  · obtain ⟨hj1, hj2⟩ := List.getElem?_eq_some_iff.1 hj
    have hjn : j < n := by simpa using hj1
    have hp : f j = p := by simpa using hj2
    subst hp
    refine ⟨vs j, ?_, Kd.R_mono (Kd.R_types (h4 j hjn) h1 (by decide)) (fun k hk => ⟨trivial, fun e => hk.2 (Option.some.inj e)⟩)⟩
    rw [show (Kd.slice 2 (Kd.int .i64)).sz = 1 from rfl, Nat.mul_one, List.drop_eq_getElem_cons (by simpa using hjn), List.take_succ_cons]
    simp

/-- The block of a model. -/
def moCells (c : Cfg) (v : Value) : Array Value := #[.int .u64 c.seed, .int .i64 c.vocab, .int .i64 c.dim, .int .i64 c.layers, .int .i64 c.top, .int .i64 c.heat, v]
/-- A model lies at p. -/
def Mo (W : World) (p : Nat) (c : Cfg) : Prop := ∃ A k, W.heap[p]? = some (.cells (moCells c (.slice A (mtables c).length k)) 89 (0, 0)) ∧ (mtables c).length ≤ k ∧ KT.C W A (mtables c).length (mtables c)
theorem Mo.below {W W' : World} {p : Nat} {c : Cfg} (h : Mo W p c) (hb : Below W.heap.size W W') : Mo W' p c := by
  obtain ⟨A, k, h1, h2, h3⟩ := h
  exact ⟨A, k, blk_below h1 hb, h2, Kd.C_below h3 hb⟩
theorem Mo.at_ {W : World} {p : Nat} {c : Cfg} (h : Mo W p c) : W.cell? ⟨p, 0, none⟩ = some (.int .u64 c.seed) ∧ W.cell? ⟨p, 1, none⟩ = some (.int .i64 c.vocab) ∧ W.cell? ⟨p, 2, none⟩ = some (.int .i64 c.dim) ∧ W.cell? ⟨p, 3, none⟩ = some (.int .i64 c.layers) ∧ W.cell? ⟨p, 4, none⟩ = some (.int .i64 c.top) ∧ W.cell? ⟨p, 5, none⟩ = some (.int .i64 c.heat) ∧
    ∃ A k, W.cell? ⟨p, 6, none⟩ = some (.slice A (mtables c).length k) ∧ (mtables c).length ≤ k ∧ KT.C W A (mtables c).length (mtables c) := by
  obtain ⟨A, k, h1, h2, h3⟩ := h
  refine ⟨?_, ?_, ?_, ?_, ?_, ?_, A, k, ?_, h2, h3⟩ <;> rw [blk_cell h1] <;> rfl
theorem mtables_len (c : Cfg) : (mtables c).length = 2 + (6 * c.layers).toNat := by simp [mtables]; omega

/-- The places' table, half scaled. -/
def pst (wt : Nat → Nat → Int) (D i j r : Nat) : List Int := mixl D (fun k => fmul (wt r k) 16384) (wt r) (if r < i then D else if r = i then j else 0)
theorem pst_len (wt : Nat → Nat → Int) (D i j r : Nat) : (pst wt D i j r).length = D := mixl_len _ _ _ _
theorem pst_start (wt : Nat → Nat → Int) (D r : Nat) : tab D (wt r) = pst wt D 0 0 r := by
  unfold pst; rw [if_neg (Nat.not_lt_zero _)]; split <;> exact (mixl_zero _ _ _).symm
theorem pst_get (wt : Nat → Nat → Int) (D i j : Nat) (h : j < D) : (pst wt D i j i).getD j 0 = wt i j := by
  unfold pst; rw [if_neg (Nat.lt_irrefl _), if_pos rfl]; exact mixl_get _ _ _ _ h
theorem pst_put (wt : Nat → Nat → Int) (D i j r : Nat) : (if r = i then (pst wt D i j i).set j (fmul (wt i j) 16384) else pst wt D i j r) = pst wt D i (j + 1) r := by
  unfold pst
  by_cases e : r = i
  · subst e; simp only [if_true, Nat.lt_irrefl, if_false]; exact mixl_set D (fun k => fmul (wt r k) 16384) (wt r) j
  · rw [if_neg e, if_neg e, if_neg e]
theorem pst_next (wt : Nat → Nat → Int) (D i r : Nat) : pst wt D i D r = pst wt D (i + 1) 0 r := by
  unfold pst
  by_cases h : r < i
  · rw [if_pos h, if_pos (by omega)]
  · by_cases e : r = i
    · subst e; rw [if_neg h, if_pos rfl, if_pos (by omega)]
    · rw [if_neg h, if_neg e, if_neg (by omega)]; split <;> rfl
theorem pst_full (wt : Nat → Nat → Int) (D n r : Nat) (h : r < n) : pst wt D n 0 r = tab D (fun k => fmul (wt r k) 16384) := by
  unfold pst; rw [if_pos h]; exact mixl_full _ _ _ _ (Nat.le_refl _)

def NewYes (c : Cfg) (w : World) (e : Ending) (w' : World) : Prop := ∃ p, e = .returned (.tuple #[.pointer (some ⟨p, 0, none⟩), .int .i64 0]) ∧ Mo w' p c ∧ Below w.heap.size w w'
def NewNo (w : World) (e : Ending) (w' : World) : Prop := e = .returned (.tuple #[.pointer none, .int .i64 1]) ∧ Below w.heap.size w w'

/-- What stands between two tables. -/
structure Nw (c : Cfg) (w : World) (B0 p : Nat) (v : Value) (ts : List (List (List Int))) (W : World) : Prop where
  box : Bx c B0 W
  blk : W.heap[p]? = some (.cells (moCells c v) 89 (0, 0))
  row : KT.R 39 W w.heap.size (fun _ => True) v ts
  bel : Below w.heap.size w W
  ge : w.heap.size ≤ p
theorem Nw.below {c : Cfg} {w W W' : World} {B0 p : Nat} {v : Value} {ts : List (List (List Int))} (h : Nw c w B0 p v ts W) (hb : Below W.heap.size W W') : Nw c w B0 p v ts W' :=
  ⟨h.box.below hb, blk_below h.blk hb, Kd.R_below h.row hb, below_then h.bel h.bel.size hb, h.ge⟩

def ntabs (c : Cfg) (i : Nat) : List (List (List Int)) := [mtab c 0 c.vocab.toNat, (List.range 256).map fun r : Nat => mplace c r] ++ (List.range i).map fun t : Nat => mtab c (2 + t) c.dim.toNat
theorem ntabs_succ (c : Cfg) (i : Nat) : ntabs c (i + 1) = ntabs c i ++ [mtab c (2 + i) c.dim.toNat] := by
  unfold ntabs; rw [show List.range (i + 1) = List.range i ++ [i] from List.range_succ, List.map_append, ← List.append_assoc]; simp only [List.map_cons, List.map_nil]
theorem ntabs_end (c : Cfg) : ntabs c (6 * c.layers).toNat = mtables c := rfl
theorem mplace_eq (c : Cfg) (r : Int) : mplace c r = tab c.dim.toNat (fun k => fmul (mwt (rat c.seed 1) r k) 16384) := by
  unfold mplace vmap
  rw [mrow_len]
  exact tab_congr _ _ _ fun k hk => by unfold mrow; rw [tab_get _ _ _ hk]
/-- A literal of two tables. -/
theorem two_tabs {W : World} {base : Nat} {ok : Nat → Prop} {u0 u1 : Value} {t0 t1 : List (List Int)} (h0 : KT.M W base ok t0 [u0]) (h1 : KT.M W base ok t1 [u1]) (e : TypeId) :
    ReadsRow (KT.M (W.alloc (.cells #[u0, u1] e)) base ok) KT.sz (W.alloc (.cells #[u0, u1] e)) (some ⟨W.heap.size, 0, none⟩) 2 [t0, t1] := by
  have hb : Below W.heap.size W (W.alloc (.cells #[u0, u1] e)) := (Below.refl _ W).alloc (Nat.le_refl _) _
  have h2 := heap_alloc_new W (.cells #[u0, u1] e)
  refine ⟨rfl, by simp, fun _ => ⟨_, rfl, fun j p hj => ?_⟩⟩
  match j, hj with
  | 0, hj =>
    obtain rfl : t0 = p := by simpa using hj
    refine ⟨[u0], rfl, Kd.M_below h0 hb, fun i u hu => ?_⟩
    rw [show KT.sz = 1 from rfl, add_plain, blk_cell h2]
    cases i with
    | zero => simpa using hu
    | succ i => simp at hu
  | 1, hj =>
    obtain rfl : t1 = p := by simpa using hj
    refine ⟨[u1], rfl, Kd.M_below h1 hb, fun i u hu => ?_⟩
    rw [show KT.sz = 1 from rfl, add_plain, blk_cell h2]
    cases i with
    | zero => simpa using hu
    | succ i => simp at hu
  | j + 2, hj => simp at hj
theorem Tb.toM {W : World} {base base' g n : Nat} {vs : Nat → Value} {f : Nat → List Int} (h : Tb W base' g n vs f) (hn : n ≤ 1000000) (hb : base ≤ base') : KT.M W base (fun _ => True) ((List.range n).map f) [.slice (some ⟨g, 0, none⟩) n n] := ⟨_, rfl, Kd.R_lower (h.toR hn) hb⟩

end Go.Proofs.Ytdfgmdmcdnnhfaa
