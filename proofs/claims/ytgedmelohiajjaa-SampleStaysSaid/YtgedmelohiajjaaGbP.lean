/- Contracts of vec.places' methods. -/
import Derived.Test.YtgedmelohiajjaaGbD
import Derived.Test.YtgedmelohiajjaaGbH
import Derived.Test.YtgedmelohiajjaaProg
import Derived.Test.YtgedmelohiajjaaGbB
import Derived.Test.YtgedmelohiajjaaGbW
import Derived.Test.YtgedmelohiajjaaWMore
import Derived.WalkKit
import Derived.KernelRfl
import Derived.Tactics
import Derived.OwnWalk
import Derived.BigQuiet
import Derived.Deep.QuietTactic
import Derived.Lib.Hide
import Derived.Outline
import Derived.StillTailTactics
import Derived.BigRegion
import Derived.Deep.RegionLaw
import Derived.Shelf.Abstract
import Derived.WalkSpells
namespace Go.Proofs.Ytgedmelohiajjaa
open Go.RowKit Go.Shelf Go.Proofs.YtgedmelohiajjaaW.PrintWords Go.Proofs.YtgedmelohiajjaaW.PrintLast Go.Proofs.YtgedmelohiajjaaW.PrintMore
set_option linter.unusedVariables false
set_option linter.unusedSimpArgs false
attribute [local go_sem] gb_max2 gb_min2 gb_max_two gb_min_two gb_max_three gb_min_three

/-- The box of a heap, and its row. -/
structure HS (W : World) (B p : Nat) (v : Value) (L : List (Int × Int)) : Prop where
  box : W.heap[p]? = some (.cells #[v] 61 (0, 0))
  row : W.ownsRow B 64 2 v L.length (cellsP L)
  low : B ≤ p

theorem HS.cell {W : World} {B p : Nat} {v : Value} {L : List (Int × Int)} (h : HS W B p v L) : W.cell? ⟨p, 0, none⟩ = some v := by
  rw [blk_cell h.box]; rfl
theorem HS.free {W : World} {B p : Nat} {v : Value} {L : List (Int × Int)} (h : HS W B p v L) : W.frozen? ⟨p, 0, none⟩ = false := blk_frozen h.box 0
theorem HS.below {W W' : World} {B p : Nat} {v : Value} {L : List (Int × Int)} (h : HS W B p v L) (hb : Below W.heap.size W W') : HS W' B p v L :=
  ⟨(hb.block p (blk_lt h.box)).trans h.box, pw_own_below h.row hb, h.low⟩
theorem HS.form {W : World} {B p : Nat} {v : Value} {L : List (Int × Int)} (h : HS W B p v L) (hp : 0 < L.length) : ∃ g cap, v = .slice (some ⟨g, 0, none⟩) L.length cap ∧ B ≤ g ∧ g < W.heap.size ∧ g ≠ p := by
  rcases h.row.2 with ⟨h1, h2⟩ | ⟨g, cap, cur, rfl, hg, hh, r⟩
  · omega
  · refine ⟨g, cap, rfl, hg, blk_lt hh, ?_⟩
    rintro rfl
    have := h.box
    rw [hh] at this
    injection this with this
    injection this with _ this
    exact absurd this (by decide)

/-- All but the box and the row stays. -/
def Fr (p : Nat) (v : Value) (w w' : World) : Prop := w.heap.size ≤ w'.heap.size ∧ ∀ k, k < w.heap.size → k ≠ p → some k ≠ v.ownBlock → w'.heap[k]? = w.heap[k]?
theorem Fr.refl (p : Nat) (v : Value) (w : World) : Fr p v w w := ⟨Nat.le_refl _, fun _ _ _ _ => rfl⟩
theorem Fr.trans {p : Nat} {v : Value} {w w1 w2 : World} (h : Fr p v w w1) (h' : Fr p v w1 w2) : Fr p v w w2 :=
  ⟨Nat.le_trans h.1 h'.1, fun k hk h1 h2 => (h'.2 k (Nat.lt_of_lt_of_le hk h.1) h1 h2).trans (h.2 k hk h1 h2)⟩
theorem Fr.of_below {p : Nat} {v : Value} {w w1 : World} (h : Below w.heap.size w w1) : Fr p v w w1 := ⟨h.size, fun k hk _ _ => h.block k hk⟩

theorem len_any (p B : Nat) (v : Value) (L : List (Int × Int)) (w : World) (h : HS w B p v L) :
    Calls Try.prog 51 #[.pointer (some ⟨p, 0, none⟩)] w fun e w' => e = .returned (.int .i64 L.length) ∧ w = w' := by
  have hc := h.cell
  obtain ⟨A, c, rfl⟩ := own_slice h.row
  clear h
  go_enter Try.func51, Try.ntmps51
  go_wp2
  go_ret
  exact ⟨rfl, rfl⟩

theorem ahead_any (a x b y : Int) (w : World) :
    Calls Try.prog 127 #[.agg #[.int .i64 a, .int .i64 x], .agg #[.int .i64 b, .int .i64 y]] w fun e w' => e = .returned (.bool (ahd (a, x) (b, y))) ∧ Below w.heap.size w w' := by
  have hb : Below w.heap.size w ((w.alloc (.cells #[.int .i64 a, .int .i64 x] 64)).alloc (.cells #[.int .i64 b, .int .i64 y] 64)) := ((Below.refl _ w).alloc (Nat.le_refl _) _).alloc (by simp) _
  have HB := Lib.hid hb
  clear hb
  have HA := Lib.hid (show ahd (a, x) (b, y) = (decide (y < x) || (decide (x = y) && decide (a < b))) from rfl)
  by_cases c1 : y < x
  · go_enter Try.func127, Try.ntmps127
    go_wp2
    go_ret
    exact ⟨ret_b (by rw [HA.out]; simp; omega), HB.out⟩
  by_cases c2 : x = y
  · subst c2
    by_cases c3 : a < b
    · go_enter Try.func127, Try.ntmps127
      go_wp2
      go_ret
      exact ⟨ret_b (by rw [HA.out]; simp; omega), HB.out⟩
    · go_enter Try.func127, Try.ntmps127
      go_wp2
      go_ret
      exact ⟨ret_b (by rw [HA.out]; simp; omega), HB.out⟩
  · go_enter Try.func127, Try.ntmps127
    go_wp2
    go_ret
    exact ⟨ret_b (by rw [HA.out]; simp; omega), HB.out⟩

set_option maxRecDepth 100000 in
theorem less_any (p B i j : Nat) (v : Value) (L : List (Int × Int)) (w : World) (h : HS w B p v L) (hi : i < L.length) (hj : j < L.length) (hn : L.length ≤ 100000) :
    Calls Try.prog 123 #[.pointer (some ⟨p, 0, none⟩), .int .i64 i, .int .i64 j] w fun e w' => e = .returned (.bool (ahd (L.getD j (0, 0)) (L.getD i (0, 0)))) ∧ Below w.heap.size w w' := by
  have hc := h.cell
  obtain ⟨g, cap, rfl, hg, hg1, hg2⟩ := h.form (by omega)
  obtain ⟨c1, c2⟩ := rowP_at h.row i hi
  obtain ⟨c3, c4⟩ := rowP_at h.row j hj
  obtain ⟨⟨a, x⟩, hax⟩ : ∃ q, L.getD i (0, 0) = q := ⟨_, rfl⟩
  obtain ⟨⟨b, y⟩, hby⟩ : ∃ q, L.getD j (0, 0) = q := ⟨_, rfl⟩
  rw [hax] at c1 c2 ⊢
  rw [hby] at c3 c4 ⊢
  clear hax hby h
  go_enter Try.func123, Try.ntmps123
  go_wp2
  go_still_tail 12, (by kernel_rfl)
  change wpList _ _ _ _ _ w.drew
  go_wp2_with (go_at_call 127; refine (ahead_any _ _ _ _ _).mono ?_; rintro e w' ⟨rfl, hb⟩)
  go_ret
  exact ⟨rfl, below_then (below_drew (Below.refl _ w)) (by simp) hb⟩

theorem rowP_free {W : World} {B e g n cap : Nat} {L : List (Int × Int)} (h : W.ownsRow B e 2 (.slice (some ⟨g, 0, none⟩) n cap) L.length (cellsP L)) (k : Nat) : W.frozen? ⟨g, k, none⟩ = false := by
  rcases h.2 with ⟨h', _⟩ | ⟨g', cap', cur, h', _, hh, _⟩
  · cases h'
  · have : g = g' := by injection h' with h'; injection h' with h'; injection h' with h'
    subst this
    simp [World.frozen?, hh]

set_option maxRecDepth 100000 in
set_option maxHeartbeats 1000000 in
theorem swap_walk (p g i j n cap : Nat) (a x b y : Int) (w : World) (hc : w.cell? ⟨p, 0, none⟩ = some (.slice (some ⟨g, 0, none⟩) n cap)) (hi : i < n) (hj : j < n) (hn : n ≤ 100000)
    (c1 : w.cell? ⟨g, i * 2, none⟩ = some (.int .i64 a)) (c2 : w.cell? ⟨g, i * 2 + 1, none⟩ = some (.int .i64 x)) (c3 : w.cell? ⟨g, j * 2, none⟩ = some (.int .i64 b)) (c4 : w.cell? ⟨g, j * 2 + 1, none⟩ = some (.int .i64 y))
    (f1 : w.frozen? ⟨g, i * 2, none⟩ = false) (f2 : w.frozen? ⟨g, i * 2 + 1, none⟩ = false) (f3 : w.frozen? ⟨g, j * 2, none⟩ = false) (f4 : w.frozen? ⟨g, j * 2 + 1, none⟩ = false) (hgp : g ≠ p) (hij : i ≠ j) :
    Calls Try.prog 126 #[.pointer (some ⟨p, 0, none⟩), .int .i64 i, .int .i64 j] w fun e w' => e = .returned (.tuple #[]) ∧ ∃ q, w' = ((((w.setCell ⟨g, i * 2, none⟩ (.int .i64 b)).setCell ⟨g, i * 2 + 1, none⟩ (.int .i64 y)).setCell ⟨g, j * 2, none⟩ (.int .i64 a)).setCell ⟨g, j * 2 + 1, none⟩ (.int .i64 x)).drewN q := by
  go_enter Try.func126, Try.ntmps126
  go_wp2
  go_big_region
  go_end0
  exact ⟨rfl, ⟨_, rfl⟩⟩

set_option maxRecDepth 100000 in
set_option maxHeartbeats 1000000 in
theorem swap_same (p g i n cap : Nat) (a x : Int) (w : World) (hc : w.cell? ⟨p, 0, none⟩ = some (.slice (some ⟨g, 0, none⟩) n cap)) (hi : i < n) (hn : n ≤ 100000)
    (c1 : w.cell? ⟨g, i * 2, none⟩ = some (.int .i64 a)) (c2 : w.cell? ⟨g, i * 2 + 1, none⟩ = some (.int .i64 x))
    (f1 : w.frozen? ⟨g, i * 2, none⟩ = false) (f2 : w.frozen? ⟨g, i * 2 + 1, none⟩ = false) (hgp : g ≠ p) :
    Calls Try.prog 126 #[.pointer (some ⟨p, 0, none⟩), .int .i64 i, .int .i64 i] w fun e w' => e = .returned (.tuple #[]) ∧ ∃ q, w' = ((((w.setCell ⟨g, i * 2, none⟩ (.int .i64 a)).setCell ⟨g, i * 2 + 1, none⟩ (.int .i64 x)).setCell ⟨g, i * 2, none⟩ (.int .i64 a)).setCell ⟨g, i * 2 + 1, none⟩ (.int .i64 x)).drewN q := by
  go_enter Try.func126, Try.ntmps126
  go_wp2
  go_big_region
  go_end0
  exact ⟨rfl, ⟨_, rfl⟩⟩

theorem rowP_put {W : World} {B e g n cap : Nat} {L : List (Int × Int)} (h : W.ownsRow B e 2 (.slice (some ⟨g, 0, none⟩) n cap) L.length (cellsP L)) (hn : L.length = n) (i : Nat) (q : Int × Int) :
    ((W.setCell ⟨g, i * 2, none⟩ (.int .i64 q.1)).setCell ⟨g, i * 2 + 1, none⟩ (.int .i64 q.2)).ownsRow B e 2 (.slice (some ⟨g, 0, none⟩) n cap) (L.set i q).length (cellsP (L.set i q)) := by
  subst hn
  have h1 := (h.stored (i * 2) (.int .i64 q.1)).1
  have h2 := (h1.stored (i * 2 + 1) (.int .i64 q.2)).1
  rw [cellsP_set, List.length_set]
  exact h2

theorem swap_any (p B i j : Nat) (v : Value) (L : List (Int × Int)) (w : World) (h : HS w B p v L) (hi : i < L.length) (hj : j < L.length) (hn : L.length ≤ 100000) :
    Calls Try.prog 126 #[.pointer (some ⟨p, 0, none⟩), .int .i64 i, .int .i64 j] w fun e w' => e = .returned (.tuple #[]) ∧ HS w' B p v (swp L i j) ∧ Below B w w' ∧ Fr p v w w' := by
  have hc := h.cell
  obtain ⟨g, cap, rfl, hg, hg1, hg2⟩ := h.form (by omega)
  obtain ⟨c1, c2⟩ := rowP_at h.row i hi
  obtain ⟨c3, c4⟩ := rowP_at h.row j hj
  have fz := rowP_free h.row
  have key : ∀ q, HS (((((w.setCell ⟨g, i * 2, none⟩ (.int .i64 (L.getD j (0, 0)).1)).setCell ⟨g, i * 2 + 1, none⟩ (.int .i64 (L.getD j (0, 0)).2)).setCell ⟨g, j * 2, none⟩ (.int .i64 (L.getD i (0, 0)).1)).setCell ⟨g, j * 2 + 1, none⟩ (.int .i64 (L.getD i (0, 0)).2)).drewN q) B p (.slice (some ⟨g, 0, none⟩) L.length cap) (swp L i j) ∧ Below B w (((((w.setCell ⟨g, i * 2, none⟩ (.int .i64 (L.getD j (0, 0)).1)).setCell ⟨g, i * 2 + 1, none⟩ (.int .i64 (L.getD j (0, 0)).2)).setCell ⟨g, j * 2, none⟩ (.int .i64 (L.getD i (0, 0)).1)).setCell ⟨g, j * 2 + 1, none⟩ (.int .i64 (L.getD i (0, 0)).2)).drewN q) ∧ Fr p (.slice (some ⟨g, 0, none⟩) L.length cap) w (((((w.setCell ⟨g, i * 2, none⟩ (.int .i64 (L.getD j (0, 0)).1)).setCell ⟨g, i * 2 + 1, none⟩ (.int .i64 (L.getD j (0, 0)).2)).setCell ⟨g, j * 2, none⟩ (.int .i64 (L.getD i (0, 0)).1)).setCell ⟨g, j * 2 + 1, none⟩ (.int .i64 (L.getD i (0, 0)).2)).drewN q) := by
    intro q
    have r1 := rowP_put h.row rfl i (L.getD j (0, 0))
    have r2 := rowP_put r1 List.length_set j (L.getD i (0, 0))
    have b1 := (((Below.refl B w).setCell (p := ⟨g, i * 2, none⟩) hg (.int .i64 (L.getD j (0, 0)).1)).setCell (p := ⟨g, i * 2 + 1, none⟩) hg (.int .i64 (L.getD j (0, 0)).2))
    have b2 := ((b1.setCell (p := ⟨g, j * 2, none⟩) hg (.int .i64 (L.getD i (0, 0)).1)).setCell (p := ⟨g, j * 2 + 1, none⟩) hg (.int .i64 (L.getD i (0, 0)).2))
    have hp : p ≠ g := fun e => hg2 e.symm
    refine ⟨⟨?_, ?_, h.low⟩, pw_below_drewN b2 q, ?_⟩
    · exact blk_drewN (blk_far (blk_far (blk_far (blk_far h.box hp _) hp _) hp _) hp _) q
    · exact own_move r2 (fun _ _ => rfl)
    · refine ⟨by simp, fun k hk h1 h2 => ?_⟩
      have hkg : k ≠ g := fun e => h2 (by rw [e]; simp [Value.ownBlock])
      exact ((Below.heap_setCell _ ⟨g, j * 2 + 1, none⟩ _ k hkg).trans (Below.heap_setCell _ ⟨g, j * 2, none⟩ _ k hkg)).trans ((Below.heap_setCell _ ⟨g, i * 2 + 1, none⟩ _ k hkg).trans (Below.heap_setCell _ ⟨g, i * 2, none⟩ _ k hkg))
  by_cases e : i = j
  · subst e
    refine (swap_same p g i L.length cap _ _ w hc hi hn c1 c2 (fz _) (fz _) hg2).mono ?_
    rintro e w' ⟨rfl, q, rfl⟩
    exact ⟨rfl, key q⟩
  · refine (swap_walk p g i j L.length cap _ _ _ _ w hc hi hj hn c1 c2 c3 c4 (fz _) (fz _) (fz _) (fz _) hg2 e).mono ?_
    rintro e w' ⟨rfl, q, rfl⟩
    exact ⟨rfl, key q⟩

end Go.Proofs.Ytgedmelohiajjaa
