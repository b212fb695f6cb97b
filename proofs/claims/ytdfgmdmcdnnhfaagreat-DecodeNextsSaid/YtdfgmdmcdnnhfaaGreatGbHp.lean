/- Contracts of vec.places' methods; Contracts of vec.places' Pop and Push, and of container/heap; Contracts of container/heap over vec.places; The contract of vec.Top. -/
import Derived.Test.YtdfgmdmcdnnhfaaGreatGbVx
import Derived.Test.YtdfgmdmcdnnhfaaGreatGbHh
import Derived.Test.YtdfgmdmcdnnhfaaGreatProg
import Derived.Test.YtdfgmdmcdnnhfaaGreatGbB
import Derived.Test.YtdfgmdmcdnnhfaaGreatGbW
import Derived.Test.YtdfgmdmcdnnhfaaGreatWMore
import Derived.WalkKit
import Derived.KernelRfl
import Derived.Tactics
import Derived.OwnWalk
import Derived.BigQuiet
import Derived.Deep.QuietTactic
import Derived.Lib.Hide
import Derived.Outline
import Derived.StillTailTactics
import Derived.BigRegion
import Derived.Deep.RegionLaw
import Derived.Shelf.Abstract
import Derived.WalkSpells
import Derived.OneCell
namespace Go.Proofs.YtdfgmdmcdnnhfaaGreat
open Go.RowKit Go.Shelf Go.Proofs.YtdfgmdmcdnnhfaaGreatW.PrintWords Go.Proofs.YtdfgmdmcdnnhfaaGreatW.PrintLast Go.Proofs.YtdfgmdmcdnnhfaaGreatW.PrintMore
set_option linter.unusedVariables false
set_option linter.unusedSimpArgs false
set_option maxRecDepth 100000
attribute [local go_sem] gb_max2 gb_min2 gb_max_two gb_min_two gb_max_three gb_min_three

/-- The box of a heap, and its row. -/
structure HS (W : World) (B p : Nat) (v : Value) (L : List (Int × Int)) : Prop where
  box : W.heap[p]? = some (.cells #[v] 130 (0, 0))
  row : W.ownsRow B 133 2 v L.length (cellsP L)
  low : B ≤ p

theorem HS.cell {W : World} {B p : Nat} {v : Value} {L : List (Int × Int)} (h : HS W B p v L) : W.cell? ⟨p, 0, none⟩ = some v := by
  rw [blk_cell h.box]; rfl
theorem HS.free {W : World} {B p : Nat} {v : Value} {L : List (Int × Int)} (h : HS W B p v L) : W.frozen? ⟨p, 0, none⟩ = false := blk_frozen h.box 0
theorem HS.below {W W' : World} {B p : Nat} {v : Value} {L : List (Int × Int)} (h : HS W B p v L) (hb : Below W.heap.size W W') : HS W' B p v L :=
  ⟨(hb.block p (blk_lt h.box)).trans h.box, pw_own_below h.row hb, h.low⟩
theorem HS.form {W : World} {B p : Nat} {v : Value} {L : List (Int × Int)} (h : HS W B p v L) (hp : 0 < L.length) : ∃ g cap, v = .slice (some ⟨g, 0, none⟩) L.length cap ∧ B ≤ g ∧ g < W.heap.size ∧ g ≠ p := by
  rcases h.row.2 with ⟨h1, h2⟩ | ⟨g, cap, cur, rfl, hg, hh, r⟩
  · omega
  · refine ⟨g, cap, rfl, hg, blk_lt hh, ?_⟩
    rintro rfl
    have := h.box
    rw [hh] at this
    injection this with this
    injection this with _ this
    exact absurd this (by decide)

/-- All but the box and the row stays. -/
def Fr (p : Nat) (v : Value) (w w' : World) : Prop := w.heap.size ≤ w'.heap.size ∧ ∀ k, k < w.heap.size → k ≠ p → some k ≠ v.ownBlock → w'.heap[k]? = w.heap[k]?
theorem Fr.refl (p : Nat) (v : Value) (w : World) : Fr p v w w := ⟨Nat.le_refl _, fun _ _ _ _ => rfl⟩
theorem Fr.trans {p : Nat} {v : Value} {w w1 w2 : World} (h : Fr p v w w1) (h' : Fr p v w1 w2) : Fr p v w w2 :=
  ⟨Nat.le_trans h.1 h'.1, fun k hk h1 h2 => (h'.2 k (Nat.lt_of_lt_of_le hk h.1) h1 h2).trans (h.2 k hk h1 h2)⟩
theorem Fr.of_below {p : Nat} {v : Value} {w w1 : World} (h : Below w.heap.size w w1) : Fr p v w w1 := ⟨h.size, fun k hk _ _ => h.block k hk⟩

theorem len_any (p B : Nat) (v : Value) (L : List (Int × Int)) (w : World) (h : HS w B p v L) :
    Calls Tryz.prog 105 #[.pointer (some ⟨p, 0, none⟩)] w fun e w' => e = .returned (.int .i64 L.length) ∧ w = w' := by
  have hc := h.cell
  obtain ⟨A, c, rfl⟩ := own_slice h.row
  clear h
  go_enter Tryz.func105, Tryz.ntmps105
  go_wp2
  go_ret
  exact ⟨rfl, rfl⟩

theorem ahead_any (a x b y : Int) (w : World) :
    Calls Tryz.prog 148 #[.agg #[.int .i64 a, .int .i64 x], .agg #[.int .i64 b, .int .i64 y]] w fun e w' => e = .returned (.bool (ahd (a, x) (b, y))) ∧ Below w.heap.size w w' := by
  have hb : Below w.heap.size w ((w.alloc (.cells #[.int .i64 a, .int .i64 x] 133)).alloc (.cells #[.int .i64 b, .int .i64 y] 133)) := ((Below.refl _ w).alloc (Nat.le_refl _) _).alloc (by simp) _
  have HB := Lib.hid hb
  clear hb
  have HA := Lib.hid (show ahd (a, x) (b, y) = (decide (y < x) || (decide (x = y) && decide (a < b))) from rfl)
  by_cases c1 : y < x
  · go_enter Tryz.func148, Tryz.ntmps148
    go_wp2
    go_ret
    exact ⟨ret_b (by rw [HA.out]; simp; omega), HB.out⟩
  by_cases c2 : x = y
  · subst c2
    by_cases c3 : a < b
    · go_enter Tryz.func148, Tryz.ntmps148
      go_wp2
      go_ret
      exact ⟨ret_b (by rw [HA.out]; simp; omega), HB.out⟩
    · go_enter Tryz.func148, Tryz.ntmps148
      go_wp2
      go_ret
      exact ⟨ret_b (by rw [HA.out]; simp; omega), HB.out⟩
  · go_enter Tryz.func148, Tryz.ntmps148
    go_wp2
    go_ret
    exact ⟨ret_b (by rw [HA.out]; simp; omega), HB.out⟩

set_option maxRecDepth 100000 in
theorem less_any (p B i j : Nat) (v : Value) (L : List (Int × Int)) (w : World) (h : HS w B p v L) (hi : i < L.length) (hj : j < L.length) (hn : L.length ≤ 100000) :
    Calls Tryz.prog 144 #[.pointer (some ⟨p, 0, none⟩), .int .i64 i, .int .i64 j] w fun e w' => e = .returned (.bool (ahd (L.getD j (0, 0)) (L.getD i (0, 0)))) ∧ Below w.heap.size w w' := by
  have hc := h.cell
  obtain ⟨g, cap, rfl, hg, hg1, hg2⟩ := h.form (by omega)
  obtain ⟨c1, c2⟩ := rowP_at h.row i hi
  obtain ⟨c3, c4⟩ := rowP_at h.row j hj
  obtain ⟨⟨a, x⟩, hax⟩ : ∃ q, L.getD i (0, 0) = q := ⟨_, rfl⟩
  obtain ⟨⟨b, y⟩, hby⟩ : ∃ q, L.getD j (0, 0) = q := ⟨_, rfl⟩
  rw [hax] at c1 c2 ⊢
  rw [hby] at c3 c4 ⊢
  clear hax hby h
  go_enter Tryz.func144, Tryz.ntmps144
  go_wp2
  go_still_tail 12, (by kernel_rfl)
  change wpList _ _ _ _ _ w.drew
  go_wp2_with (go_at_call 148; refine (ahead_any _ _ _ _ _).mono ?_; rintro e w' ⟨rfl, hb⟩)
  go_ret
  exact ⟨rfl, below_then (below_drew (Below.refl _ w)) (by simp) hb⟩

theorem rowP_free {W : World} {B e g n cap : Nat} {L : List (Int × Int)} (h : W.ownsRow B e 2 (.slice (some ⟨g, 0, none⟩) n cap) L.length (cellsP L)) (k : Nat) : W.frozen? ⟨g, k, none⟩ = false := by
  rcases h.2 with ⟨h', _⟩ | ⟨g', cap', cur, h', _, hh, _⟩
  · cases h'
  · have : g = g' := by injection h' with h'; injection h' with h'; injection h' with h'
    subst this
    simp [World.frozen?, hh]

set_option maxRecDepth 100000 in
set_option maxHeartbeats 1000000 in
theorem swap_walk (p g i j n cap : Nat) (a x b y : Int) (w : World) (hc : w.cell? ⟨p, 0, none⟩ = some (.slice (some ⟨g, 0, none⟩) n cap)) (hi : i < n) (hj : j < n) (hn : n ≤ 100000)
    (c1 : w.cell? ⟨g, i * 2, none⟩ = some (.int .i64 a)) (c2 : w.cell? ⟨g, i * 2 + 1, none⟩ = some (.int .i64 x)) (c3 : w.cell? ⟨g, j * 2, none⟩ = some (.int .i64 b)) (c4 : w.cell? ⟨g, j * 2 + 1, none⟩ = some (.int .i64 y))
    (f1 : w.frozen? ⟨g, i * 2, none⟩ = false) (f2 : w.frozen? ⟨g, i * 2 + 1, none⟩ = false) (f3 : w.frozen? ⟨g, j * 2, none⟩ = false) (f4 : w.frozen? ⟨g, j * 2 + 1, none⟩ = false) (hgp : g ≠ p) (hij : i ≠ j) :
    Calls Tryz.prog 147 #[.pointer (some ⟨p, 0, none⟩), .int .i64 i, .int .i64 j] w fun e w' => e = .returned (.tuple #[]) ∧ ∃ q, w' = ((((w.setCell ⟨g, i * 2, none⟩ (.int .i64 b)).setCell ⟨g, i * 2 + 1, none⟩ (.int .i64 y)).setCell ⟨g, j * 2, none⟩ (.int .i64 a)).setCell ⟨g, j * 2 + 1, none⟩ (.int .i64 x)).drewN q := by
  go_enter Tryz.func147, Tryz.ntmps147
  go_wp2
  go_big_region
  go_end0
  exact ⟨rfl, ⟨_, rfl⟩⟩

set_option maxRecDepth 100000 in
set_option maxHeartbeats 1000000 in
theorem swap_same (p g i n cap : Nat) (a x : Int) (w : World) (hc : w.cell? ⟨p, 0, none⟩ = some (.slice (some ⟨g, 0, none⟩) n cap)) (hi : i < n) (hn : n ≤ 100000)
    (c1 : w.cell? ⟨g, i * 2, none⟩ = some (.int .i64 a)) (c2 : w.cell? ⟨g, i * 2 + 1, none⟩ = some (.int .i64 x))
    (f1 : w.frozen? ⟨g, i * 2, none⟩ = false) (f2 : w.frozen? ⟨g, i * 2 + 1, none⟩ = false) (hgp : g ≠ p) :
    Calls Tryz.prog 147 #[.pointer (some ⟨p, 0, none⟩), .int .i64 i, .int .i64 i] w fun e w' => e = .returned (.tuple #[]) ∧ ∃ q, w' = ((((w.setCell ⟨g, i * 2, none⟩ (.int .i64 a)).setCell ⟨g, i * 2 + 1, none⟩ (.int .i64 x)).setCell ⟨g, i * 2, none⟩ (.int .i64 a)).setCell ⟨g, i * 2 + 1, none⟩ (.int .i64 x)).drewN q := by
  go_enter Tryz.func147, Tryz.ntmps147
  go_wp2
  go_big_region
  go_end0
  exact ⟨rfl, ⟨_, rfl⟩⟩

theorem rowP_put {W : World} {B e g n cap : Nat} {L : List (Int × Int)} (h : W.ownsRow B e 2 (.slice (some ⟨g, 0, none⟩) n cap) L.length (cellsP L)) (hn : L.length = n) (i : Nat) (q : Int × Int) :
    ((W.setCell ⟨g, i * 2, none⟩ (.int .i64 q.1)).setCell ⟨g, i * 2 + 1, none⟩ (.int .i64 q.2)).ownsRow B e 2 (.slice (some ⟨g, 0, none⟩) n cap) (L.set i q).length (cellsP (L.set i q)) := by
  subst hn
  have h1 := (h.stored (i * 2) (.int .i64 q.1)).1
  have h2 := (h1.stored (i * 2 + 1) (.int .i64 q.2)).1
  rw [cellsP_set, List.length_set]
  exact h2

theorem swap_any (p B i j : Nat) (v : Value) (L : List (Int × Int)) (w : World) (h : HS w B p v L) (hi : i < L.length) (hj : j < L.length) (hn : L.length ≤ 100000) :
    Calls Tryz.prog 147 #[.pointer (some ⟨p, 0, none⟩), .int .i64 i, .int .i64 j] w fun e w' => e = .returned (.tuple #[]) ∧ HS w' B p v (swp L i j) ∧ Below B w w' ∧ Fr p v w w' := by
  have hc := h.cell
  obtain ⟨g, cap, rfl, hg, hg1, hg2⟩ := h.form (by omega)
  obtain ⟨c1, c2⟩ := rowP_at h.row i hi
  obtain ⟨c3, c4⟩ := rowP_at h.row j hj
  have fz := rowP_free h.row
  have key : ∀ q, HS (((((w.setCell ⟨g, i * 2, none⟩ (.int .i64 (L.getD j (0, 0)).1)).setCell ⟨g, i * 2 + 1, none⟩ (.int .i64 (L.getD j (0, 0)).2)).setCell ⟨g, j * 2, none⟩ (.int .i64 (L.getD i (0, 0)).1)).setCell ⟨g, j * 2 + 1, none⟩ (.int .i64 (L.getD i (0, 0)).2)).drewN q) B p (.slice (some ⟨g, 0, none⟩) L.length cap) (swp L i j) ∧ Below B w (((((w.setCell ⟨g, i * 2, none⟩ (.int .i64 (L.getD j (0, 0)).1)).setCell ⟨g, i * 2 + 1, none⟩ (.int .i64 (L.getD j (0, 0)).2)).setCell ⟨g, j * 2, none⟩ (.int .i64 (L.getD i (0, 0)).1)).setCell ⟨g, j * 2 + 1, none⟩ (.int .i64 (L.getD i (0, 0)).2)).drewN q) ∧ Fr p (.slice (some ⟨g, 0, none⟩) L.length cap) w (((((w.setCell ⟨g, i * 2, none⟩ (.int .i64 (L.getD j (0, 0)).1)).setCell ⟨g, i * 2 + 1, none⟩ (.int .i64 (L.getD j (0, 0)).2)).setCell ⟨g, j * 2, none⟩ (.int .i64 (L.getD i (0, 0)).1)).setCell ⟨g, j * 2 + 1, none⟩ (.int .i64 (L.getD i (0, 0)).2)).drewN q) := by
    intro q
    have r1 := rowP_put h.row rfl i (L.getD j (0, 0))
    have r2 := rowP_put r1 List.length_set j (L.getD i (0, 0))
    have b1 := (((Below.refl B w).setCell (p := ⟨g, i * 2, none⟩) hg (.int .i64 (L.getD j (0, 0)).1)).setCell (p := ⟨g, i * 2 + 1, none⟩) hg (.int .i64 (L.getD j (0, 0)).2))
    have b2 := ((b1.setCell (p := ⟨g, j * 2, none⟩) hg (.int .i64 (L.getD i (0, 0)).1)).setCell (p := ⟨g, j * 2 + 1, none⟩) hg (.int .i64 (L.getD i (0, 0)).2))
    have hp : p ≠ g := fun e => hg2 e.symm
    refine ⟨⟨?_, ?_, h.low⟩, pw_below_drewN b2 q, ?_⟩
    · exact blk_drewN (blk_far (blk_far (blk_far (blk_far h.box hp _) hp _) hp _) hp _) q
    · exact own_move r2 (fun _ _ => rfl)
    · refine ⟨by simp, fun k hk h1 h2 => ?_⟩
      have hkg : k ≠ g := fun e => h2 (by rw [e]; simp [Value.ownBlock])
      exact ((Below.heap_setCell _ ⟨g, j * 2 + 1, none⟩ _ k hkg).trans (Below.heap_setCell _ ⟨g, j * 2, none⟩ _ k hkg)).trans ((Below.heap_setCell _ ⟨g, i * 2 + 1, none⟩ _ k hkg).trans (Below.heap_setCell _ ⟨g, i * 2, none⟩ _ k hkg))
  by_cases e : i = j
  · subst e
    refine (swap_same p g i L.length cap _ _ w hc hi hn c1 c2 (fz _) (fz _) hg2).mono ?_
    rintro e w' ⟨rfl, q, rfl⟩
    exact ⟨rfl, key q⟩
  · refine (swap_walk p g i j L.length cap _ _ _ _ w hc hi hj hn c1 c2 c3 c4 (fz _) (fz _) (fz _) (fz _) hg2 e).mono ?_
    rintro e w' ⟨rfl, q, rfl⟩
    exact ⟨rfl, key q⟩

end Go.Proofs.YtdfgmdmcdnnhfaaGreat

namespace Go.Proofs.YtdfgmdmcdnnhfaaGreat
open Go.RowKit Go.Shelf Go.Proofs.YtdfgmdmcdnnhfaaGreatW.PrintWords Go.Proofs.YtdfgmdmcdnnhfaaGreatW.PrintLast Go.Proofs.YtdfgmdmcdnnhfaaGreatW.PrintMore
set_option linter.unusedVariables false
set_option linter.unusedSimpArgs false
set_option maxRecDepth 100000
attribute [local go_sem] gb_max2 gb_min2 gb_max_two gb_min_two gb_max_three gb_min_three

set_option maxRecDepth 100000 in
theorem popm_walk (p g m cap : Nat) (a x : Int) (w : World) (hp : p < w.heap.size) (hc : w.cell? ⟨p, 0, none⟩ = some (.slice (some ⟨g, 0, none⟩) (m + 1) cap)) (hf : w.frozen? ⟨p, 0, none⟩ = false) (hm : m + 1 ≤ cap) (hn : m ≤ 100000)
    (c1 : w.cell? ⟨g, m * 2, none⟩ = some (.int .i64 a)) (c2 : w.cell? ⟨g, m * 2 + 1, none⟩ = some (.int .i64 x)) :
    Calls Tryz.prog 145 #[.pointer (some ⟨p, 0, none⟩)] w fun e w' => e = .returned (.iface 133 (.agg #[.int .i64 a, .int .i64 x])) ∧ w' = (w.setCell ⟨p, 0, none⟩ (.slice (some ⟨g, 0, none⟩) m cap)).alloc (.cells #[.int .i64 a, .int .i64 x] 133) := by
  go_enter Tryz.func145, Tryz.ntmps145
  go_wp2
  go_ret
  exact ⟨rfl, rfl⟩

theorem take_last {α : Type} (L : List α) (m k : Nat) (h : L.length = m) (hk : k ≤ m) : (L.take k).length = k := by rw [List.length_take]; omega
theorem cellsP_take (L : List (Int × Int)) : ∀ k, cellsP (L.take k) = (cellsP L).take (k * 2) := by
  induction L with
  | nil => intro k; simp [cellsP]
  | cons p L ih =>
    intro k
    cases k with
    | zero => simp [cellsP]
    | succ k =>
      have e1 : (k + 1) * 2 = k * 2 + 2 := by omega
      rw [e1]
      have := ih k
      simp only [cellsP, List.take_succ_cons, List.flatMap_cons] at this ⊢
      rw [this]; rfl

theorem popm_any (p B : Nat) (v : Value) (L : List (Int × Int)) (w : World) (h : HS w B p v L) (hp : 0 < L.length) (hn : L.length ≤ 100000) :
    Calls Tryz.prog 145 #[.pointer (some ⟨p, 0, none⟩)] w fun e w' => ∃ v', e = .returned (.iface 133 (.agg #[.int .i64 (L.getD (L.length - 1) (0, 0)).1, .int .i64 (L.getD (L.length - 1) (0, 0)).2])) ∧ HS w' B p v' (L.take (L.length - 1)) ∧ Below B w w' ∧ Fr p v w w' ∧ v'.ownBlock = v.ownBlock := by
  have hc := h.cell
  obtain ⟨g, cap, rfl, hg, hg1, hg2⟩ := h.form hp
  obtain ⟨m, hm⟩ : ∃ m, L.length = m + 1 := ⟨L.length - 1, by omega⟩
  obtain ⟨c1, c2⟩ := rowP_at h.row m (by omega)
  have hcap : m + 1 ≤ cap := by
    rcases h.row.2 with ⟨h', _⟩ | ⟨g', cap', cur, h', _, hh, r, _⟩
    · cases h'
    · injection h' with _ _ h'; subst h'; omega
  rw [hm, show m + 1 - 1 = m by omega]
  rw [hm] at hc
  refine (popm_walk p g m cap _ _ w (blk_lt h.box) hc h.free hcap (by omega) c1 c2).mono ?_
  rintro e w' ⟨rfl, rfl⟩
  refine ⟨.slice (some ⟨g, 0, none⟩) m cap, rfl, ⟨?_, ?_, h.low⟩, ((Below.refl B w).setCell (p := ⟨p, 0, none⟩) h.low _).alloc (by have := blk_lt h.box; have := h.low; simp; omega) _, ⟨by simp, fun k hk h1 h2 => (Below.heap_alloc _ _ k (by simpa using hk)).trans (Below.heap_setCell w _ _ k h1)⟩, rfl⟩
  · refine blk_alloc (one_setCell h.box) _
  · have hr : w.ownsRow B 133 2 (.slice (some ⟨g, 0, none⟩) m cap) m (cellsP (L.take m)) := by
      rcases h.row with ⟨q1, ⟨h', _⟩ | ⟨g', cap', cur, h', r1, r2, r3, r4, r5, r6⟩⟩
      · cases h'
      · injection h' with q2 q3 q4
        injection q2 with q2
        injection q2 with q2
        subst q2 q4
        refine ⟨by rw [cellsP_len, take_last L (m + 1) m hm (by omega)], .inr ⟨g, cap, cur, rfl, r1, r2, by omega, r4, r5, ?_⟩⟩
        rw [cellsP_take, ← r6, List.take_take, hm]
        congr 1; omega
    rw [take_last L (m + 1) m hm (by omega)]
    exact own_move hr (fun k hk => by
      have : k = g := by simpa [Value.ownBlock] using hk.symm
      subst this
      exact (Below.heap_alloc _ _ k (by simpa using hg1)).trans (Below.heap_setCell w _ _ k hg2))

theorem infoPlace : (Tryz.prog.info? 133).map (fun i => (i.zero, i.size, i.bytes)) = some (some (.agg #[.int .i64 0, .int .i64 0]), 2, 16) := by kernel_rfl
theorem assert_place (v : Value) (w : World) : (Instr.typeAssert (.iface 133 v) 20 133 true).run Tryz.prog w = .ok (.tuple #[v, .bool true]) w := by kernel_rfl

theorem row_ne {W : World} {B p n : Nat} {v : Value} {xs : List Value} {cs : Array Value} (hb : W.heap[p]? = some (.cells cs 130 (0, 0))) (hr : W.ownsRow B 133 2 v n xs) : some p ≠ v.ownBlock := by
  rcases hr.2 with ⟨h1, _⟩ | ⟨g, cap, cur, h1, hg, hh, r⟩
  · rw [h1]; simp [Value.ownBlock]
  · rw [h1]
    intro e
    have e2 : p = g := by simpa [Value.ownBlock] using e
    subst e2
    rw [hh] at hb
    injection hb with hb
    injection hb with _ hb
    exact absurd hb (by decide)
theorem push_box {W w1 : World} {B p : Nat} {v : Value} {L : List (Int × Int)} (h : HS W B p v L) (hg : W.drew.grownBy w1 v.ownBlock) : w1.heap[p]? = some (.cells #[v] 130 (0, 0)) ∧ w1.cell? ⟨p, 0, none⟩ = some v ∧ w1.frozen? ⟨p, 0, none⟩ = false := by
  have hb := (hg.block p (blk_lt h.box) (row_ne h.box h.row)).trans h.box
  exact ⟨hb, by rw [blk_cell hb]; rfl, blk_frozen hb 0⟩
theorem cellsP_snoc (L : List (Int × Int)) (a x : Int) : cellsP (L ++ [(a, x)]) = cellsP L ++ [.int .i64 a, .int .i64 x] := by simp [cellsP]

set_option maxRecDepth 100000 in
theorem pushm_walk (p B : Nat) (v : Value) (L : List (Int × Int)) (a x : Int) (w : World) (h : HS w B p v L) (hn : L.length ≤ 100000) :
    Calls Tryz.prog 146 #[.pointer (some ⟨p, 0, none⟩), .iface 133 (.agg #[.int .i64 a, .int .i64 x])] w fun e w' => ∃ v', e = .returned (.tuple #[]) ∧ HS w' B p v' (L ++ [(a, x)]) ∧ Below B w w' := by
  have hc := h.cell
  have hf := h.free
  have HH := Lib.hid h
  have hlt := blk_lt h.box
  have hta := assert_place
  clear h
  go_enter Tryz.func146, Tryz.ntmps146
  go_wp2
  obtain ⟨W1, hW1⟩ : ∃ W1, w.alloc (Obj.cells #[Value.int IntKind.i64 a, Value.int IntKind.i64 x] 133) = W1 := ⟨_, rfl⟩
  have hs1 : W1.heap.size = w.heap.size + 1 := by rw [← hW1]; simp
  have HH1 := Lib.hid (show HS W1 B p v L by rw [← hW1]; exact HH.out.below (below_alloc (Below.refl _ w) _))
  have HB1 := Lib.hid (show Below w.heap.size w W1 by rw [← hW1]; exact below_alloc (Below.refl _ w) _)
  have d0 : W1.cell? ⟨w.heap.size, 0, none⟩ = some (.int .i64 a) := by rw [← hW1]; simp
  have d1 : W1.cell? ⟨w.heap.size, 1, none⟩ = some (.int .i64 x) := by rw [← hW1]; simp
  rw [hW1]
  clear hc hf hW1
  have hc1 := HH1.out.cell
  go_region_law (refine step_append_cells (w0 := w) (W := W1.drew) B rfl _ _ 130 133 (.agg #[.int .i64 0, .int .i64 0]) 2 16 rfl Tryz.underlying130 infoPlace rfl (by decide) (by decide) v L.length (cellsP L) [.int .i64 a, .int .i64 x] rfl (by simp [Act.eval, hs1]) rfl (by simp [Value.oneCell']) (own_move HH1.out.row (fun _ _ => rfl)) (below_drew (HB1.out.mono (by have := HH.out.low; omega))) (by simp; have := HH.out.low; omega) (by omega) ?_; intro v1 w1 hr hb hg hat; obtain ⟨A1, k1, rfl⟩ := own_slice hr; obtain ⟨hbx, hcx, hfx⟩ := push_box HH1.out hg; have HBX := Lib.hid hbx; have HR := Lib.hid hr; have HB2 := Lib.hid hb; clear hr hb hg hat hbx)
  all_goals
    go_end0
    refine ⟨_, rfl, ⟨one_setCell HBX.out, ?_, HH.out.low⟩, HB2.out.setCell (p := ⟨p, 0, none⟩) HH.out.low _⟩
    rw [cellsP_snoc]
    have := HR.out
    rw [List.length_append]
    exact own_setCell HR.out (row_ne HBX.out HR.out) _

end Go.Proofs.YtdfgmdmcdnnhfaaGreat

namespace Go.Proofs.YtdfgmdmcdnnhfaaGreat
open Go.RowKit Go.Shelf Go.Proofs.YtdfgmdmcdnnhfaaGreatW.PrintWords Go.Proofs.YtdfgmdmcdnnhfaaGreatW.PrintLast Go.Proofs.YtdfgmdmcdnnhfaaGreatW.PrintMore
set_option linter.unusedVariables false
set_option linter.unusedSimpArgs false
set_option maxRecDepth 100000
attribute [local go_sem] gb_max2 gb_min2 gb_max_two gb_min_two gb_max_three gb_min_three

theorem meth_Len (a : Addr) (w : World) : (method 224 128 (.pointer (some a)) "Len").run Tryz.prog w = .ok (105, .pointer (some a)) w := by kernel_rfl
theorem meth_Less (a : Addr) (w : World) : (method 224 128 (.pointer (some a)) "Less").run Tryz.prog w = .ok (144, .pointer (some a)) w := by kernel_rfl
theorem meth_Pop (a : Addr) (w : World) : (method 224 128 (.pointer (some a)) "Pop").run Tryz.prog w = .ok (145, .pointer (some a)) w := by kernel_rfl
theorem meth_Push (a : Addr) (w : World) : (method 224 128 (.pointer (some a)) "Push").run Tryz.prog w = .ok (146, .pointer (some a)) w := by kernel_rfl
theorem meth_Swap (a : Addr) (w : World) : (method 224 128 (.pointer (some a)) "Swap").run Tryz.prog w = .ok (147, .pointer (some a)) w := by kernel_rfl

/-- What a heap's function does: the box stays, its row becomes another. -/
def HeapR (B p : Nat) (w : World) (L' : List (Int × Int)) (e : Ending) (w' : World) : Prop := ∃ v', e = .returned (.tuple #[]) ∧ HS w' B p v' L' ∧ Below B w w'

theorem up_any (j : Nat) : ∀ (p B : Nat) (v : Value) (L : List (Int × Int)) (w : World), HS w B p v L → j < L.length → L.length ≤ 100000 →
    Calls Tryz.prog 121 #[.iface 128 (.pointer (some ⟨p, 0, none⟩)), .int .i64 j] w (HeapR B p w (hup L j)) := by
  intro p B v L w h hj hn
  have m1 := meth_Less
  have m2 := meth_Swap
  have HH := Lib.hid h
  obtain ⟨R, hR⟩ : ∃ R, hup L j = R := ⟨_, rfl⟩
  rw [hR]
  have HL := Lib.hid hR
  have hlow := h.low
  have hBs : B ≤ w.heap.size := by have := blk_lt h.box; omega
  clear h hR
  go_enter Tryz.func121, Tryz.ntmps121
  go_wp2_with fail
  go_loopw [1] (fun s wr => ∃ (k : Nat) (L1 : List (Int × Int)), s = .int .i64 k ∧ k < L1.length ∧ L1.length = L.length ∧ HS wr B p v L1 ∧ Below B w wr ∧ Hid (hup L1 k = R)) (fun s _ => (intOf s).toNat)
  case atStart => exact ⟨j, L, rfl, hj, rfl, HH.out, Below.refl _ _, HL⟩
  case round =>
    obtain ⟨k, L1, rfl, hk, hl1, hs, hb, hup1⟩ := hrel
    have HS1 := Lib.hid hs
    have HB1 := Lib.hid hb
    have HN1 := Lib.hid (show L1.length ≤ 100000 by omega)
    have HL1 := Lib.hid hl1
    have hBr : B ≤ wr.heap.size := by have := blk_lt hs.box; have := hs.low; omega
    have hk9 : k ≤ 100000 := by omega
    clear hs hb HL hl1
    by_cases h0 : k = 0
    · subst h0
      have e1 := Lib.hid (show hup L1 0 = L1 by unfold hup; simp)
      go_wp2
      go_end0
      exact ⟨v, rfl, by rw [← hup1.out, e1.out]; exact HS1.out, HB1.out⟩
    · obtain ⟨i, hi⟩ : ∃ i, (k - 1) / 2 = i := ⟨_, rfl⟩
      have hik : i < k := by omega
      have z1 : ((k : Int) - 1) / 2 = (i : Int) := by omega
      have z2 : ((i : Int) == (k : Int)) = false := by simp; omega
      obtain ⟨b, hb⟩ : ∃ b, ahd (L1.getD i (0, 0)) (L1.getD k (0, 0)) = b := ⟨_, rfl⟩
      have HU := Lib.hid (show hup L1 k = if b = true then hup (swp L1 i k) i else L1 by rw [hup, dif_neg h0, hi, hb])
      have HA := Lib.hid hb
      clear hi hb
      go_wp2_with fail
      refine (less_any p B k i v L1 wr HS1.out hk (by omega) HN1.out).mono ?_
      rw [HA.out]
      rintro e w2 ⟨rfl, hb2⟩
      have HS2 := Lib.hid (HS1.out.below hb2)
      have HB2 := Lib.hid (HB1.out.trans (hb2.mono hBr))
      have hBr2 : B ≤ w2.heap.size := Nat.le_trans hBr hb2.size
      clear hb2
      cases b with
      | false =>
        go_wp2_with fail
        go_end0
        exact ⟨v, rfl, by rw [← hup1.out, HU.out]; exact HS2.out, HB2.out⟩
      | true =>
        go_wp2_with fail
        refine (swap_any p B i k v L1 w2 HS2.out (by omega) hk HN1.out).mono ?_
        rintro e w3 ⟨rfl, hs3, hb3, -⟩
        have HS3 := Lib.hid hs3
        have HB3 := Lib.hid (HB2.out.trans hb3)
        clear hs3 hb3
        go_wp2_with fail
        go_roundw
        case rel => exact ⟨i, swp L1 i k, rfl, by rw [swp_len]; omega, by rw [swp_len, HL1.out], HS3.out, HB3.out, Lib.hid (by rw [← hup1.out, HU.out]; rfl)⟩
        case measure => simp [intOf]; omega

def DownR (B p : Nat) (v : Value) (w : World) (L' : List (Int × Int)) (e : Ending) (w' : World) : Prop := (∃ b, e = .returned (.bool b)) ∧ HS w' B p v L' ∧ Below B w w' ∧ Fr p v w w'

set_option maxHeartbeats 2000000 in
theorem down_any (i n : Nat) : ∀ (p B : Nat) (v : Value) (L : List (Int × Int)) (w : World), HS w B p v L → n ≤ L.length → L.length ≤ 100000 → i ≤ 100000 →
    Calls Tryz.prog 122 #[.iface 128 (.pointer (some ⟨p, 0, none⟩)), .int .i64 i, .int .i64 n] w (DownR B p v w (hdown L i n)) := by
  intro p B v L w h hj hn hi9
  have m1 := meth_Less
  have m2 := meth_Swap
  have HH := Lib.hid h
  obtain ⟨R, hR⟩ : ∃ R, hdown L i n = R := ⟨_, rfl⟩
  rw [hR]
  have HL := Lib.hid hR
  have hlow := h.low
  have hBs : B ≤ w.heap.size := by have := blk_lt h.box; omega
  clear h hR
  go_enter Tryz.func122, Tryz.ntmps122
  go_wp2_with fail
  go_loopw [7] (fun s wr => ∃ (k : Nat) (L1 : List (Int × Int)), s = .int .i64 k ∧ k ≤ 100000 ∧ L1.length = L.length ∧ HS wr B p v L1 ∧ Below B w wr ∧ Hid (hdown L1 k n = R) ∧ Fr p v w wr) (fun s _ => 100000 - (intOf s).toNat)
  case atStart => exact ⟨i, L, rfl, hi9, rfl, HH.out, Below.refl _ _, HL, Fr.refl _ _ _⟩
  case round =>
    obtain ⟨k, L1, rfl, hk, hl1, hs, hb, hup1, hfr⟩ := hrel
    have HF1 := Lib.hid hfr
    clear hfr
    have HS1 := Lib.hid hs
    have HB1 := Lib.hid hb
    have hj1 : n ≤ L1.length := by omega
    have HN1 := Lib.hid (show L1.length ≤ 100000 by omega)
    have HL1 := Lib.hid hl1
    have hBr : B ≤ wr.heap.size := by have := blk_lt hs.box; have := hs.low; omega
    clear hs hb HL hl1
    by_cases h0 : n ≤ 2 * k + 1
    · have e1 := Lib.hid (show hdown L1 k n = L1 by rw [hdown, dif_pos h0])
      go_wp2
      go_ret
      exact ⟨⟨_, rfl⟩, by rw [← hup1.out, e1.out]; exact HS1.out, HB1.out, HF1.out⟩
    · have q1 : 2 * k + 1 < n := by omega
      obtain ⟨b, hb⟩ : ∃ b, ahd (L1.getD (2 * k + 1) (0, 0)) (L1.getD (2 * k + 2) (0, 0)) = b := ⟨_, rfl⟩
      obtain ⟨m, hm⟩ : ∃ m, hkid L1 k n = m := ⟨_, rfl⟩
      have hkm : k < m := by rw [← hm]; exact hkid_lt _ _ _
      have hmn : m < n := by rw [← hm]; unfold hkid; split <;> omega
      obtain ⟨d, hd⟩ : ∃ d, ahd (L1.getD k (0, 0)) (L1.getD m (0, 0)) = d := ⟨_, rfl⟩
      have HU := Lib.hid (show hdown L1 k n = if d = true then hdown (swp L1 k m) m n else L1 by rw [hdown, dif_neg h0, hm, hd])
      have HA := Lib.hid hb
      have HD := Lib.hid hd
      have HM := Lib.hid (show m = if 2 * k + 2 < n ∧ b = true then 2 * k + 2 else 2 * k + 1 by rw [← hm, ← hb]; rfl)
      have z1 : ((2 * k + 1 : Nat) : Int) = 2 * (k : Int) + 1 := by omega
      have z2 : ((2 * k + 2 : Nat) : Int) = 2 * (k : Int) + 2 := by omega
      have Z1 := Lib.hid z1
      have Z2 := Lib.hid z2
      clear hm hb hd z1 z2 h0
      have hk9 : k ≤ 50000 := by omega
      by_cases h2 : 2 * k + 2 < n
      · have c1 := less_any p B (2 * k + 2) (2 * k + 1) v L1 wr HS1.out (by omega) (by omega) HN1.out
        rw [Z1.out, Z2.out, HA.out] at c1
        have C1 := Lib.hid c1
        clear c1
        go_wp2_with fail
        refine C1.out.mono ?_
        rintro e w4 ⟨rfl, hb4⟩
        have HS4 := Lib.hid (HS1.out.below hb4)
        have HB4 := Lib.hid (HB1.out.trans (hb4.mono hBr))
        have HF4 := Lib.hid (HF1.out.trans (Fr.of_below hb4))
        have hBr4 : B ≤ w4.heap.size := Nat.le_trans hBr hb4.size
        clear hb4
        cases b with
        | true =>
          obtain rfl : m = 2 * k + 2 := by rw [HM.out]; simp [h2]
          have c2 := less_any p B (2 * k + 2) k v L1 w4 HS4.out (by omega) (by omega) HN1.out
          rw [Z2.out, HD.out] at c2
          have C2 := Lib.hid c2
          clear c2
          go_wp2_with fail
          refine C2.out.mono ?_
          rintro e w5 ⟨rfl, hb5⟩
          have HS5 := Lib.hid (HS4.out.below hb5)
          have HB5 := Lib.hid (HB4.out.trans (hb5.mono hBr4))
          have HF5 := Lib.hid (HF4.out.trans (Fr.of_below hb5))
          clear hb5
          cases d with
          | false =>
            go_wp2_with fail
            go_ret
            exact ⟨⟨_, rfl⟩, by rw [← hup1.out, HU.out]; exact HS5.out, HB5.out, HF5.out⟩
          | true =>
            have c3 := swap_any p B k (2 * k + 2) v L1 w5 HS5.out (by omega) (by omega) HN1.out
            rw [Z2.out] at c3
            have C3 := Lib.hid c3
            clear c3
            go_wp2_with fail
            refine C3.out.mono ?_
            rintro e w6 ⟨rfl, hs6, hb6, hf6⟩
            have HS6 := Lib.hid hs6
            have HB6 := Lib.hid (HB5.out.trans hb6)
            have HF6 := Lib.hid (HF5.out.trans hf6)
            clear hs6 hb6 hf6
            go_wp2_with fail
            go_roundw
            case rel => exact ⟨2 * k + 2, swp L1 k (2 * k + 2), by rw [Z2.out]; congr 1, by omega, by rw [swp_len, HL1.out], HS6.out, HB6.out, Lib.hid (by rw [← hup1.out, HU.out]; rfl), HF6.out⟩
            case measure => simp [intOf]; omega
        | false =>
          obtain rfl : m = 2 * k + 1 := by rw [HM.out]; simp [h2]
          have c2 := less_any p B (2 * k + 1) k v L1 w4 HS4.out (by omega) (by omega) HN1.out
          rw [Z1.out, HD.out] at c2
          have C2 := Lib.hid c2
          clear c2
          go_wp2_with fail
          refine C2.out.mono ?_
          rintro e w5 ⟨rfl, hb5⟩
          have HS5 := Lib.hid (HS4.out.below hb5)
          have HB5 := Lib.hid (HB4.out.trans (hb5.mono hBr4))
          have HF5 := Lib.hid (HF4.out.trans (Fr.of_below hb5))
          clear hb5
          cases d with
          | false =>
            go_wp2_with fail
            go_ret
            exact ⟨⟨_, rfl⟩, by rw [← hup1.out, HU.out]; exact HS5.out, HB5.out, HF5.out⟩
          | true =>
            have c3 := swap_any p B k (2 * k + 1) v L1 w5 HS5.out (by omega) (by omega) HN1.out
            rw [Z1.out] at c3
            have C3 := Lib.hid c3
            clear c3
            go_wp2_with fail
            refine C3.out.mono ?_
            rintro e w6 ⟨rfl, hs6, hb6, hf6⟩
            have HS6 := Lib.hid hs6
            have HB6 := Lib.hid (HB5.out.trans hb6)
            have HF6 := Lib.hid (HF5.out.trans hf6)
            clear hs6 hb6 hf6
            go_wp2_with fail
            go_roundw
            case rel => exact ⟨2 * k + 1, swp L1 k (2 * k + 1), by rw [Z1.out], by omega, by rw [swp_len, HL1.out], HS6.out, HB6.out, Lib.hid (by rw [← hup1.out, HU.out]; rfl), HF6.out⟩
            case measure => simp [intOf]; omega
      · skip
        obtain rfl : m = 2 * k + 1 := by rw [HM.out]; simp [h2]
        have c2 := less_any p B (2 * k + 1) k v L1 wr HS1.out (by omega) (by omega) HN1.out
        rw [Z1.out, HD.out] at c2
        have C2 := Lib.hid c2
        clear c2
        go_wp2_with fail
        refine C2.out.mono ?_
        rintro e w5 ⟨rfl, hb5⟩
        have HS5 := Lib.hid (HS1.out.below hb5)
        have HB5 := Lib.hid (HB1.out.trans (hb5.mono hBr))
        have HF5 := Lib.hid (HF1.out.trans (Fr.of_below hb5))
        clear hb5
        cases d with
        | false =>
          go_wp2_with fail
          go_ret
          exact ⟨⟨_, rfl⟩, by rw [← hup1.out, HU.out]; exact HS5.out, HB5.out, HF5.out⟩
        | true =>
          have c3 := swap_any p B k (2 * k + 1) v L1 w5 HS5.out (by omega) (by omega) HN1.out
          rw [Z1.out] at c3
          have C3 := Lib.hid c3
          clear c3
          go_wp2_with fail
          refine C3.out.mono ?_
          rintro e w6 ⟨rfl, hs6, hb6, hf6⟩
          have HS6 := Lib.hid hs6
          have HB6 := Lib.hid (HB5.out.trans hb6)
          have HF6 := Lib.hid (HF5.out.trans hf6)
          clear hs6 hb6 hf6
          go_wp2_with fail
          go_roundw
          case rel => exact ⟨2 * k + 1, swp L1 k (2 * k + 1), by rw [Z1.out], by omega, by rw [swp_len, HL1.out], HS6.out, HB6.out, Lib.hid (by rw [← hup1.out, HU.out]; rfl), HF6.out⟩
          case measure => simp [intOf]; omega

theorem hpush_any (p B : Nat) (v : Value) (L : List (Int × Int)) (a x : Int) (w : World) (h : HS w B p v L) (hn : L.length < 100000) :
    Calls Tryz.prog 104 #[.iface 128 (.pointer (some ⟨p, 0, none⟩)), .iface 133 (.agg #[.int .i64 a, .int .i64 x])] w (HeapR B p w (hup (L ++ [(a, x)]) L.length)) := by
  have m1 := meth_Push
  have m2 := meth_Len
  have HH := Lib.hid h
  obtain ⟨R, hR⟩ : ∃ R, hup (L ++ [(a, x)]) L.length = R := ⟨_, rfl⟩
  rw [hR]
  have HR := Lib.hid hR
  clear h hR
  go_enter Tryz.func104, Tryz.ntmps104
  go_wp2_with fail
  refine (pushm_walk p B v L a x w HH.out (by omega)).mono ?_
  rintro e w1 ⟨v1, rfl, hs1, hb1⟩
  have HS1 := Lib.hid hs1
  have HB1 := Lib.hid hb1
  clear hs1 hb1
  go_wp2_with fail
  refine (len_any p B v1 _ w1 HS1.out).mono ?_
  rintro e w2 ⟨rfl, rfl⟩
  have c1 := up_any L.length p B v1 (L ++ [(a, x)]) w1 HS1.out (by simp) (by simp; omega)
  rw [HR.out] at c1
  have C1 := Lib.hid c1
  clear c1
  go_wp2_with fail
  refine C1.out.mono ?_
  rintro e w3 ⟨v3, rfl, hs3, hb3⟩
  have HS3 := Lib.hid hs3
  have HB3 := Lib.hid hb3
  clear hs3 hb3
  go_wp2_with fail
  go_end0
  exact ⟨v3, rfl, HS3.out, HB1.out.trans HB3.out⟩

/-- What Pop hands back, and what is left. -/
def PopR (B p : Nat) (v : Value) (w : World) (x : Int × Int) (L' : List (Int × Int)) (e : Ending) (w' : World) : Prop := ∃ v', e = .returned (.iface 133 (.agg #[.int .i64 x.1, .int .i64 x.2])) ∧ HS w' B p v' L' ∧ Below B w w' ∧ Fr p v w w' ∧ v'.ownBlock = v.ownBlock

theorem hpop_any (p B : Nat) (v : Value) (L : List (Int × Int)) (w : World) (h : HS w B p v L) (hp : 0 < L.length) (hn : L.length ≤ 100000) :
    Calls Tryz.prog 106 #[.iface 128 (.pointer (some ⟨p, 0, none⟩))] w (PopR B p v w ((hdown (swp L 0 (L.length - 1)) 0 (L.length - 1)).getD (L.length - 1) (0, 0)) ((hdown (swp L 0 (L.length - 1)) 0 (L.length - 1)).take (L.length - 1))) := by
  have m1 := meth_Pop
  have m2 := meth_Len
  have m3 := meth_Swap
  have HH := Lib.hid h
  obtain ⟨n, hnn⟩ : ∃ n, L.length = n + 1 := ⟨L.length - 1, by omega⟩
  obtain ⟨R, hR⟩ : ∃ R, hdown (swp L 0 n) 0 n = R := ⟨_, rfl⟩
  rw [show L.length - 1 = n by omega, hR]
  have HR := Lib.hid hR
  have HRL := Lib.hid (show R.length = n + 1 by rw [← hR, hdown_len _ _ _ _ rfl, swp_len, hnn])
  have HN := Lib.hid hnn
  have hn9 : n + 1 ≤ 100000 := by omega
  clear h hR hnn hp hn
  go_enter Tryz.func106, Tryz.ntmps106
  go_wp2_with fail
  refine (len_any p B v L w HH.out).mono ?_
  rw [HN.out]
  rintro e w0 ⟨rfl, rfl⟩
  go_wp2_with fail
  refine (swap_any p B 0 n v L w HH.out (by rw [HN.out]; omega) (by rw [HN.out]; omega) (by rw [HN.out]; exact hn9)).mono ?_
  rintro e w1 ⟨rfl, hs1, hb1, hf1⟩
  have HF1 := Lib.hid hf1
  clear hf1
  have HS1 := Lib.hid hs1
  have HB1 := Lib.hid hb1
  clear hs1 hb1
  have c1 := down_any 0 n p B v (swp L 0 n) w1 HS1.out (by rw [swp_len, HN.out]; omega) (by rw [swp_len, HN.out]; exact hn9) (by omega)
  rw [HR.out] at c1
  have C1 := Lib.hid c1
  clear c1
  go_wp2_with fail
  refine C1.out.mono ?_
  rintro e w2 ⟨⟨b, rfl⟩, hs2, hb2, hf2⟩
  have HF2 := Lib.hid hf2
  clear hf2
  have HS2 := Lib.hid hs2
  have HB2 := Lib.hid hb2
  clear hs2 hb2
  have c2 := popm_any p B v R w2 HS2.out (by rw [HRL.out]; omega) (by rw [HRL.out]; exact hn9)
  rw [HRL.out, show n + 1 - 1 = n by omega] at c2
  have C2 := Lib.hid c2
  clear c2
  go_wp2_with fail
  refine C2.out.mono ?_
  rintro e w3 ⟨v3, rfl, hs3, hb3, hf3, ho3⟩
  have HF3 := Lib.hid hf3
  have HO3 := Lib.hid ho3
  clear hf3 ho3
  have HS3 := Lib.hid hs3
  have HB3 := Lib.hid hb3
  clear hs3 hb3
  go_wp2_with fail
  go_ret
  exact ⟨v3, rfl, HS3.out, (HB1.out.trans HB2.out).trans HB3.out, (HF1.out.trans HF2.out).trans HF3.out, HO3.out⟩

end Go.Proofs.YtdfgmdmcdnnhfaaGreat

namespace Go.Proofs.YtdfgmdmcdnnhfaaGreat
open Go.RowKit Go.Shelf Go.Proofs.YtdfgmdmcdnnhfaaGreatW.PrintWords Go.Proofs.YtdfgmdmcdnnhfaaGreatW.PrintLast Go.Proofs.YtdfgmdmcdnnhfaaGreatW.PrintMore
set_option linter.unusedVariables false
set_option linter.unusedSimpArgs false
set_option maxRecDepth 100000
attribute [local go_sem] gb_max2 gb_min2 gb_max_two gb_min_two gb_max_three gb_min_three

theorem HS.new (W : World) (B : Nat) (hB : B ≤ W.heap.size) : HS ((W.alloc (.cells #[] 133)).alloc (.cells #[.slice (some ⟨W.heap.size, 0, none⟩) 0 0] 130)) B (W.heap.size + 1) (.slice (some ⟨W.heap.size, 0, none⟩) 0 0) [] := by
  refine ⟨by have := heap_alloc_new (W.alloc (.cells #[] 133)) (.cells #[.slice (some ⟨W.heap.size, 0, none⟩) 0 0] 130); simpa using this, ?_, by omega⟩
  have h := World.ownsRow_lit (base := B) (e := 133) (size := 2) W #[] 0 hB (by simp [maxLen]) (by simp)
  exact pw_own_below h ((Below.refl _ _).alloc (Nat.le_refl _) _)

theorem Own.move {w w1 : World} {base e : Nat} {v : Value} {xs : List Int} (h : Own w base e v xs) (hm : ∀ k, v.ownBlock = some k → w1.heap[k]? = w.heap[k]?) : Own w1 base e v xs :=
  Kd.R_of_own (enc := Value.int .i64) (h1 := fun _ => rfl) (own_move (Kd.own_of_R (enc := Value.int .i64) (h1 := fun _ => rfl) h) hm) (fun _ _ => trivial)

set_option maxHeartbeats 1000000 in
theorem top_any (A : Option Addr) (c : Nat) (xs : List Int) (k : Int) (w : World) (hx : (Kd.int .i64).C w A xs.length xs) (hc : xs.length ≤ c) (hn : xs.length ≤ 4096) :
    Calls Tryz.prog 71 #[.slice A xs.length c, .int .i64 k] w fun e w' => ∃ v, e = .returned v ∧ Own w' w.heap.size 3 v (vtop xs k) ∧ Below w.heap.size w w' := by
  have HX := Lib.hid hx
  have HS0 := Lib.hid (HS.new w w.heap.size (Nat.le_refl _))
  have HB0 := Lib.hid (((Below.refl _ w).alloc (Nat.le_refl _) (.cells #[] 133)).alloc (by simp) (.cells #[.slice (some ⟨w.heap.size, 0, none⟩) 0 0] 130))
  obtain ⟨n, hnn⟩ : ∃ n, xs.length = n := ⟨_, rfl⟩
  rw [hnn] at hc hn ⊢
  have HN := Lib.hid hnn
  clear hx hnn
  go_enter Tryz.func71, Tryz.ntmps71
  go_wp2_with fail
  refine (cut_any _ _ _ _ hc hn).mono ?_
  rintro e w' ⟨rfl, rfl⟩
  go_wp2_with fail
  obtain ⟨p, hp⟩ : ∃ p, w.heap.size + 1 = p := ⟨_, rfl⟩
  have HP := Lib.hid hp
  rw [hp] at HS0 ⊢
  clear hp
  go_loopw [17] (fun s wr => ∃ (j : Nat) (v : Value), s = .int .i64 j ∧ j ≤ n ∧ HS wr w.heap.size p v (topSt xs k j) ∧ Below w.heap.size w wr) (fun s _ => n - (intOf s).toNat)
  case atStart => exact ⟨0, _, rfl, by omega, HS0.out, HB0.out⟩
  case round =>
    obtain ⟨j, v, rfl, hj, hs, hb⟩ := hrel
    have HS1 := Lib.hid hs
    have HB1 := Lib.hid hb
    have HL1 := Lib.hid (topSt_len xs k j)
    clear hs hb HS0 HB0
    by_cases hjn : j < n
    · obtain ⟨L, hL⟩ : ∃ L, topSt xs k j = L := ⟨_, rfl⟩
      obtain ⟨ad, ea, hc1⟩ := at_nat (Kd.C_below HX.out HB1.out) j (by rw [HN.out]; exact hjn)
      subst ea
      obtain ⟨x, hxx⟩ : ∃ x, xs.getD j 0 = x := ⟨_, rfl⟩
      rw [hxx] at hc1
      rw [hL] at HS1 HL1
      obtain ⟨L2, hL2⟩ : ∃ L2, hup (L ++ [((j : Int), wi x)]) L.length = L2 := ⟨_, rfl⟩
      have HT := Lib.hid (show topSt xs k (j + 1) = if max k 0 < (L2.length : Int) then hpr L2 else L2 by simp only [topSt]; rw [hL, hxx, hL2])
      have h2len : L2.length = L.length + 1 := by rw [← hL2, hup_len]; simp
      have HL2 := Lib.hid h2len
      have c1 := hpush_any p w.heap.size v L (j : Int) (wi x) wr HS1.out (by have := HL1.out; omega)
      rw [hL2] at c1
      have C1 := Lib.hid c1
      clear hL hxx hL2 h2len c1
      go_wp2_with (go_at_call 39; refine (within_any _ _).mono ?_; rintro e w' ⟨rfl, rfl⟩)
      refine C1.out.mono ?_
      rintro e w2 ⟨v2, rfl, hs2, hb2⟩
      have HS2 := Lib.hid hs2
      have HB2 := Lib.hid (HB1.out.trans hb2)
      clear hs2 hb2 hc1
      by_cases hm : max k 0 < (L2.length : Int)
      · have c2 := hpop_any p w.heap.size v2 L2 w2 HS2.out (by rw [HL2.out]; omega) (by rw [HL2.out]; have := HL1.out; omega)
        have C2 := Lib.hid c2
        have HT2 := Lib.hid (show topSt xs k (j + 1) = hpr L2 by rw [HT.out, if_pos hm])
        clear c2
        go_wp2_with fail
        refine (len_any p w.heap.size v2 L2 w2 HS2.out).mono ?_
        rintro e w' ⟨rfl, rfl⟩
        go_wp2_with fail
        refine C2.out.mono ?_
        rintro e w3 ⟨v3, rfl, hs3, hb3, -, -⟩
        have HS3 := Lib.hid hs3
        have HB3 := Lib.hid (HB2.out.trans hb3)
        clear hs3 hb3
        go_wp2_with fail
        go_roundw
        case rel => exact ⟨j + 1, v3, by go_num, by omega, by rw [HT2.out]; exact HS3.out, HB3.out⟩
        case measure => simp [intOf]; omega
      · have HT2 := Lib.hid (show topSt xs k (j + 1) = L2 by rw [HT.out, if_neg hm])
        go_wp2_with fail
        refine (len_any p w.heap.size v2 L2 w2 HS2.out).mono ?_
        rintro e w' ⟨rfl, rfl⟩
        go_wp2_with fail
        go_roundw
        case rel => exact ⟨j + 1, v2, by go_num, by omega, by rw [HT2.out]; exact HS2.out, HB2.out⟩
        case measure => simp [intOf]; omega
    · obtain rfl : j = n := by omega
      obtain ⟨L, hL⟩ : ∃ L, topSt xs k j = L := ⟨_, rfl⟩
      rw [hL] at HS1 HL1
      have HV := Lib.hid (show vtop xs k = drain L.length L (List.replicate L.length 0) by unfold vtop; rw [HN.out, hL])
      clear hL
      go_wp2_with fail
      refine (len_any p w.heap.size v L wr HS1.out).mono ?_
      rintro e w' ⟨rfl, rfl⟩
      have hmk := print_make (P := Tryz.prog) 25 3 .i64 8 Tryz.underlying25 infoInt (by decide) L.length (by have := HL1.out; omega)
      have hm := own_made wr w.heap.size 3 .i64 L.length (by have := HB1.out.size; omega) (by have := HL1.out; omega)
      have HM := Lib.hid hm
      clear hm
      go_wp2_with fail
      obtain ⟨W1, hW1⟩ : ∃ W1, wr.alloc (.cells (madeCells #[.int .i64 0] L.length) 3) = W1 := ⟨_, rfl⟩
      obtain ⟨g, hg⟩ : ∃ g, wr.heap.size = g := ⟨_, rfl⟩
      have HS2 := Lib.hid (show HS W1 w.heap.size p v L by rw [← hW1]; exact HS1.out.below ((Below.refl _ _).alloc (Nat.le_refl _) _))
      have HB2 := Lib.hid (show Below w.heap.size w W1 by rw [← hW1]; exact HB1.out.alloc HB1.out.size _)
      have HO2 := Lib.hid (show Own W1 w.heap.size 3 (.slice (some ⟨g, 0, none⟩) L.length L.length) (List.replicate L.length 0) by
        rw [← hW1, ← hg]; exact Kd.R_of_own (enc := Value.int .i64) (h1 := fun _ => rfl) (by simpa [encs, nums] using HM.out) (fun _ _ => trivial))
      have hgp : g ≠ p := by have := blk_lt HS1.out.box; omega
      have hgv : v.ownBlock ≠ some g := fun e => by have := own_lt HS1.out.row g e; omega
      have hgB : w.heap.size ≤ g := by have := HB1.out.size; omega
      rw [hW1, hg]
      clear hW1 hg HM hmk
      have hta := assert_place
      have hl9 : L.length ≤ 4096 := by have := HL1.out; omega
      obtain ⟨m, hm⟩ : ∃ m, L.length = m := ⟨_, rfl⟩
      rw [hm] at HO2 hl9 HV ⊢
      have HLM := Lib.hid hm
      clear hm HS1 HB1 HL1
      go_wp2_with fail
      go_loopw [9] (fun s wq => ∃ (i : Nat) (v1 : Value) (L1 : List (Int × Int)) (out : List Int), s = .int .i64 ((i : Int) - 1) ∧ i ≤ m ∧ L1.length = i ∧ out.length = m ∧ HS wq w.heap.size p v1 L1 ∧ Own wq w.heap.size 3 (.slice (some ⟨g, 0, none⟩) m m) out ∧ Below w.heap.size w wq ∧ Hid (v1.ownBlock ≠ some g) ∧ Hid (drain i L1 out = vtop xs k)) (fun s _ => (intOf s + 1).toNat)
      case atStart => exact ⟨m, v, L, _, by first | rfl | (congr 1; exact IntWalk.wrap64_in _ ⟨by omega, by omega⟩), by omega, HLM.out, by simp, HS2.out, HO2.out, HB2.out, Lib.hid hgv, Lib.hid HV.out.symm⟩
      case round =>
        obtain ⟨i, v1, L1, out, rfl, hi, hl1, hlo, hs, ho, hb, hv1, hdr⟩ := hrel
        have HS3 := Lib.hid hs
        have HO3 := Lib.hid ho
        have HB3 := Lib.hid hb
        have HLO := Lib.hid hlo
        have HL3 := Lib.hid hl1
        clear hs ho hb HS2 HO2 HB2 hlo
        cases i with
        | zero =>
          have HF := Lib.hid (show out = vtop xs k from hdr.out)
          clear hl1
          go_wp2_with fail
          go_ret
          exact ⟨_, rfl, by rw [← HF.out]; exact HO3.out, HB3.out⟩
        | succ i =>
          rw [show ((i + 1 : Nat) : Int) - 1 = (i : Int) by omega]
          have c1 := hpop_any p w.heap.size v1 L1 wr HS3.out (by omega) (by omega)
          change Calls _ _ _ _ (PopR w.heap.size p v1 wr (hpv L1) (hpr L1)) at c1
          have hd := (show drain i (hpr L1) (out.set i (hpv L1).1) = vtop xs k from hdr.out)
          have h4 := hpr_len L1
          obtain ⟨⟨ax, ay⟩, hax⟩ : ∃ q, hpv L1 = q := ⟨_, rfl⟩
          obtain ⟨L4, hL4⟩ : ∃ q, hpr L1 = q := ⟨_, rfl⟩
          rw [hax, hL4] at hd c1
          rw [hL4, hl1] at h4
          have HL4 := Lib.hid h4
          have HD := Lib.hid hd
          have C1 := Lib.hid c1
          clear hax hL4 hd h4
          clear c1 hl1
          have hi1 : i < m := by omega
          go_wp2_with fail
          refine C1.out.mono ?_
          rintro e w4 ⟨v4, rfl, hs4, hb4, hf4, ho4⟩
          have hlt : g < wr.heap.size := own_lt (Kd.own_of_R (enc := Value.int .i64) (h1 := fun _ => rfl) HO3.out) g (by simp [Value.ownBlock])
          have ho5 := HO3.out.move (w1 := w4) (fun q hq => by
            have : q = g := by simpa [Value.ownBlock] using hq.symm
            subst this
            exact hf4.2 q hlt hgp (fun e => hv1.out e.symm))
          have hlt4 : g < w4.heap.size := Nat.lt_of_lt_of_le hlt hf4.1
          have HV4 := Lib.hid (show v4.ownBlock ≠ some g by rw [ho4]; exact hv1.out)
          obtain ⟨q1, f1⟩ := ho5.at_n HLO.out i hi1
          have HS4 := Lib.hid hs4
          have HB4 := Lib.hid (HB3.out.trans hb4)
          have HO4 := Lib.hid ho5
          have hpp : p < w4.heap.size := blk_lt hs4.box
          clear hs4 hb4 hf4 ho4 ho5 hlt
          obtain ⟨u, hu⟩ : ∃ u, out.getD i 0 = u := ⟨_, rfl⟩
          rw [hu] at q1
          clear hu
          have HN4 := Lib.hid (show p ≠ g from fun e => hgp e.symm)
          go_wp2_with fail
          go_roundw
          case rel => exact ⟨i, v4, L4, out.set i ax, rfl, by omega, HL4.out, by rw [List.length_set]; exact HLO.out, ⟨blk_alloc (blk_far HS4.out.box HN4.out _) _, pw_own_below (own_setCell HS4.out.row (fun e => HV4.out e.symm) _) (below_alloc (Below.refl _ _) _), HS4.out.low⟩, (HO4.out.store_n HLO.out i ax).below ((Below.refl _ _).alloc (Nat.le_refl _) _), (HB4.out.setCell (p := ⟨g, i, none⟩) hgB _).alloc (by have := HB4.out.size; simpa using this) _, HV4, HD⟩
          case measure => (simp [intOf]; try omega)

end Go.Proofs.YtdfgmdmcdnnhfaaGreat
