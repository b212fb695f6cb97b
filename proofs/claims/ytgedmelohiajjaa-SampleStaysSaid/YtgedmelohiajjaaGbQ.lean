/- Contracts of vec.places' Pop and Push, and of container/heap. -/
import Derived.Test.YtgedmelohiajjaaGbP
import Derived.OneCell
import Derived.Test.YtgedmelohiajjaaProg
import Derived.Test.YtgedmelohiajjaaGbB
import Derived.Test.YtgedmelohiajjaaGbW
import Derived.Test.YtgedmelohiajjaaWMore
import Derived.WalkKit
import Derived.KernelRfl
import Derived.Tactics
import Derived.OwnWalk
import Derived.BigQuiet
import Derived.Deep.QuietTactic
import Derived.Lib.Hide
import Derived.Outline
import Derived.StillTailTactics
import Derived.BigRegion
import Derived.Deep.RegionLaw
import Derived.Shelf.Abstract
import Derived.WalkSpells
namespace Go.Proofs.Ytgedmelohiajjaa
open Go.RowKit Go.Shelf Go.Proofs.YtgedmelohiajjaaW.PrintWords Go.Proofs.YtgedmelohiajjaaW.PrintLast Go.Proofs.YtgedmelohiajjaaW.PrintMore
set_option linter.unusedVariables false
set_option linter.unusedSimpArgs false
attribute [local go_sem] gb_max2 gb_min2 gb_max_two gb_min_two gb_max_three gb_min_three

set_option maxRecDepth 100000 in
theorem popm_walk (p g m cap : Nat) (a x : Int) (w : World) (hp : p < w.heap.size) (hc : w.cell? ⟨p, 0, none⟩ = some (.slice (some ⟨g, 0, none⟩) (m + 1) cap)) (hf : w.frozen? ⟨p, 0, none⟩ = false) (hm : m + 1 ≤ cap) (hn : m ≤ 100000)
    (c1 : w.cell? ⟨g, m * 2, none⟩ = some (.int .i64 a)) (c2 : w.cell? ⟨g, m * 2 + 1, none⟩ = some (.int .i64 x)) :
    Calls Try.prog 124 #[.pointer (some ⟨p, 0, none⟩)] w fun e w' => e = .returned (.iface 64 (.agg #[.int .i64 a, .int .i64 x])) ∧ w' = (w.setCell ⟨p, 0, none⟩ (.slice (some ⟨g, 0, none⟩) m cap)).alloc (.cells #[.int .i64 a, .int .i64 x] 64) := by
  go_enter Try.func124, Try.ntmps124
  go_wp2
  go_ret
  exact ⟨rfl, rfl⟩

theorem take_last {α : Type} (L : List α) (m k : Nat) (h : L.length = m) (hk : k ≤ m) : (L.take k).length = k := by rw [List.length_take]; omega
theorem cellsP_take (L : List (Int × Int)) : ∀ k, cellsP (L.take k) = (cellsP L).take (k * 2) := by
  induction L with
  | nil => intro k; simp [cellsP]
  | cons p L ih =>
    intro k
    cases k with
    | zero => simp [cellsP]
    | succ k =>
      have e1 : (k + 1) * 2 = k * 2 + 2 := by omega
      rw [e1]
      have := ih k
      simp only [cellsP, List.take_succ_cons, List.flatMap_cons] at this ⊢
      rw [this]; rfl

theorem popm_any (p B : Nat) (v : Value) (L : List (Int × Int)) (w : World) (h : HS w B p v L) (hp : 0 < L.length) (hn : L.length ≤ 100000) :
    Calls Try.prog 124 #[.pointer (some ⟨p, 0, none⟩)] w fun e w' => ∃ v', e = .returned (.iface 64 (.agg #[.int .i64 (L.getD (L.length - 1) (0, 0)).1, .int .i64 (L.getD (L.length - 1) (0, 0)).2])) ∧ HS w' B p v' (L.take (L.length - 1)) ∧ Below B w w' ∧ Fr p v w w' ∧ v'.ownBlock = v.ownBlock := by
  have hc := h.cell
  obtain ⟨g, cap, rfl, hg, hg1, hg2⟩ := h.form hp
  obtain ⟨m, hm⟩ : ∃ m, L.length = m + 1 := ⟨L.length - 1, by omega⟩
  obtain ⟨c1, c2⟩ := rowP_at h.row m (by omega)
  have hcap : m + 1 ≤ cap := by
    rcases h.row.2 with ⟨h', _⟩ | ⟨g', cap', cur, h', _, hh, r, _⟩
    · cases h'
    · injection h' with _ _ h'; subst h'; omega
  rw [hm, show m + 1 - 1 = m by omega]
  rw [hm] at hc
  refine (popm_walk p g m cap _ _ w (blk_lt h.box) hc h.free hcap (by omega) c1 c2).mono ?_
  rintro e w' ⟨rfl, rfl⟩
  refine ⟨.slice (some ⟨g, 0, none⟩) m cap, rfl, ⟨?_, ?_, h.low⟩, ((Below.refl B w).setCell (p := ⟨p, 0, none⟩) h.low _).alloc (by have := blk_lt h.box; have := h.low; simp; omega) _, ⟨by simp, fun k hk h1 h2 => (Below.heap_alloc _ _ k (by simpa using hk)).trans (Below.heap_setCell w _ _ k h1)⟩, rfl⟩
  · refine blk_alloc (one_setCell h.box) _
  · have hr : w.ownsRow B 64 2 (.slice (some ⟨g, 0, none⟩) m cap) m (cellsP (L.take m)) := by
      rcases h.row with ⟨q1, ⟨h', _⟩ | ⟨g', cap', cur, h', r1, r2, r3, r4, r5, r6⟩⟩
      · cases h'
      · injection h' with q2 q3 q4
        injection q2 with q2
        injection q2 with q2
        subst q2 q4
        refine ⟨by rw [cellsP_len, take_last L (m + 1) m hm (by omega)], .inr ⟨g, cap, cur, rfl, r1, r2, by omega, r4, r5, ?_⟩⟩
        rw [cellsP_take, ← r6, List.take_take, hm]
        congr 1; omega
    rw [take_last L (m + 1) m hm (by omega)]
    exact own_move hr (fun k hk => by
      have : k = g := by simpa [Value.ownBlock] using hk.symm
      subst this
      exact (Below.heap_alloc _ _ k (by simpa using hg1)).trans (Below.heap_setCell w _ _ k hg2))

theorem infoPlace : (Try.prog.info? 64).map (fun i => (i.zero, i.size, i.bytes)) = some (some (.agg #[.int .i64 0, .int .i64 0]), 2, 16) := by kernel_rfl
theorem assert_place (v : Value) (w : World) : (Instr.typeAssert (.iface 64 v) 20 64 true).run Try.prog w = .ok (.tuple #[v, .bool true]) w := by kernel_rfl

theorem row_ne {W : World} {B p n : Nat} {v : Value} {xs : List Value} {cs : Array Value} (hb : W.heap[p]? = some (.cells cs 61 (0, 0))) (hr : W.ownsRow B 64 2 v n xs) : some p ≠ v.ownBlock := by
  rcases hr.2 with ⟨h1, _⟩ | ⟨g, cap, cur, h1, hg, hh, r⟩
  · rw [h1]; simp [Value.ownBlock]
  · rw [h1]
    intro e
    have e2 : p = g := by simpa [Value.ownBlock] using e
    subst e2
    rw [hh] at hb
    injection hb with hb
    injection hb with _ hb
    exact absurd hb (by decide)
theorem push_box {W w1 : World} {B p : Nat} {v : Value} {L : List (Int × Int)} (h : HS W B p v L) (hg : W.drew.grownBy w1 v.ownBlock) : w1.heap[p]? = some (.cells #[v] 61 (0, 0)) ∧ w1.cell? ⟨p, 0, none⟩ = some v ∧ w1.frozen? ⟨p, 0, none⟩ = false := by
  have hb := (hg.block p (blk_lt h.box) (row_ne h.box h.row)).trans h.box
  exact ⟨hb, by rw [blk_cell hb]; rfl, blk_frozen hb 0⟩
theorem cellsP_snoc (L : List (Int × Int)) (a x : Int) : cellsP (L ++ [(a, x)]) = cellsP L ++ [.int .i64 a, .int .i64 x] := by simp [cellsP]

set_option maxRecDepth 100000 in
theorem pushm_walk (p B : Nat) (v : Value) (L : List (Int × Int)) (a x : Int) (w : World) (h : HS w B p v L) (hn : L.length ≤ 100000) :
    Calls Try.prog 125 #[.pointer (some ⟨p, 0, none⟩), .iface 64 (.agg #[.int .i64 a, .int .i64 x])] w fun e w' => ∃ v', e = .returned (.tuple #[]) ∧ HS w' B p v' (L ++ [(a, x)]) ∧ Below B w w' := by
  have hc := h.cell
  have hf := h.free
  have HH := Lib.hid h
  have hlt := blk_lt h.box
  have hta := assert_place
  clear h
  go_enter Try.func125, Try.ntmps125
  go_wp2
  obtain ⟨W1, hW1⟩ : ∃ W1, w.alloc (Obj.cells #[Value.int IntKind.i64 a, Value.int IntKind.i64 x] 64) = W1 := ⟨_, rfl⟩
  have hs1 : W1.heap.size = w.heap.size + 1 := by rw [← hW1]; simp
  have HH1 := Lib.hid (show HS W1 B p v L by rw [← hW1]; exact HH.out.below (below_alloc (Below.refl _ w) _))
  have HB1 := Lib.hid (show Below w.heap.size w W1 by rw [← hW1]; exact below_alloc (Below.refl _ w) _)
  have d0 : W1.cell? ⟨w.heap.size, 0, none⟩ = some (.int .i64 a) := by rw [← hW1]; simp
  have d1 : W1.cell? ⟨w.heap.size, 1, none⟩ = some (.int .i64 x) := by rw [← hW1]; simp
  rw [hW1]
  clear hc hf hW1
  have hc1 := HH1.out.cell
  go_region_law (refine step_append_cells (w0 := w) (W := W1.drew) B rfl _ _ 61 64 (.agg #[.int .i64 0, .int .i64 0]) 2 16 rfl Try.underlying61 infoPlace rfl (by decide) (by decide) v L.length (cellsP L) [.int .i64 a, .int .i64 x] rfl (by simp [Act.eval, hs1]) rfl (by simp [Value.oneCell']) (own_move HH1.out.row (fun _ _ => rfl)) (below_drew (HB1.out.mono (by have := HH.out.low; omega))) (by simp; have := HH.out.low; omega) (by omega) ?_; intro v1 w1 hr hb hg hat; obtain ⟨A1, k1, rfl⟩ := own_slice hr; obtain ⟨hbx, hcx, hfx⟩ := push_box HH1.out hg; have HBX := Lib.hid hbx; have HR := Lib.hid hr; have HB2 := Lib.hid hb; clear hr hb hg hat hbx)
  all_goals
    go_end0
    refine ⟨_, rfl, ⟨one_setCell HBX.out, ?_, HH.out.low⟩, HB2.out.setCell (p := ⟨p, 0, none⟩) HH.out.low _⟩
    rw [cellsP_snoc]
    have := HR.out
    rw [List.length_append]
    exact own_setCell HR.out (row_ne HBX.out HR.out) _

end Go.Proofs.Ytgedmelohiajjaa
