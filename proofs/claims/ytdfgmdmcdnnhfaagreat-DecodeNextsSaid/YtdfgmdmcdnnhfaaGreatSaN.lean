/- sample.Next; the document's; Marks of no model. -/
import Derived.Test.YtdfgmdmcdnnhfaaGreatSaM
namespace Go.Proofs.YtdfgmdmcdnnhfaaGreat
open Go.RowKit Go.Shelf Go.Proofs.YtdfgmdmcdnnhfaaGreatW.PrintWords Go.Proofs.YtdfgmdmcdnnhfaaGreatW.PrintLast Go.Proofs.YtdfgmdmcdnnhfaaGreatW.PrintMore
set_option linter.unusedVariables false
set_option linter.unusedSimpArgs false
set_option maxRecDepth 100000
attribute [local go_sem] gb_max2 gb_min2 gb_max_two gb_min_two gb_max_three gb_min_three run_cfg1 run_cfg2 run_cfg3

def vnext (c : Cfg) (xs : List Int) (seed place : Int) : Int := vdraw (vmarks c xs) c.top c.heat seed place
/-- A configuration's box, behind W0. -/
def BxS (g : Nat) (W0 : World) (t h : Int) (W : World) : Prop := W.cell? ⟨g, 4, none⟩ = some (.int .i64 t) ∧ W.cell? ⟨g, 5, none⟩ = some (.int .i64 h) ∧ Hid (Below W0.heap.size W0 W)
theorem BxS.step {g : Nat} {W0 W W' : World} {t h : Int} (hS : BxS g W0 t h W) (hb : Below W.heap.size W W') : BxS g W0 t h W' := ⟨pw_cell_below hb hS.1, pw_cell_below hb hS.2.1, Lib.hid (below_then hS.2.2.out hS.2.2.out.size hb)⟩
theorem BxS.below {g : Nat} {W0 W : World} {t h : Int} (hS : BxS g W0 t h W) : Below W0.heap.size W0 W := hS.2.2.out

/-- The same, all of it. -/
def BxF (s v d l : Int) (g : Nat) (W0 : World) (t h : Int) (W : World) : Prop := W.cell? ⟨g, 0, none⟩ = some (.int .u64 s) ∧ W.cell? ⟨g, 1, none⟩ = some (.int .i64 v) ∧ W.cell? ⟨g, 2, none⟩ = some (.int .i64 d) ∧ W.cell? ⟨g, 3, none⟩ = some (.int .i64 l) ∧ W.cell? ⟨g, 4, none⟩ = some (.int .i64 t) ∧ W.cell? ⟨g, 5, none⟩ = some (.int .i64 h) ∧ Hid (Below W0.heap.size W0 W)
theorem BxF.step {s v d l : Int} {g : Nat} {W0 W W' : World} {t h : Int} (hS : BxF s v d l g W0 t h W) (hb : Below W.heap.size W W') : BxF s v d l g W0 t h W' := by
  obtain ⟨h0, h1, h2, h3, h4, h5, h6⟩ := hS
  exact ⟨pw_cell_below hb h0, pw_cell_below hb h1, pw_cell_below hb h2, pw_cell_below hb h3, pw_cell_below hb h4, pw_cell_below hb h5, Lib.hid (below_then h6.out h6.out.size hb)⟩
theorem BxF.below {s v d l : Int} {g : Nat} {W0 W : World} {t h : Int} (hS : BxF s v d l g W0 t h W) : Below W0.heap.size W0 W := hS.2.2.2.2.2.2.out

set_option maxHeartbeats 1000000 in
theorem next_any (W : World) (p : Nat) (c : Cfg) (hok : c.ok) (h : Mo W p c) (A : Option Addr) (cp : Nat) (xs : List Int) (seed place : Int) (hx : (Kd.int .i64).C W A xs.length xs) (hc : xs.length ≤ cp) (hn : xs.length ≤ 4096) :
    Calls Tryz.prog 30 #[.pointer (some ⟨p, 0, none⟩), .slice A xs.length cp, .int .u64 seed, .int .u64 place] W fun e w' => e = .returned (.int .i64 (vnext c xs seed place)) ∧ Below W.heap.size W w' := by
  have HMo := Lib.hid (fun (W' : World) (hb : Below W.heap.size W W') => h.below hb)
  have HM := Lib.hid (fun (W' : World) (hb : Below W.heap.size W W') => marks_any W' p c hok (h.below hb) A cp xs (Kd.C_below hx hb) hc hn)
  have hvl : (vmarks c xs).length ≤ 4096 := by rw [vmarks_len]; have := hok.1; omega
  have HCV := Lib.hid (show c.v = .agg #[.int .u64 c.seed, .int .i64 c.vocab, .int .i64 c.dim, .int .i64 c.layers, .int .i64 c.top, .int .i64 c.heat] from rfl)
  have hh : c.heat ≤ 9223372036854775807 := by have := hok.2.2.2.2; omega
  unfold vnext
  obtain ⟨ms, hms⟩ : ∃ ms, vmarks c xs = ms := ⟨_, rfl⟩
  obtain ⟨tp, htp⟩ : ∃ tp, c.top = tp := ⟨_, rfl⟩
  obtain ⟨ht, hht⟩ : ∃ ht, c.heat = ht := ⟨_, rfl⟩
  obtain ⟨n, hnn⟩ : ∃ n, xs.length = n := ⟨_, rfl⟩
  rw [hnn] at HM ⊢
  rw [hms] at HM hvl ⊢
  rw [htp, hht] at HCV ⊢
  rw [hht] at hh
  clear hok h hx hc hn hms htp hht hnn
  go_enter Tryz.func30, Tryz.ntmps30
  go_wp2_with fail
  refine (config_any W p c (HMo.out W (Below.refl _ _))).mono ?_
  rw [HCV.out]
  rintro e w1 ⟨rfl, hb1⟩
  have HB1 := Lib.hid hb1
  clear hb1
  go_wp2_with fail
  obtain ⟨W2, hW2⟩ : ∃ W2, w1.alloc (.cells #[.int .u64 c.seed, .int .i64 c.vocab, .int .i64 c.dim, .int .i64 c.layers, .int .i64 tp, .int .i64 ht] 24) = W2 := ⟨_, rfl⟩
  obtain ⟨g, hg⟩ : ∃ g, w1.heap.size = g := ⟨_, rfl⟩
  have hS : BxS g W tp ht W2 := by
    rw [← hW2, ← hg]
    exact ⟨by rw [blk_cell (heap_alloc_new _ _)]; rfl, by rw [blk_cell (heap_alloc_new _ _)]; rfl, Lib.hid (below_alloc HB1.out _)⟩
  rw [hW2, hg]
  clear hW2 hg HB1
  go_region_held3 (fun w' => w'.cell? ⟨g, 4, none⟩ = some (.int .i64 tp) ∧ w'.cell? ⟨g, 5, none⟩ = some (.int .i64 ht) ∧ Hid (Below W.heap.size W w'))
    (first | exact BxS.step hS (below_drew (Below.refl _ _)) | exact BxS.step (by assumption) (by assumption) | trace_state)
    (first
      | (go_at_call 48; refine (HM.out _ (BxS.below (by assumption))).mono ?_; unfold RowR; rintro e w2 ⟨v2, rfl, ho2, hb⟩; obtain ⟨A2, c2, hv2, hc2, hC2⟩ := ho2.reads; subst hv2; clear ho2)
      | (go_at_call 47; refine (draw_any A2 c2 ms tp ht seed place _ hC2 hc2 hvl hh).mono ?_; rintro e w' ⟨rfl, hb⟩))
  all_goals
    go_wp2_with fail
    go_ret
    exact ⟨rfl, BxS.below (by assumption)⟩

set_option maxHeartbeats 1000000 in
theorem rnext_any (c : Cfg) (hok : c.ok) (W : World) (A : Option Addr) (cp : Nat) (xs : List Int) (seed place : Int) (hx : (Kd.int .i64).C W A xs.length xs) (hc : xs.length ≤ cp) (hn : xs.length ≤ 4096) :
    Calls Tryz.prog 35 #[c.v, .slice A xs.length cp, .int .u64 seed, .int .u64 place] W fun e w' => e = .returned (.int .i64 (vnext c xs seed place)) ∧ Below W.heap.size W w' := by
  have HM := Lib.hid (fun (W' : World) (hb : Below W.heap.size W W') => rmarks_any c hok W' A cp xs (Kd.C_below hx hb) hc hn)
  have hvl : (vmarks c xs).length ≤ 4096 := by rw [vmarks_len]; have := hok.1; omega
  have HCV := Lib.hid (show c.v = .agg #[.int .u64 c.seed, .int .i64 c.vocab, .int .i64 c.dim, .int .i64 c.layers, .int .i64 c.top, .int .i64 c.heat] from rfl)
  have hh : c.heat ≤ 9223372036854775807 := by have := hok.2.2.2.2; omega
  have HBX := Lib.hid (Bx.new c W)
  obtain ⟨W2, hW2⟩ : ∃ W2, W.alloc (.cells #[.int .u64 c.seed, .int .i64 c.vocab, .int .i64 c.dim, .int .i64 c.layers, .int .i64 c.top, .int .i64 c.heat] 24) = W2 := ⟨_, rfl⟩
  obtain ⟨g, hg⟩ : ∃ g, W.heap.size = g := ⟨_, rfl⟩
  have hBE : Below W.heap.size W W2 := by rw [← hW2]; exact below_alloc (Below.refl _ W) _
  rw [hW2, hg] at HBX
  unfold vnext
  obtain ⟨x0, x1, x2, x3, x4, x5⟩ := HBX.out.at_
  obtain ⟨ms, hms⟩ : ∃ ms, vmarks c xs = ms := ⟨_, rfl⟩
  rw [HCV.out] at HM
  rw [HCV.out]
  obtain ⟨tp, htp⟩ : ∃ tp, c.top = tp := ⟨_, rfl⟩
  obtain ⟨ht, hht⟩ : ∃ ht, c.heat = ht := ⟨_, rfl⟩
  obtain ⟨n, hnn⟩ : ∃ n, xs.length = n := ⟨_, rfl⟩
  rw [htp] at x4 hW2 HM ⊢
  rw [hht] at x5 hh hW2 HM ⊢
  rw [hnn] at HM ⊢
  rw [hms] at HM hvl ⊢
  have hS : BxF c.seed c.vocab c.dim c.layers g W tp ht W2 := ⟨x0, x1, x2, x3, x4, x5, Lib.hid hBE⟩
  have HW2 := Lib.hid hW2
  have HG := Lib.hid hg
  clear hok hx hc hn hms htp hht hnn hBE hW2 hg x0 x1 x2 x3 x4 x5
  go_enter Tryz.func35, Tryz.ntmps35
  go_wp2_with fail
  rw [HW2.out, HG.out]
  go_region_held3 (fun w' => w'.cell? ⟨g, 0, none⟩ = some (.int .u64 c.seed) ∧ w'.cell? ⟨g, 1, none⟩ = some (.int .i64 c.vocab) ∧ w'.cell? ⟨g, 2, none⟩ = some (.int .i64 c.dim) ∧ w'.cell? ⟨g, 3, none⟩ = some (.int .i64 c.layers) ∧ w'.cell? ⟨g, 4, none⟩ = some (.int .i64 tp) ∧ w'.cell? ⟨g, 5, none⟩ = some (.int .i64 ht) ∧ Hid (Below W.heap.size W w'))
    (first | exact BxF.step hS (below_drew (Below.refl _ _)) | exact BxF.step (by assumption) (by assumption) | trace_state)
    (first
      | (go_at_call 55; refine (HM.out _ (BxF.below (by assumption))).mono ?_; unfold RowR; rintro e w2 ⟨v2, rfl, ho2, hb⟩; obtain ⟨A2, c2, hv2, hc2, hC2⟩ := ho2.reads; subst hv2; clear ho2)
      | (go_at_call 54; refine (rdraw_any A2 c2 ms tp ht seed place _ hC2 hc2 hvl hh).mono ?_; rintro e w' ⟨rfl, hb⟩))
  all_goals
    go_wp2_with fail
    go_ret
    exact ⟨rfl, BxF.below (by assumption)⟩

theorem config_nil (W : World) :
    Calls Tryz.prog 26 #[.pointer none] W fun e w' => e = .returned (.agg #[.int .u64 0, .int .i64 0, .int .i64 0, .int .i64 0, .int .i64 0, .int .i64 0]) ∧ Below W.heap.size W w' := by
  obtain ⟨W0, hW0⟩ : ∃ W0, W.alloc (.cells #[.int .u64 0, .int .i64 0, .int .i64 0, .int .i64 0, .int .i64 0, .int .i64 0] 24) = W0 := ⟨_, rfl⟩
  obtain ⟨g, hg⟩ : ∃ g, W.heap.size = g := ⟨_, rfl⟩
  have HB0 := Lib.hid (show Below W.heap.size W W0 by rw [← hW0]; exact below_alloc (Below.refl _ W) _)
  have hh : W0.heap[g]? = some (.cells #[.int .u64 0, .int .i64 0, .int .i64 0, .int .i64 0, .int .i64 0, .int .i64 0] 24 (0, 0)) := by rw [← hW0, ← hg]; exact heap_alloc_new _ _
  have hge : W.heap.size ≤ g := by omega
  have HW0 := Lib.hid hW0
  have HG := Lib.hid hg
  have z0 : W0.cell? ⟨g, 0, none⟩ = some (.int .u64 0) := by rw [blk_cell hh]; rfl
  have z1 : W0.cell? ⟨g, 1, none⟩ = some (.int .i64 0) := by rw [blk_cell hh]; rfl
  have z2 : W0.cell? ⟨g, 2, none⟩ = some (.int .i64 0) := by rw [blk_cell hh]; rfl
  have z3 : W0.cell? ⟨g, 3, none⟩ = some (.int .i64 0) := by rw [blk_cell hh]; rfl
  have z4 : W0.cell? ⟨g, 4, none⟩ = some (.int .i64 0) := by rw [blk_cell hh]; rfl
  have z5 : W0.cell? ⟨g, 5, none⟩ = some (.int .i64 0) := by rw [blk_cell hh]; rfl
  have f0 := blk_frozen hh 0
  have f1 := blk_frozen hh 1
  have f2 := blk_frozen hh 2
  have f3 := blk_frozen hh 3
  have f4 := blk_frozen hh 4
  have f5 := blk_frozen hh 5
  have HH := Lib.hid hh
  clear hW0 hg hh
  go_enter Tryz.func26, Tryz.ntmps26
  go_wp2_with fail
  rw [HW0.out, HG.out]
  refine (mok_nil W0).mono ?_
  rintro e w' ⟨rfl, rfl⟩
  go_wp2_with fail
  refine bodyPost_ret (results_cell_row rfl _ _ g 24 #[.int .u64 0, .int .i64 0, .int .i64 0, .int .i64 0, .int .i64 0, .int .i64 0] (0, 0) _ rfl (blk_set (blk_set (blk_set (blk_set (blk_set (blk_set HH.out 0 _) 1 _) 2 _) 3 _) 4 _) 5 _) Tryz.underlying24 rfl (by kernel_rfl)) rfl ?_
  exact ⟨rfl, (((((HB0.out.setCell (p := ⟨g, 0, none⟩) hge _).setCell (p := ⟨g, 1, none⟩) hge _).setCell (p := ⟨g, 2, none⟩) hge _).setCell (p := ⟨g, 3, none⟩) hge _).setCell (p := ⟨g, 4, none⟩) hge _).setCell (p := ⟨g, 5, none⟩) hge _⟩
theorem C_nil8 (k : IntKind) (W : World) : (Kd.int k).C W none ([] : List Int).length [] := ⟨rfl, by simp, fun h => absurd h (Nat.lt_irrefl 0)⟩
theorem marks_nil (W : World) :
    Calls Tryz.prog 48 #[.pointer none, .slice none 0 0] W fun e w' => e = .returned (.slice none 0 0) ∧ Below W.heap.size W w' := by
  have HN := Lib.hid (norm_any none 0 [] W (C_nil8 _ W) (by simp) (by simp))
  rw [show ([] : List Int).length = 0 from rfl] at HN
  go_enter Tryz.func48, Tryz.ntmps48
  go_wp2_with fail
  refine HN.out.mono ?_
  rintro e w1 ⟨v1, rfl, ho1, hb1⟩
  have HB1 := Lib.hid hb1
  clear ho1 hb1 HN
  go_wp2_with fail
  refine (config_nil w1).mono ?_
  rintro e w2 ⟨rfl, hb2⟩
  have HB2 := Lib.hid (below_then HB1.out HB1.out.size hb2)
  clear hb2
  go_wp2_with fail
  go_loop [6, 13] (fun v s => v = .slice none 0 0 ∧ s = .int .i64 0) (fun _ s => 0)
  case atStart => exact ⟨rfl, rfl⟩
  case round =>
    obtain ⟨rfl, rfl⟩ := hrel
    go_wp2_with fail
    go_ret
    exact ⟨rfl, HB2.out⟩

end Go.Proofs.YtdfgmdmcdnnhfaaGreat
