/- The document's model: Weight, row, Token, Rows. -/
import Derived.Test.YtdfgmdmcdnnhfaaMoA
namespace Go.Proofs.Ytdfgmdmcdnnhfaa
open Go.RowKit Go.Shelf Go.Proofs.YtdfgmdmcdnnhfaaW.PrintWords Go.Proofs.YtdfgmdmcdnnhfaaW.PrintLast Go.Proofs.YtdfgmdmcdnnhfaaW.PrintMore
set_option linter.unusedVariables false
set_option linter.unusedSimpArgs false
set_option maxRecDepth 100000
attribute [local go_sem] gb_max2 gb_min2 gb_max_two gb_min_two gb_max_three gb_min_three

theorem rweight_any (s t r j : Int) (w : World) (t0 : 0 ≤ t) (t1 : t ≤ 30) (r0 : 0 ≤ r) (r1 : r ≤ 255) (j0 : 0 ≤ j) (j1 : j ≤ 15) :
    Calls Try.prog 131 #[.int .u64 s, .int .i64 t, .int .i64 r, .int .i64 j] w fun e w' => e = .returned (.int .i64 (mwt (rat s t) r j)) ∧ Below w.heap.size w w' := by
  obtain ⟨S, hS⟩ : ∃ S, rat s t = S := ⟨_, rfl⟩
  rw [hS]
  have HS := Lib.hid hS
  have hr := mwt_in S r j
  unfold mwt at hr ⊢
  obtain ⟨q, hq⟩ : ∃ q, rbelow S (64 * r + j) 131073 = q := ⟨_, rfl⟩
  have HQ := Lib.hid hq
  rw [hq] at hr ⊢
  have h1 := hr.1
  have h2 := hr.2
  clear hq hr hS
  go_enter Try.func131, Try.ntmps131
  go_wp2_with fail
  refine (rderive1_any s t _ _ _ (by rw [blk_cell (heap_alloc_new _ _)]; rfl)).mono ?_
  rw [HS.out]
  rintro e w1 ⟨rfl, hd1⟩
  have HB1 := Lib.hid (show Below w.heap.size w w1 from below_then (below_alloc (Below.refl _ w) _) (by simp) hd1.below)
  clear hd1
  go_wp2_with fail
  refine (rrbelow_any _ _ _ _ (by omega) (by omega)).mono ?_
  rw [HQ.out]
  rintro e w2 ⟨rfl, hd2⟩
  have HB2 := Lib.hid (below_then HB1.out HB1.out.size hd2.below)
  clear hd2
  go_wp2_with fail
  go_ret
  exact ⟨rfl, HB2.out⟩

/-- A configuration's box at B. -/
def Bx (c : Cfg) (B : Nat) (W : World) : Prop := W.heap[B]? = some (.cells #[.int .u64 c.seed, .int .i64 c.vocab, .int .i64 c.dim, .int .i64 c.layers, .int .i64 c.top, .int .i64 c.heat] 24 (0, 0))
theorem Bx.below {c : Cfg} {B : Nat} {W W' : World} (h : Bx c B W) (hb : Below W.heap.size W W') : Bx c B W' := blk_below h hb
theorem Bx.new (c : Cfg) (W : World) : Bx c W.heap.size (W.alloc (.cells #[.int .u64 c.seed, .int .i64 c.vocab, .int .i64 c.dim, .int .i64 c.layers, .int .i64 c.top, .int .i64 c.heat] 24)) := heap_alloc_new W _
theorem Bx.at_ {c : Cfg} {B : Nat} {W : World} (h : Bx c B W) : W.cell? ⟨B, 0, none⟩ = some (.int .u64 c.seed) ∧ W.cell? ⟨B, 1, none⟩ = some (.int .i64 c.vocab) ∧ W.cell? ⟨B, 2, none⟩ = some (.int .i64 c.dim) ∧ W.cell? ⟨B, 3, none⟩ = some (.int .i64 c.layers) ∧ W.cell? ⟨B, 4, none⟩ = some (.int .i64 c.top) ∧ W.cell? ⟨B, 5, none⟩ = some (.int .i64 c.heat) := by
  refine ⟨?_, ?_, ?_, ?_, ?_, ?_⟩ <;> rw [blk_cell h] <;> rfl

def RowR (xs : List Int) (w : World) (e : Ending) (w' : World) : Prop := ∃ v, e = .returned v ∧ Own w' w.heap.size 2 v xs ∧ Below w.heap.size w w'
theorem rrow_any (c : Cfg) (hok : c.ok) (t r : Int) (w : World) (t0 : 0 ≤ t) (t1 : t ≤ 30) (r0 : 0 ≤ r) (r1 : r ≤ 255) :
    Calls Try.prog 104 #[c.v, .int .i64 t, .int .i64 r] w (RowR (mrow c t r) w) := by
  obtain ⟨D, hD⟩ : ∃ D : Nat, c.dim = D := ⟨c.dim.toNat, by have := hok.2.1; omega⟩
  have hD16 : D ≤ 16 := by have := hok.2.1; omega
  obtain ⟨wt, hwt⟩ : ∃ wt : Nat → Int, (fun j : Nat => mwt (rat c.seed t) r j) = wt := ⟨_, rfl⟩
  have HMR := Lib.hid (show mrow c t r = tab D wt by unfold mrow; rw [hD, ← hwt]; rfl)
  have HWT := Lib.hid (fun j : Nat => show mwt (rat c.seed t) r j = wt j by rw [← hwt])
  have HBX := Lib.hid (Bx.new c w)
  unfold RowR
  unfold Cfg.v
  obtain ⟨W0, hW0⟩ : ∃ W0, w.alloc (.cells #[.int .u64 c.seed, .int .i64 c.vocab, .int .i64 c.dim, .int .i64 c.layers, .int .i64 c.top, .int .i64 c.heat] 24) = W0 := ⟨_, rfl⟩
  have HBE := Lib.hid (show Below w.heap.size w W0 by rw [← hW0]; exact below_alloc (Below.refl _ w) _)
  rw [hW0] at HBX
  have HW0 := Lib.hid hW0
  have HD := Lib.hid hD
  clear hok hwt hD hW0
  go_enter Try.func104, Try.ntmps104
  go_wp2_with fail
  rw [HW0.out]
  go_loopw [7, 8] (fun v q wr => ∃ j : Nat, q = .int .i64 j ∧ j ≤ D ∧ Own wr W0.heap.size 2 v (tab j wt) ∧ Below W0.heap.size W0 wr) (fun _ q _ => D - (intOf q).toNat)
  case atStart => exact ⟨0, rfl, by omega, Kd.R_nil _ _ _ _ _, Below.refl _ _⟩
  case round =>
    obtain ⟨j, rfl, hj, ho, hb⟩ := hrel
    obtain ⟨x0, x1, x2, x3, x4, x5⟩ := (HBX.out.below hb).at_
    rw [HD.out] at x2
    have hsz := hb.size
    have HO := Lib.hid ho
    have HB := Lib.hid hb
    clear ho hb
    by_cases hjD : j < D
    · have HWj := Lib.hid (HWT.out j)
      go_wp2_with fail
      refine (rweight_any c.seed t r j _ (by omega) (by omega) (by omega) (by omega) (by omega) (by omega)).mono ?_
      rw [HWj.out]
      rintro e w2 ⟨rfl, hb2⟩
      have HO2 := Lib.hid (HO.out.below hb2)
      have HB2 := Lib.hid (below_then HB.out hsz hb2)
      have hsz2 := HB2.out.size
      have hlt : (tab j wt).length ≤ 1000000 := by rw [tab_len]; omega
      clear hb2 x0 x1 x2 x3 x4 x5
      go_wp2_with (at_builtin; refine own_append (w0 := W0) w2 _ W0.heap.size rfl _ _ 25 2 rfl Try.underlying25 infoI64 _ _ (wt j) w2.heap.size rfl rfl rfl rfl HO2.out HB2.out hsz2 hlt ?_; intro v1 w1 ho1 hb1; have HO1 := Lib.hid ho1; have HB1 := Lib.hid hb1; clear ho1 hb1)
      go_roundw
      case rel => exact ⟨j + 1, by go_num, by omega, by rw [tab_succ]; exact HO1.out, HB1.out⟩
      case measure => simp [intOf]; omega
    · have HF := Lib.hid (show tab j wt = mrow c t r by rw [HMR.out, show j = D by omega])
      go_wp2_with fail
      go_ret
      exact ⟨_, rfl, by rw [← HF.out]; exact HO.out.lower HBE.out.size, below_then HBE.out HBE.out.size HB.out⟩

theorem rtoken_any (c : Cfg) (hok : c.ok) (t : Int) (w : World) :
    Calls Try.prog 54 #[c.v, .int .i64 t] w (RowR (mtok c t) w) := by
  have HR := Lib.hid (fun (r0 : 0 ≤ t) (r1 : t < c.vocab) (W : World) => rrow_any c hok 0 t W (by omega) (by omega) r0 (by have := hok.1; omega))
  have HBX := Lib.hid (Bx.new c w)
  have HV := Lib.hid (show c.v = .agg #[.int .u64 c.seed, .int .i64 c.vocab, .int .i64 c.dim, .int .i64 c.layers, .int .i64 c.top, .int .i64 c.heat] from rfl)
  unfold RowR
  rw [HV.out] at HR ⊢
  obtain ⟨W0, hW0⟩ : ∃ W0, w.alloc (.cells #[.int .u64 c.seed, .int .i64 c.vocab, .int .i64 c.dim, .int .i64 c.layers, .int .i64 c.top, .int .i64 c.heat] 24) = W0 := ⟨_, rfl⟩
  have HBE := Lib.hid (show Below w.heap.size w W0 by rw [← hW0]; exact below_alloc (Below.refl _ w) _)
  rw [hW0] at HBX
  have HW0 := Lib.hid hW0
  obtain ⟨x0, x1, x2, x3, x4, x5⟩ := HBX.out.at_
  clear hok hW0
  by_cases h0 : t < 0
  · have HF := Lib.hid (show mtok c t = [] by unfold mtok; rw [if_neg (by omega)])
    go_enter Try.func54, Try.ntmps54
    go_wp2_with fail
    rw [HW0.out]
    go_wp2_with fail
    go_ret
    exact ⟨_, rfl, by rw [HF.out]; exact Kd.R_nil _ _ _ _ _, HBE.out⟩
  · by_cases h1 : c.vocab ≤ t
    · have HF := Lib.hid (show mtok c t = [] by unfold mtok; rw [if_neg (by omega)])
      go_enter Try.func54, Try.ntmps54
      go_wp2_with fail
      rw [HW0.out]
      go_wp2_with fail
      go_ret
      exact ⟨_, rfl, by rw [HF.out]; exact Kd.R_nil _ _ _ _ _, HBE.out⟩
    · have HF := Lib.hid (show mtok c t = mrow c 0 t by unfold mtok; rw [if_pos (by omega)])
      go_enter Try.func54, Try.ntmps54
      go_wp2_with fail
      rw [HW0.out]
      go_wp2_with fail
      refine (HR.out (by omega) (by omega) _).mono ?_
      unfold RowR
      rintro e w2 ⟨v2, rfl, ho2, hb2⟩
      have HO2 := Lib.hid ho2
      have HB2 := Lib.hid hb2
      clear ho2 hb2
      go_wp2_with fail
      go_ret
      exact ⟨_, rfl, by rw [HF.out]; exact HO2.out.lower HBE.out.size, below_then HBE.out HBE.out.size HB2.out⟩

end Go.Proofs.Ytdfgmdmcdnnhfaa
