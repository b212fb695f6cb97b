/- slices.Concat; decode's Start, From, Ref. -/
import Derived.Test.YtdfgmdmcdnnhfaaGreatDcD
import Derived.Lib.AppendZerosOnto
namespace Go.Proofs.YtdfgmdmcdnnhfaaGreat
open Go.RowKit Go.Shelf Go.Proofs.YtdfgmdmcdnnhfaaGreatW.PrintWords Go.Proofs.YtdfgmdmcdnnhfaaGreatW.PrintLast Go.Proofs.YtdfgmdmcdnnhfaaGreatW.PrintMore
set_option linter.unusedVariables false
set_option linter.unusedSimpArgs false
set_option maxRecDepth 100000
attribute [local go_sem] gb_max2 gb_min2 gb_max_two gb_min_two gb_max_three gb_min_three run_cfg1 run_cfg2 run_cfg3

theorem cutI2 (A : Option Addr) (n c : Nat) (j : Nat) (h : j ≤ n) (hc : n ≤ c) : ∀ W : World, (Instr.slice 25 (.slice A n c) none (some (.int .i64 j)) none).run Tryz.prog W = .ok (.slice A j c) W := by
  obtain ⟨i, hi, _, hs, _⟩ := info_parts infoInt
  have h1 := cut_to (P := Tryz.prog) 25 3 .i64 Tryz.underlying25 hi A n c j (by omega) (by omega) hc
  rwa [Int.toNat_natCast] at h1
/-- Grow, of nil. -/
theorem grow_zero (W : World) : Calls Tryz.prog 59 #[.slice none 0 0, .int .i64 0] W fun e w' => e = .returned (.slice none 0 0) ∧ w' = W := by
  go_enter Tryz.func59, Tryz.ntmps59
  go_wp2_with fail
  go_ret
  exact ⟨rfl, rfl⟩
theorem grow_some (n : Nat) (h0 : 0 < n) (hn : n ≤ 100000) (W : World) : Calls Tryz.prog 59 #[.slice none 0 0, .int .i64 n] W fun e w' => ∃ v, e = .returned v ∧ Own w' W.heap.size 3 v [] ∧ Below W.heap.size W w' := by
  obtain ⟨i0, hi, hz0, hz1, hz2⟩ := info_parts infoInt
  have hG := grownCap_ge W (0 + n) 0 3
  have hG63 := grownCap_le_maxLen W (0 + n) 0 3 (by unfold maxLen; omega)
  have hrz : ∀ ty, (Builtin.append_ #[25, 3] ty #[.slice none 0 0, .int .i64 (n : Int)]).run Tryz.prog W = .ok (.slice (some ⟨W.heap.size, 0, none⟩) (0 + n) (grownCap W (0 + n) 0 3)) (W.drew.alloc (.cells ((#[] : Array Value) ++ Builtin.zeroCells (Value.int .i64 0).cells n ++ Builtin.zeroCells (Value.int .i64 0).cells (grownCap W (0 + n) 0 3 - (0 + n))) 3)) := fun ty =>
    Lib.run_append_grow_zeros W 25 3 ty 3 i0 (.int .i64 0) .i64 .i64 Tryz.underlying25 Tryz.underlying3 hi hz0 none 0 0 [] (run_firstCells_none W.drew i0.size 0 0 0) n h0 (by omega) (by omega) (by omega) (by rw [hz2]; omega) (growslice_fits (by omega) (by rw [hz2]; omega))
  obtain ⟨G, hGe⟩ : ∃ G, grownCap W (0 + n) 0 3 = G := ⟨_, rfl⟩
  rw [hGe] at hrz hG hG63
  rw [show 0 + n = n by omega] at hrz hG
  obtain ⟨Z, hZ⟩ : ∃ Z, (#[] : Array Value) ++ Builtin.zeroCells (Value.int .i64 0).cells n ++ Builtin.zeroCells (Value.int .i64 0).cells (G - n) = Z := ⟨_, rfl⟩
  rw [hZ] at hrz
  have hZs : Z.size = G := by rw [← hZ]; simp [Builtin.zeroCells, Value.cells]; omega
  have HO := Lib.hid (show Own (W.drew.alloc (.cells Z 3)) W.heap.size 3 (.slice (some ⟨W.heap.size, 0, none⟩) 0 G) [] from Own.of_raw ⟨rfl, .inr ⟨W.heap.size, G, Z, rfl, Nat.le_refl _, heap_alloc_new W.drew _, Nat.zero_le _, hG63, by omega, by simp [encs]⟩⟩)
  have HB := Lib.hid (below_alloc (below_drew (Below.refl W.heap.size W)) (.cells Z 3))
  have hc := cutI2 (some ⟨W.heap.size, 0, none⟩) n G 0 (by omega) (by omega)
  have h9 : G ≤ 9223372036854775807 := by unfold maxLen at hG63; omega
  clear hGe hZ hZs hG63 hi hz0 hz1 hz2
  go_enter Tryz.func59, Tryz.ntmps59
  go_wp2_with (at_builtin; refine Lib.wpList_append_run _ rfl _ _ _ _ rfl _ _ rfl rfl _ _ (hrz _) ?_)
  all_goals
    go_ret
    exact ⟨_, rfl, HO.out, HB.out⟩

theorem grow_any (n : Nat) (hn : n ≤ 100000) (W : World) : Calls Tryz.prog 59 #[.slice none 0 0, .int .i64 n] W fun e w' => ∃ v, e = .returned v ∧ Own w' W.heap.size 3 v [] ∧ Below W.heap.size W w' := by
  rcases Nat.eq_zero_or_pos n with h0 | h0
  · subst h0
    refine (grow_zero W).mono ?_
    rintro e w' ⟨rfl, rfl⟩
    exact ⟨_, rfl, Kd.R_nil _ _ _ _ _, Below.refl _ _⟩
  · exact grow_some n h0 hn W
set_option maxHeartbeats 1000000 in
theorem concat_any (W : World) (b : Nat) (A1 A2 : Option Addr) (c1 c2 : Nat) (xs ys : List Int) (hb : W.heap[b]? = some (.cells #[.slice A1 xs.length c1, .slice A2 ys.length c2] 25 (0, 0))) (hx : (Kd.int .i64).C W A1 xs.length xs) (hy : (Kd.int .i64).C W A2 ys.length ys) (hl : xs.length + ys.length ≤ 5000) :
    Calls Tryz.prog 40 #[.slice (some ⟨b, 0, none⟩) 2 2] W fun e w' => ∃ v, e = .returned v ∧ Own w' W.heap.size 3 v (xs ++ ys) ∧ Below W.heap.size W w' := by
  have k0 := blk_cell hb 0
  have k1 := blk_cell hb 1
  have HX := Lib.hid (fun (W' : World) (hb : Below W.heap.size W W') => Kd.C_below hx hb)
  have HY := Lib.hid (fun (W' : World) (hb : Below W.heap.size W W') => Kd.C_below hy hb)
  have HBK := Lib.hid hb
  obtain ⟨n, hn⟩ : ∃ n, xs.length = n := ⟨_, rfl⟩
  obtain ⟨m, hm⟩ : ∃ n, ys.length = n := ⟨_, rfl⟩
  have HN := Lib.hid hn
  have HM := Lib.hid hm
  rw [hn] at k0 hl
  rw [hm] at k1 hl
  have HG := Lib.hid (grow_any (n + m) (by omega))
  have e1 : ((n + m : Nat) : Int) = (n : Int) + (m : Int) := by omega
  rw [e1] at HG
  clear hx hy hb hn hm e1
  go_enter Tryz.func40, Tryz.ntmps40
  go_wp2_with fail
  go_loopw [3, 11] (fun z s wr => wr = W ∧ ((s = .int .i64 0 ∧ z = .int .i64 0) ∨ (s = .int .i64 1 ∧ z = .int .i64 n) ∨ (s = .int .i64 2 ∧ z = .int .i64 ((n : Int) + (m : Int))))) (fun _ s _ => 2 - (intOf s).toNat)
  case atStart => exact ⟨rfl, .inl ⟨rfl, rfl⟩⟩
  case round =>
    obtain ⟨hw, hrel⟩ := hrel
    subst hw
    rcases hrel with ⟨rfl, rfl⟩ | ⟨rfl, rfl⟩ | ⟨rfl, rfl⟩
    · go_wp2_with fail
      go_roundw
      case rel => exact ⟨by first | rfl | trivial, .inr (.inl ⟨by first | rfl | trivial, by first | rfl | trivial⟩)⟩
      case measure => simp [intOf]
    · go_wp2_with fail
      go_roundw
      case rel => exact ⟨by first | rfl | trivial, .inr (.inr ⟨by first | rfl | trivial, by first | rfl | trivial⟩)⟩
      case measure => simp [intOf]
    · obtain ⟨wo, hwo⟩ : ∃ w, w = wr := ⟨_, rfl⟩
      subst hwo
      go_wp2_with fail
      refine (HG.out wo).mono ?_
      rintro e w2 ⟨v, rfl, ho, hb⟩
      have HO := Lib.hid ho
      have HB := Lib.hid hb
      clear ho hb HG
      go_wp2_with fail
      go_loopw [6, 27] (fun v s wr => ∃ v', v' = v ∧ Hid (Below wo.heap.size wo wr) ∧ ((s = .int .i64 0 ∧ Hid (Own wr wo.heap.size 3 v [])) ∨ (s = .int .i64 1 ∧ Hid (Own wr wo.heap.size 3 v xs)) ∨ (s = .int .i64 2 ∧ Hid (Own wr wo.heap.size 3 v (xs ++ ys))))) (fun _ s _ => 2 - (intOf s).toNat)
      case atStart => exact ⟨_, rfl, HB, .inl ⟨rfl, HO⟩⟩
      case round =>
        obtain ⟨v, rfl, HB, hrel⟩ := hrel
        have k0 := blk_cell (HB.out.block b (blk_lt HBK.out) ▸ HBK.out) 0
        have k1 := blk_cell (HB.out.block b (blk_lt HBK.out) ▸ HBK.out) 1
        rw [HN.out] at k0
        rw [HM.out] at k1
        rcases hrel with ⟨rfl, HO⟩ | ⟨rfl, HO⟩ | ⟨rfl, HO⟩
        · have HC := Lib.hid (HX.out wr HB.out)
          rw [HN.out] at HC
          go_wp2_with (at_builtin; refine Kd.R_append_row (w0 := wo) (Value.int .i64) 0 (h1 := fun _ => rfl) wo.heap.size rfl _ _ 25 3 (.int .i64 0) 8 rfl Tryz.underlying25 infoInt rfl (by decide) v [] xs A1 n c1 (fun _ => True) rfl rfl (fun _ _ => trivial) HO.out HC.out HB.out HB.out.size (by first | (rw [HN.out]; omega) | (simp; omega)) ?_; intro v1 w1 hr1 hb1 hg1 hat1; have HR1 := Lib.hid hr1; have HB1 := Lib.hid hb1; clear hr1 hb1 hg1 hat1)
          go_roundw
          case rel => exact ⟨_, rfl, HB1, .inr (.inl ⟨by first | rfl | trivial, HR1⟩)⟩
          case measure => simp [intOf]
        · have HC := Lib.hid (HY.out wr HB.out)
          rw [HM.out] at HC
          go_wp2_with (at_builtin; refine Kd.R_append_row (w0 := wo) (Value.int .i64) 0 (h1 := fun _ => rfl) wo.heap.size rfl _ _ 25 3 (.int .i64 0) 8 rfl Tryz.underlying25 infoInt rfl (by decide) v xs ys A2 m c2 (fun _ => True) rfl rfl (fun _ _ => trivial) HO.out HC.out HB.out HB.out.size (by first | (rw [HN.out]; omega) | (simp; omega)) ?_; intro v1 w1 hr1 hb1 hg1 hat1; have HR1 := Lib.hid hr1; have HB1 := Lib.hid hb1; clear hr1 hb1 hg1 hat1)
          go_roundw
          case rel => exact ⟨_, rfl, HB1, .inr (.inr ⟨by first | rfl | trivial, HR1⟩)⟩
          case measure => simp [intOf]
        · go_wp2_with fail
          go_ret
          exact ⟨_, rfl, HO.out, HB.out⟩

end Go.Proofs.YtdfgmdmcdnnhfaaGreat
