/- model.New. -/
import Derived.Test.YtdfgmdmcdnnhfaaGreatMoM
import Derived.Deep.RegionHeld3
namespace Go.Proofs.YtdfgmdmcdnnhfaaGreat
open Go.RowKit Go.Shelf Go.Proofs.YtdfgmdmcdnnhfaaGreatW.PrintWords Go.Proofs.YtdfgmdmcdnnhfaaGreatW.PrintLast Go.Proofs.YtdfgmdmcdnnhfaaGreatW.PrintMore
set_option linter.unusedVariables false
set_option linter.unusedSimpArgs false
set_option maxRecDepth 100000
attribute [local go_sem] gb_max2 gb_min2 gb_max_two gb_min_two gb_max_three gb_min_three

theorem new_bad (c : Cfg) (hok : ¬ c.ok) (w : World) : Calls Tryz.prog 5 #[c.v] w (NewNo w) := by
  have HM := Lib.hid (fun W => may_any c W)
  have HV := Lib.hid (show c.v = .agg #[.int .u64 c.seed, .int .i64 c.vocab, .int .i64 c.dim, .int .i64 c.layers, .int .i64 c.top, .int .i64 c.heat] from rfl)
  unfold NewNo
  rw [decide_eq_false hok, HV.out] at HM
  rw [HV.out]
  clear hok
  go_enter Tryz.func5, Tryz.ntmps5
  go_wp2_with fail
  refine (HM.out _).mono ?_
  unfold BoolB
  rintro e w1 ⟨rfl, hb1⟩
  have HB1 := Lib.hid (show Below w.heap.size w w1 from below_then (below_alloc (Below.refl _ w) _) (by simp) hb1)
  clear hb1
  go_wp2_with fail
  go_ret2
  exact ⟨rfl, HB1.out⟩

set_option maxHeartbeats 4000000 in
theorem new_ok (c : Cfg) (hok : c.ok) (w : World) : Calls Tryz.prog 5 #[c.v] w (NewYes c w) := by
  have HM := Lib.hid (fun W => may_any c W)
  have HV := Lib.hid (show c.v = .agg #[.int .u64 c.seed, .int .i64 c.vocab, .int .i64 c.dim, .int .i64 c.layers, .int .i64 c.top, .int .i64 c.heat] from rfl)
  have HOK := Lib.hid hok
  unfold NewYes
  rw [decide_eq_true hok, HV.out] at HM
  rw [HV.out]
  obtain ⟨V, hV⟩ : ∃ V : Nat, c.vocab = V := ⟨c.vocab.toNat, by have := hok.1; omega⟩
  obtain ⟨D, hD⟩ : ∃ D : Nat, c.dim = D := ⟨c.dim.toNat, by have := hok.2.1; omega⟩
  obtain ⟨L, hL⟩ : ∃ L : Nat, c.layers = L := ⟨c.layers.toNat, by have := hok.2.2.1; omega⟩
  have hV64 : V ≤ 64 := by have := hok.1; omega
  have hD16 : D ≤ 16 := by have := hok.2.1; omega
  have hD1 : 1 ≤ D := by have := hok.2.1; omega
  have hL4 : L ≤ 4 := by have := hok.2.2.1; omega
  have HVV := Lib.hid hV
  have HD := Lib.hid hD
  have HL := Lib.hid hL
  have HBX := Lib.hid (Bx.new c w)
  obtain ⟨W0, hW0⟩ : ∃ W0, w.alloc (.cells #[.int .u64 c.seed, .int .i64 c.vocab, .int .i64 c.dim, .int .i64 c.layers, .int .i64 c.top, .int .i64 c.heat] 24) = W0 := ⟨_, rfl⟩
  obtain ⟨B0, hB0⟩ : ∃ B0, w.heap.size = B0 := ⟨_, rfl⟩
  have HBE := Lib.hid (show Below w.heap.size w W0 by rw [← hW0]; exact below_alloc (Below.refl _ w) _)
  rw [hW0, hB0] at HBX
  have HW0 := Lib.hid hW0
  have HB0 := Lib.hid hB0
  obtain ⟨x0, x1, x2, x3, x4, x5⟩ := HBX.out.at_
  clear hok hV hD hL hW0 hB0
  go_enter Tryz.func5, Tryz.ntmps5
  go_wp2_with fail
  rw [HW0.out, HB0.out]
  refine (HM.out _).mono ?_
  unfold BoolB
  rintro e w1 ⟨rfl, hb1⟩
  have HX1 := Lib.hid (HBX.out.below hb1)
  have HB1 := Lib.hid (below_then HBE.out HBE.out.size hb1)
  clear hb1 x0 x1 x2 x3 x4 x5
  obtain ⟨x0, x1, x2, x3, x4, x5⟩ := HX1.out.at_
  go_wp2_with fail
  obtain ⟨W2, hW2⟩ : ∃ W2, w1.alloc (.cells (moCells c (.slice none 0 0)) 52) = W2 := ⟨_, rfl⟩
  obtain ⟨p, hp⟩ : ∃ p, w1.heap.size = p := ⟨_, rfl⟩
  have HX2 := Lib.hid (show Bx c B0 W2 by rw [← hW2]; exact HX1.out.below (below_alloc (Below.refl _ _) _))
  have HP2 := Lib.hid (show W2.heap[p]? = some (.cells (moCells c (.slice none 0 0)) 52 (0, 0)) by rw [← hW2, ← hp]; exact heap_alloc_new _ _)
  have HB2 := Lib.hid (show Below w.heap.size w W2 by rw [← hW2]; exact below_alloc HB1.out _)
  have hge : w.heap.size ≤ p := by rw [← hp]; exact HB1.out.size
  unfold moCells at hW2
  rw [hW2, hp]
  have h := table_any W2 p c HOK.out (by rw [blk_cell HP2.out]; rfl) (by rw [blk_cell HP2.out]; rfl) 1 (by omega) (by omega) 256 (by omega)
  rw [show ((256 : Nat) : Int) = 256 from rfl] at h
  have HTB := Lib.hid h
  clear hW2 hp h x0 x1 x2 x3 x4 x5
  refine HTB.out.mono ?_
  unfold TabR
  rintro e W3 ⟨g, vs, rfl, hT, hb3⟩
  obtain ⟨wt, hwt⟩ : ∃ wt : Nat → Nat → Int, (fun (r j : Nat) => mwt (rat c.seed 1) r j) = wt := ⟨_, rfl⟩
  have HT3 := Lib.hid (show Tb W3 w.heap.size g 256 vs (pst wt D 0 0) by
    obtain ⟨a0, a1, a2, a3⟩ := hT
    exact (show Tb W3 w.heap.size g 256 vs (fun r : Nat => mrow c 1 r) from ⟨Nat.le_trans HB2.out.size a0, a1, fun r hr => (a2 r hr).lower HB2.out.size, a3⟩).congr fun r hr => by rw [← pst_start, ← hwt]; unfold mrow; rw [HD.out]; rfl)
  have HX3 := Lib.hid (HX2.out.below hb3)
  have HP3 := Lib.hid (blk_below HP2.out hb3)
  have HB3 := Lib.hid (below_then HB2.out HB2.out.size hb3)
  have HWT := Lib.hid hwt
  clear hT hb3 HTB hwt
  go_wp2_with fail
  go_loopw [24] (fun q wr => ∃ i : Nat, q = .int .i64 i ∧ i ≤ 256 ∧ Tb wr w.heap.size g 256 vs (pst wt D i 0) ∧ Bx c B0 wr ∧ wr.heap[p]? = some (.cells (moCells c (.slice none 0 0)) 52 (0, 0)) ∧ Below w.heap.size w wr) (fun q _ => 256 - (intOf q).toNat)
  case atStart => exact ⟨0, rfl, by omega, HT3.out, HX3.out, HP3.out, HB3.out⟩
  case round =>
    obtain ⟨i, rfl, hi, hT, hX, hP, hB⟩ := hrel
    by_cases hin : i < 256
    · obtain ⟨b, cap, hv, hb1, hb2⟩ := Own.form_n (hT.2.2.1 i hin) (pst_len wt D i 0 i) (by omega)
      have gi : decide ((i : Int) < 256) = true := decide_eq_true (by omega)
      have hc := (hT.at_ i hin).1
      rw [hv] at hc
      have HV2 := Lib.hid hv
      have HT := Lib.hid hT
      have HX := Lib.hid hX
      have HP := Lib.hid hP
      have HB := Lib.hid hB
      clear hT hX hP hB hv
      go_wp2_with fail
      go_loopw [30] (fun q wr => ∃ j : Nat, q = .int .i64 j ∧ j ≤ D ∧ Tb wr w.heap.size g 256 vs (pst wt D i j) ∧ Bx c B0 wr ∧ wr.heap[p]? = some (.cells (moCells c (.slice none 0 0)) 52 (0, 0)) ∧ Below w.heap.size w wr) (fun q _ => D - (intOf q).toNat)
      case atStart => exact ⟨0, rfl, by omega, HT.out, HX.out, HP.out, HB.out⟩
      case round =>
        obtain ⟨j, rfl, hj, hT2, hX2, hP2, hB2⟩ := hrel
        by_cases hjD : j < D
        · have ho := hT2.2.2.1 i hin
          rw [HV2.out] at ho
          obtain ⟨c1, f1⟩ := ho.at_n (pst_len wt D i j i) j hjD
          rw [pst_get wt D i j hjD] at c1
          have hbp : b ≠ p := by
            intro e
            obtain ⟨cells, hc2⟩ := own_typed ho.raw b rfl
            exact blk_ne hc2 hP2 (by decide) e
          have HPK := Lib.hid (fun x : Int => (hT2.poke i hin (cap := cap) (by rw [HV2.out, pst_len]) j x))
          have HX2 := Lib.hid (fun x : Int => (show Bx c B0 (wr.setCell ⟨b, j, none⟩ (.int .i64 x)) from blk_far hX2 (fun e => by
            obtain ⟨cells, hc2⟩ := own_typed ho.raw b rfl
            exact blk_ne hc2 hX2 (by decide) e.symm) _))
          have HP2' := Lib.hid (fun x : Int => (blk_far (p := ⟨b, j, none⟩) hP2 (Ne.symm hbp) (.int .i64 x)))
          have HB2 := Lib.hid hB2
          obtain ⟨x, hx⟩ : ∃ x, wt i j = x := ⟨_, rfl⟩
          rw [hx] at c1
          have HXX := Lib.hid hx
          clear ho hT2 hX2 hP2 hB2 hx
          go_wp2_with fail
          refine (mul_any _ _ _).mono ?_
          rintro e w' ⟨rfl, rfl⟩
          go_wp2_with fail
          go_roundw
          case rel => exact ⟨j + 1, by go_num, by omega, (HPK.out _).congr (fun r _ => by rw [← HXX.out]; exact pst_put wt D i j r), HX2.out _, HP2'.out _, HB2.out.setCell (p := ⟨b, j, none⟩) hb1 _⟩
          case measure => simp [intOf]; omega
        · have HT2 := Lib.hid (hT2.congr (f' := pst wt D (i + 1) 0) (fun r _ => by rw [show j = D by omega]; exact pst_next wt D i r))
          have HX2 := Lib.hid hX2
          have HP2 := Lib.hid hP2
          have HB2 := Lib.hid hB2
          clear hT2 hX2 hP2 hB2
          go_wp2_with fail
          go_roundw
          case rel => exact ⟨i + 1, by go_num, by omega, HT2.out, HX2.out, HP2.out, HB2.out⟩
          case measure => simp [intOf]; omega
    · have HT := Lib.hid (hT.congr (f' := fun r : Nat => mplace c r) (fun r hr => by rw [show i = 256 by omega, pst_full wt D 256 r hr, mplace_eq, HD.out, ← HWT.out]; rfl))
      obtain ⟨x0, x1, x2, x3, x4, x5⟩ := hX.at_
      have m6 : wr.cell? ⟨p, 6, none⟩ = some (.slice none 0 0) := by rw [blk_cell hP]; rfl
      rw [HVV.out] at x1
      have HTAB := Lib.hid (fun (W' : World) (hb : Below wr.heap.size wr W') => show Calls Tryz.prog 20 #[.pointer (some ⟨p, 0, none⟩), .int .i64 0, .int .i64 V] W' (TabR W' c 0 V) from
        table_any W' p c HOK.out (by rw [blk_cell (blk_below hP hb)]; rfl) (by rw [blk_cell (blk_below hP hb)]; rfl) 0 (by omega) (by omega) V (by omega))
      have HX := Lib.hid hX
      have HP := Lib.hid hP
      have HB := Lib.hid hB
      have hsz := hB.size
      have gi : decide ((i : Int) < 256) = false := decide_eq_false (by omega)
      clear hT hX hP hB x0 x2 x3 x4 x5 hin
      go_wp2_with fail
      go_region_law (first
        | (refine Kd.R_append_rows_step KT (Rr := KT.M (w4.alloc (.cells #[.slice (some ⟨g4, 0, none⟩) V V, .slice (some ⟨g, 0, none⟩) 256 256] 54)) w.heap.size (fun _ => True)) (w0 := w) w.heap.size rfl _ _ 50 54 (.slice none 0 0) 24 rfl Tryz.underlying50 infoTab rfl (by decide) (by decide) (.slice none 0 0) [] [mtab c 0 V, (List.range 256).map fun r : Nat => mplace c r] (some ⟨w4.heap.size, 0, none⟩) 2 2 (fun _ => True) (fun _ => True) rfl rfl (Kd.R_nil _ _ _ _ _) (two_tabs (HM4.out) (HM1.out) _) (fun _ _ h => h) (fun _ _ => ⟨trivial, by simp [Value.ownBlock]⟩) (fun _ _ => trivial) (below_alloc HB4.out _) (Nat.le_trans HB4.out.size (by simp)) (by simp) ?_; intro v5 w5 hr5 hb5 hg5 hat5; obtain ⟨A5, c5, hv5, -, -⟩ := Kd.R_reads hr5; have hv6 : v5 = .slice A5 2 c5 := hv5; clear hv5; subst hv6; have HR5 := Lib.hid hr5; have HB5 := Lib.hid hb5; have HP5 := Lib.hid (blk_grown (blk_alloc HP4.out _) hg5 (by simp [Value.ownBlock])); have HX5 := Lib.hid (blk_grown (blk_alloc HX4.out _) hg5 (by simp [Value.ownBlock])); have q5 : w5.cell? ⟨p, 6, none⟩ = some (.slice none 0 0) := (by rw [blk_cell HP5.out]; rfl); have f5 := blk_frozen HP5.out 6; clear hr5 hb5 hg5 hat5)
        | (go_simp; go_at_call 20; refine (HTAB.out _ (below_drew (Below.refl _ _))).mono ?_; unfold TabR; rintro e w4 ⟨g4, vs4, rfl, hT4, hb4⟩; have HB4 := Lib.hid (below_then HB.out hsz (below_then (below_drew (Below.refl _ wr)) (Nat.le_refl _) hb4)); have HM4 := Lib.hid (hT4.toM (base := w.heap.size) (by omega) hsz); have HM1 := Lib.hid ((HT.out.below (below_then (below_drew (Below.refl _ wr)) (Nat.le_refl _) hb4)).toM (base := w.heap.size) (by omega) (Nat.le_refl _)); have HP4 := Lib.hid (blk_below (w := wr.drew) HP.out hb4); have HX4 := Lib.hid (blk_below (w := wr.drew) HX.out hb4); have q4 : w4.cell? ⟨p, 6, none⟩ = some (.slice none 0 0) := (by rw [blk_cell HP4.out]; rfl); have q4' : ∀ o : Obj, (w4.alloc o).cell? ⟨p, 6, none⟩ = some (.slice none 0 0) := (fun o => by rw [blk_cell (blk_alloc HP4.out o)]; rfl); clear hT4 hb4))
      all_goals
        obtain ⟨W6, hW6⟩ : ∃ W6, w5.setCell ⟨p, 6, none⟩ (.slice A5 2 c5) = W6 := ⟨_, rfl⟩
        have HN6 := Lib.hid (show Nw c w B0 p (.slice A5 2 c5) (ntabs c 0) W6 by
          rw [← hW6]
          refine ⟨blk_far HX5.out (fun e => blk_ne HX5.out HP5.out (by decide) e) _, blk_set HP5.out 6 _, ?_, HB5.out.setCell (p := ⟨p, 6, none⟩) hge _, hge⟩
          have h := Kd.R_set HR5.out HP5.out (by decide) 6 (.slice A5 2 c5)
          unfold ntabs
          rw [HVV.out]
          exact h)
        rw [hW6]
        obtain ⟨x0, x1, x2, x3, x4, x5⟩ := HN6.out.box.at_
        rw [HL.out] at x3
        clear hW6 q5 f5 q4 q4' m6 HTAB HR5 HX5 HP5 HB5 HM4 HM1 HP4 HX4 HB4
        go_wp2_with fail
        clear x0 x1 x2 x3 x4 x5
        go_loopw [59] (fun q wr => ∃ (i : Nat) (v : Value), q = .int .i64 i ∧ i ≤ 6 * L ∧ Nw c w B0 p v (ntabs c i) wr) (fun q _ => 6 * L - (intOf q).toNat)
        case atStart => exact ⟨0, _, rfl, by omega, HN6.out⟩
        case round =>
          obtain ⟨i, v, rfl, hi, hN⟩ := hrel
          by_cases hiL : i < 6 * L
          · obtain ⟨x0, x1, x2, x3, x4, x5⟩ := hN.box.at_
            have m6 : wr.cell? ⟨p, 6, none⟩ = some v := by rw [blk_cell hN.blk]; rfl
            rw [HD.out] at x2
            have HTAB := Lib.hid (fun (W' : World) (hb : Below wr.heap.size wr W') => show Calls Tryz.prog 20 #[.pointer (some ⟨p, 0, none⟩), .int .i64 (2 + i), .int .i64 D] W' (TabR W' c (2 + i) D) from
              table_any W' p c HOK.out (by rw [blk_cell (blk_below hN.blk hb)]; rfl) (by rw [blk_cell (blk_below hN.blk hb)]; rfl) (2 + i) (by omega) (by omega) D (by omega))
            have HN := Lib.hid hN
            have hsz := hN.bel.size
            have HW24 := Lib.hid (show IntKind.i64.wrap (2 + (i : Int)) = 2 + i by rw [IntKind.wrap_i64]; omega)
            have hlen : (ntabs c i).length = 2 + i := by unfold ntabs; simp; omega
            have HLEN := Lib.hid hlen
            clear hN x0 x1 x3 x4 x5 hlen
            go_wp2_with fail
            go_region_law (first
              | (refine Kd.R_append_step KT (w0 := w) (W := w4) w.heap.size rfl _ _ 50 54 (.slice none 0 0) 24 rfl Tryz.underlying50 infoTab rfl (by decide) (by decide) v (ntabs c i) (mtab c (2 + i) D) [.slice (some ⟨g4, 0, none⟩) D D] (fun _ => True) (fun k => True ∧ some k ≠ v.ownBlock) rfl rfl ⟨_, rfl, HM4.out⟩ (fun _ h => h) (fun _ _ => trivial) (Kd.R_below HN.out.row HE4.out) HB4.out (Nat.le_trans hsz HE4.out.size) (by rw [HLEN.out]; omega) ?_; intro v5 w5 hr5 hb5 hg5 hat5; obtain ⟨A5, c5, hv5, -, -⟩ := Kd.R_reads hr5; rw [List.length_append, HLEN.out] at hv5; subst hv5; have HR5 := Lib.hid hr5; have HB5 := Lib.hid hb5; have HP5 := Lib.hid (blk_grown (blk_below HN.out.blk HE4.out) hg5 (Kd.R_ne (Kd.R_below HN.out.row HE4.out) (blk_below HN.out.blk HE4.out) (by decide))); have HX5 := Lib.hid (show Bx c B0 w5 from blk_grown (HN.out.box.below HE4.out) hg5 (Kd.R_ne (Kd.R_below HN.out.row HE4.out) (HN.out.box.below HE4.out) (by decide))); have q5 : w5.cell? ⟨p, 6, none⟩ = some v := (by rw [blk_cell HP5.out]; rfl); have f5 := blk_frozen HP5.out 6; clear hr5 hb5 hg5 hat5)
              | (go_simp; go_at_call 20; try rw [HW24.out]; refine (HTAB.out _ (below_drew (Below.refl _ _))).mono ?_; unfold TabR; rintro e w4 ⟨g4, vs4, rfl, hT4, hb4⟩; have HE4 := Lib.hid (below_then (below_drew (Below.refl _ wr)) (Nat.le_refl _) hb4); have HB4 := Lib.hid (below_then HN.out.bel hsz HE4.out); have HM4 := Lib.hid (Kd.R_apart' (Kd.R_lower (hT4.toR (by omega)) (show w.heap.size ≤ wr.drew.heap.size from hsz)) (Kd.R_typed (Kd.R_below HN.out.row HE4.out)) (by decide)); have q4 : w4.cell? ⟨p, 6, none⟩ = some v := (pw_cell_below HE4.out m6); have q4' : ∀ o : Obj, (w4.alloc o).cell? ⟨p, 6, none⟩ = some v := (fun o => pw_cell_below (below_alloc HE4.out o) m6); clear hT4 hb4))
            all_goals
              go_wp2_with fail
              go_roundw
              case rel =>
                refine ⟨i + 1, _, by go_num, by omega, blk_far HX5.out (fun e => blk_ne HX5.out HP5.out (by decide) e) _, blk_set HP5.out 6 _, ?_, HB5.out.setCell (p := ⟨p, 6, none⟩) hge _, hge⟩
                have h := Kd.R_set HR5.out HP5.out (by decide) 6 (.slice A5 (2 + i + 1) c5)
                rw [ntabs_succ, HD.out]
                exact h
              case measure => simp [intOf]; omega
          · have HN := Lib.hid hN
            have HI := Lib.hid (show i = (6 * c.layers).toNat by rw [HL.out]; omega)
            clear hN
            go_wp2_with fail
            go_ret2
            obtain ⟨A, k, rfl, hk, hC⟩ := Kd.R_reads HN.out.row
            have h := HN.out.blk
            rw [HI.out, ntabs_end] at h hk hC
            exact ⟨p, rfl, ⟨A, k, h, hk, hC⟩, HN.out.bel⟩

end Go.Proofs.YtdfgmdmcdnnhfaaGreat
