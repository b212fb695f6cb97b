/- The document's Rows and Step; Step of a layer that is not there. -/
import Derived.Test.YtdfgmdmcdnnhfaaAtS
namespace Go.Proofs.Ytdfgmdmcdnnhfaa
open Go.RowKit Go.Shelf Go.Proofs.YtdfgmdmcdnnhfaaW.PrintWords Go.Proofs.YtdfgmdmcdnnhfaaW.PrintLast Go.Proofs.YtdfgmdmcdnnhfaaW.PrintMore
set_option linter.unusedVariables false
set_option linter.unusedSimpArgs false
set_option maxRecDepth 100000
attribute [local go_sem] gb_max2 gb_min2 gb_max_two gb_min_two gb_max_three gb_min_three run_cfg1 run_cfg2 run_cfg3

def StepO (xs : List Int) (w : World) (e : Ending) (w' : World) : Prop := ∃ A1 c1, e = .returned (.tuple #[.slice A1 xs.length c1, .slice none 0 0, .slice none 0 0]) ∧ Own w' w.heap.size 2 (.slice A1 xs.length c1) xs ∧ Below w.heap.size w w'
theorem step_out (W : World) (p : Nat) (c : Cfg) (hok : c.ok) (h : Mo W p c) (l : Int) (hl : ¬ c.in_ l) (A KA VA : Option Addr) (px nk pk nv pv : Nat) (xs : List Int) (hx : (Kd.int .i64).C W A xs.length xs) (hcx : xs.length ≤ px) (hnx : xs.length ≤ 4096) :
    Calls Try.prog 21 #[.pointer (some ⟨p, 0, none⟩), .int .i64 l, .slice A xs.length px, .slice KA nk pk, .slice VA nv pv] W (StepO xs W) := by
  obtain ⟨W0, hW0⟩ : ∃ W0, (W.alloc (.cells #[.pointer (some ⟨p, 0, none⟩)] 28)).alloc (.cells #[.int .i64 l] 3) = W0 := ⟨_, rfl⟩
  have hHB : Below W.heap.size W W0 := by rw [← hW0]; exact below_alloc (below_alloc (Below.refl _ W) _) _
  have hb5 : W0.cell? ⟨W.heap.size, 0, none⟩ = some (.pointer (some ⟨p, 0, none⟩)) := by rw [← hW0, blk_cell (blk_alloc (heap_alloc_new W _) _)]; rfl
  have hb6 : W0.cell? ⟨W.heap.size + 1, 0, none⟩ = some (.int .i64 l) := by rw [← hW0, blk_cell (heap_alloc2_new W _ _)]; rfl
  obtain ⟨b5, e5⟩ : ∃ b, W.heap.size = b := ⟨_, rfl⟩
  obtain ⟨b6, e6⟩ : ∃ b, W.heap.size + 1 = b := ⟨_, rfl⟩
  rw [e5] at hb5
  rw [e6] at hb6
  have hC := rowsc_any W0 p b5 b6 c hok (h.below hHB) l 0 hb5 hb6
  rw [mrows_out c l 0 hl] at hC
  have HCT := Lib.hid hC
  have HX := Lib.hid (fun (W' : World) (hb : Below W.heap.size W W') => toO (clone_any A px xs W' (Kd.C_below hx hb) hcx (by omega)))
  have HB := Lib.hid hHB
  have HW0 := Lib.hid hW0
  have E5 := Lib.hid e5
  have E6 := Lib.hid (show b5 + 1 = b6 by omega)
  obtain ⟨nx, hnxe⟩ : ∃ n, xs.length = n := ⟨_, rfl⟩
  unfold RowO at HX
  rw [hnxe] at HX
  unfold StepO
  rw [hnxe]
  clear hW0 hHB hb5 hb6 e5 e6 h hx hok hl hnxe hC hcx hnx
  go_enter Try.func21, Try.ntmps21
  go_wp2_with fail
  try rw [E5.out]
  try rw [E6.out]
  rw [HW0.out]
  refine HCT.out.mono ?_
  unfold TabC
  rintro e w1 ⟨AT, cT, rfl, hcT, hT, hb⟩
  have HB := Lib.hid (below_then HB.out HB.out.size hb)
  clear hT hb
  go_wp2_with fail
  refine (HX.out _ HB.out).mono ?_
  rintro e w2 ⟨A1, c1, rfl, ho, hb⟩
  have HO := Lib.hid (ho.lower HB.out.size)
  have HB := Lib.hid (below_then HB.out HB.out.size hb)
  clear ho hb
  go_wp2_with fail
  go_ret3
  exact ⟨A1, c1, rfl, HO.out, HB.out⟩

set_option maxHeartbeats 600000 in
theorem rrows_any (c : Cfg) (hok : c.ok) (l k : Int) (W : World) :
    Calls Try.prog 70 #[c.v, .int .i64 l, .int .i64 k] W (TabO (mrows c l k) W) := by
  obtain ⟨L, hL⟩ : ∃ L : Nat, c.layers = L := ⟨c.layers.toNat, by have := hok.2.2.1; omega⟩
  obtain ⟨D, hD⟩ : ∃ D : Nat, c.dim = D := ⟨c.dim.toNat, by have := hok.2.1; omega⟩
  have hL4 : L ≤ 4 := by have := hok.2.2.1; omega
  have hD16 : D ≤ 16 := by have := hok.2.1; omega
  have HBX := Lib.hid (Bx.new c W)
  have HCV := Lib.hid (show c.v = .agg #[.int .u64 c.seed, .int .i64 c.vocab, .int .i64 c.dim, .int .i64 c.layers, .int .i64 c.top, .int .i64 c.heat] from rfl)
  obtain ⟨W0, hW0⟩ : ∃ W0, W.alloc (.cells #[.int .u64 c.seed, .int .i64 c.vocab, .int .i64 c.dim, .int .i64 c.layers, .int .i64 c.top, .int .i64 c.heat] 24) = W0 := ⟨_, rfl⟩
  obtain ⟨g, hg⟩ : ∃ g, W.heap.size = g := ⟨_, rfl⟩
  have HBE := Lib.hid (show Below W.heap.size W W0 by rw [← hW0]; exact below_alloc (Below.refl _ W) _)
  rw [hW0, hg] at HBX
  have HW0 := Lib.hid hW0
  have HG := Lib.hid hg
  have HD := Lib.hid hD
  have HL := Lib.hid hL
  have HOK := Lib.hid hok
  unfold TabO
  rw [HCV.out]
  obtain ⟨x0, x1, x2, x3, x4, x5⟩ := HBX.out.at_
  rw [hL] at x3
  by_cases h0 : 0 ≤ l ∧ l < (L : Int)
  · by_cases h1 : 0 ≤ k ∧ k ≤ 5
    · have HF := Lib.hid (show mrows c l k = mtab c (2 + (6 * l + k)) D by unfold mrows; rw [if_pos (by omega), hD]; rfl)
      obtain ⟨ln, rfl⟩ : ∃ ln : Nat, l = ln := ⟨l.toNat, by omega⟩
      obtain ⟨kn, rfl⟩ : ∃ kn : Nat, k = kn := ⟨k.toNat, by omega⟩
      have hln : ln ≤ 3 := by omega
      have hkn : kn ≤ 5 := by omega
      have gl1 : (ln : Int) < c.layers := by rw [hL]; omega
      have HTD := Lib.hid (show (2 + (6 * (ln : Int) + kn) : Int) = 2 + 6 * ln + kn by omega)
      obtain ⟨tb, htb⟩ : ∃ tb, mtab c (2 + (6 * ln + kn)) D = tb := ⟨_, rfl⟩
      have HTB := Lib.hid htb
      have HTL := Lib.hid (show tb.length = D by rw [← htb, mtab_len])
      clear hok hW0 hg hL hD h0 h1 x0 x1 x2 x4 x5 htb
      go_enter Try.func70, Try.ntmps70
      go_wp2_with fail
      try rw [HG.out]
      try rw [HW0.out]
      go_loopw [7, 8] (fun v q wr => ∃ (j : Nat) (v' : Value), v' = v ∧ q = .int .i64 j ∧ j ≤ D ∧ (Kd.slice 2 (Kd.int .i64)).R 25 wr W0.heap.size (fun _ => True) v (tb.take j) ∧ Below W0.heap.size W0 wr) (fun _ q _ => D - (intOf q).toNat)
      case atStart => exact ⟨0, _, rfl, rfl, by omega, Kd.R_nil _ _ _ _ _, Below.refl _ _⟩
      case round =>
        obtain ⟨j, v, rfl, rfl, hj, ho, hb⟩ := hrel
        obtain ⟨x0, x1, x2, x3', x4, x5⟩ := (HBX.out.below hb).at_
        rw [HD.out] at x2
        have HO := Lib.hid ho
        have HB := Lib.hid hb
        have hsz := hb.size
        clear ho hb
        by_cases hjD : j < D
        · have HJ := Lib.hid (show tb.take (j + 1) = tb.take j ++ [mrow c (2 + 6 * ln + kn) j] by
            rw [List.take_succ_eq_append_getElem (by rw [HTL.out]; exact hjD)]
            congr 2
            have h := mtab_get c (2 + (6 * ln + kn)) D j hjD
            rw [HTB.out, List.getD_eq_getElem?_getD, List.getElem?_eq_getElem (by rw [HTL.out]; exact hjD), HTD.out] at h
            exact h)
          have HT := Lib.hid (show (tb.take j).length = j by rw [List.length_take, HTL.out]; omega)
          have HROW := Lib.hid (rrow_any c HOK.out (2 + 6 * ln + kn) j wr (by omega) (by omega) (by omega) (by omega))
          rw [HCV.out, HD.out] at HROW
          obtain ⟨xs, hxs⟩ : ∃ xs, mrow c (2 + 6 * ln + kn) j = xs := ⟨_, rfl⟩
          rw [hxs] at HROW HJ
          clear hxs
          go_wp2_with fail
          refine HROW.out.mono ?_
          unfold RowR
          rintro e w2 ⟨v2, rfl, ho2, hb2⟩
          obtain ⟨A3, c3, hv2, -, -⟩ := Kd.R_reads ho2
          subst hv2
          have HO2 := Lib.hid (Kd.R_below HO.out hb2)
          obtain ⟨inner, hown⟩ := Kd.R_own HO.out
          have HN2 := Lib.hid (Kd.R_lower (Kd.R_new ho2 hown) hsz)
          have HB2 := Lib.hid (below_then HB.out hsz hb2)
          have hsz2 := HB2.out.size
          clear ho2 hb2 hown x0 x1 x2 x3' x4 x5
          go_wp2_with (at_builtin; refine Kd.R_append (Kd.slice 2 (Kd.int .i64)) (w0 := W0) (W := w2) W0.heap.size rfl _ _ 39 25 (.slice none 0 0) 24 rfl Try.underlying39 infoRow rfl (by decide) (by decide) v (tb.take j) xs [.slice A3 xs.length c3] (fun _ => True) (fun k => True ∧ some k ≠ v.ownBlock) (by rfl) (by rfl) ⟨_, rfl, HN2.out⟩ (fun _ h => h) (fun _ _ => trivial) HO2.out HB2.out hsz2 (by rw [HT.out]; omega) ?_; intro v5 w5 hr5 hb5 hg5 hat5; have HR5 := Lib.hid hr5; have HB5 := Lib.hid hb5; clear hr5 hb5 hg5 hat5)
          go_roundw
          case rel => exact ⟨j + 1, _, rfl, by go_num, by omega, by rw [HJ.out]; exact HR5.out, HB5.out⟩
          case measure => simp [intOf]; omega
        · have HJ := Lib.hid (show tb.take j = tb from List.take_of_length_le (by rw [HTL.out]; omega))
          go_wp2_with fail
          go_ret
          exact ⟨_, rfl, by rw [HF.out, HTB.out, ← HJ.out]; exact Kd.R_lower HO.out HBE.out.size, below_then HBE.out HBE.out.size HB.out⟩
    · have HF := Lib.hid (show mrows c l k = [] by unfold mrows; rw [if_neg (by omega)])
      have g0 : ¬ l < 0 := by omega
      have g1 : l < c.layers := by rw [hL]; omega
      by_cases g2 : k < 0
      · clear hok hW0 hg hL hD h0 h1 x0 x1 x2 x4 x5
        go_enter Try.func70, Try.ntmps70
        go_wp2_with fail
        go_ret
        exact ⟨_, rfl, by rw [HF.out]; exact Kd.R_nil _ _ _ _ _, by rw [HW0.out]; exact HBE.out⟩
      · have g3 : 5 < k := by omega
        clear hok hW0 hg hL hD h0 h1 x0 x1 x2 x4 x5
        go_enter Try.func70, Try.ntmps70
        go_wp2_with fail
        go_ret
        exact ⟨_, rfl, by rw [HF.out]; exact Kd.R_nil _ _ _ _ _, by rw [HW0.out]; exact HBE.out⟩
  · have HF := Lib.hid (show mrows c l k = [] by unfold mrows; rw [if_neg (by omega)])
    by_cases g0 : l < 0
    · clear hok hW0 hg hL hD h0 x0 x1 x2 x4 x5
      go_enter Try.func70, Try.ntmps70
      go_wp2_with fail
      go_ret
      exact ⟨_, rfl, by rw [HF.out]; exact Kd.R_nil _ _ _ _ _, by rw [HW0.out]; exact HBE.out⟩
    · have g1 : c.layers ≤ l := by rw [hL]; omega
      clear hok hW0 hg hL hD h0 x0 x1 x2 x4 x5
      go_enter Try.func70, Try.ntmps70
      go_wp2_with fail
      go_ret
      exact ⟨_, rfl, by rw [HF.out]; exact Kd.R_nil _ _ _ _ _, by rw [HW0.out]; exact HBE.out⟩

end Go.Proofs.Ytdfgmdmcdnnhfaa
