/- Memories compared. -/
import Derived.Test.YtdfgmdmcdnnhfaaAtC
namespace Go.Proofs.Ytdfgmdmcdnnhfaa
open Go.RowKit Go.Shelf Go.Proofs.YtdfgmdmcdnnhfaaW.PrintWords Go.Proofs.YtdfgmdmcdnnhfaaW.PrintLast Go.Proofs.YtdfgmdmcdnnhfaaW.PrintMore
set_option linter.unusedVariables false
set_option linter.unusedSimpArgs false
set_option maxRecDepth 100000

theorem asame_nil (W : World) : Calls Try.prog 30 #[.pointer none, .pointer none] W fun e w' => e = .returned (.bool true) ∧ w' = W := by
  have H1 := Lib.hid (alay_nil W)
  have H2 := Lib.hid (alen_nil W)
  go_enter Try.func30, Try.ntmps30
  go_wp2_with fail
  refine H1.out.mono ?_
  rintro e w' ⟨rfl, rfl⟩
  go_wp2_with fail
  refine H1.out.mono ?_
  rintro e w' ⟨rfl, rfl⟩
  go_wp2_with fail
  refine H2.out.mono ?_
  rintro e w' ⟨rfl, rfl⟩
  go_wp2_with fail
  refine H2.out.mono ?_
  rintro e w' ⟨rfl, rfl⟩
  go_wp2_with fail
  refine H2.out.mono ?_
  rintro e w' ⟨rfl, rfl⟩
  go_wp2_with fail
  go_loopw [22] (fun s wr => s = .int .i64 0 ∧ wr = w') (fun _ _ => 0)
  case atStart => exact ⟨rfl, rfl⟩
  case round =>
    obtain ⟨rfl, rfl⟩ := hrel
    go_wp2_with fail
    go_ret
    exact ⟨rfl, rfl⟩

/-- Six cells that stay. -/
structure Six (W : World) (a1 a2 a3 a4 a5 a6 : Addr) (v1 v2 v3 v4 v5 v6 : Value) (B : Nat) (w : World) : Prop where
  c1 : w.cell? a1 = some v1
  c2 : w.cell? a2 = some v2
  c3 : w.cell? a3 = some v3
  c4 : w.cell? a4 = some v4
  c5 : w.cell? a5 = some v5
  c6 : w.cell? a6 = some v6
def SixS (W : World) (a1 a2 a3 a4 a5 a6 : Addr) (v1 v2 v3 v4 v5 v6 : Value) (w : World) : Prop := w.cell? a1 = some v1 ∧ w.cell? a2 = some v2 ∧ w.cell? a3 = some v3 ∧ w.cell? a4 = some v4 ∧ w.cell? a5 = some v5 ∧ w.cell? a6 = some v6 ∧ Hid (Below W.heap.size W w ∧ W.cell? a1 = some v1 ∧ W.cell? a2 = some v2 ∧ W.cell? a3 = some v3 ∧ W.cell? a4 = some v4 ∧ W.cell? a5 = some v5 ∧ W.cell? a6 = some v6)
theorem SixS.of {W : World} {a1 a2 a3 a4 a5 a6 : Addr} {v1 v2 v3 v4 v5 v6 : Value} {w w1 : World} (h : SixS W a1 a2 a3 a4 a5 a6 v1 v2 v3 v4 v5 v6 w) (hb : Below W.heap.size W w1) : SixS W a1 a2 a3 a4 a5 a6 v1 v2 v3 v4 v5 v6 w1 := by
  obtain ⟨-, h1, h2, h3, h4, h5, h6⟩ := h.2.2.2.2.2.2.out
  exact ⟨pw_cell_below hb h1, pw_cell_below hb h2, pw_cell_below hb h3, pw_cell_below hb h4, pw_cell_below hb h5, pw_cell_below hb h6, Lib.hid ⟨hb, h1, h2, h3, h4, h5, h6⟩⟩
theorem SixS.b {W : World} {a1 a2 a3 a4 a5 a6 : Addr} {v1 v2 v3 v4 v5 v6 : Value} {w : World} (h : SixS W a1 a2 a3 a4 a5 a6 v1 v2 v3 v4 v5 v6 w) : Below W.heap.size W w := h.2.2.2.2.2.2.out.1

theorem two_boxes (w : World) (u1 u2 v1 v2 : Value) (t : TypeId) : ((w.alloc (.cells #[u1, u2] t)).alloc (.cells #[v1, v2] t)).drew.cell? ⟨w.heap.size, 0, none⟩ = some u1 ∧ ((w.alloc (.cells #[u1, u2] t)).alloc (.cells #[v1, v2] t)).drew.cell? ⟨w.heap.size, 1, none⟩ = some u2 ∧ ((w.alloc (.cells #[u1, u2] t)).alloc (.cells #[v1, v2] t)).drew.cell? ⟨w.heap.size + 1, 0, none⟩ = some v1 ∧ ((w.alloc (.cells #[u1, u2] t)).alloc (.cells #[v1, v2] t)).drew.cell? ⟨w.heap.size + 1, 1, none⟩ = some v2 := by
  have hb := below_drew (below_alloc (Below.refl (w.alloc (.cells #[u1, u2] t)).heap.size (w.alloc (.cells #[u1, u2] t))) (.cells #[v1, v2] t))
  have h1 := blk_below (heap_alloc_new w (.cells #[u1, u2] t)) hb
  have h2 : ((w.alloc (.cells #[u1, u2] t)).alloc (.cells #[v1, v2] t)).drew.heap[w.heap.size + 1]? = some (.cells #[v1, v2] t (0, 0)) := heap_alloc2_new w _ _
  exact ⟨by rw [blk_cell h1]; rfl, by rw [blk_cell h1]; rfl, by rw [blk_cell h2]; rfl, by rw [blk_cell h2]; rfl⟩

set_option maxHeartbeats 1000000 in
theorem asame_any (W : World) (p q : Nat) (La Lb : Int) (M N : Nat) (P Q : List Pl) (hp : MemP W p La P) (hq : MemP W q Lb Q) (hP : PlOk M P) (hQ : PlOk N Q) (hM : M ≤ 100) (hN : N ≤ 100) (hlP : P.length ≤ 100000) (hlQ : Q.length ≤ 100000) :
    Calls Try.prog 30 #[.pointer (some ⟨p, 0, none⟩), .pointer (some ⟨q, 0, none⟩)] W fun e w' => e = .returned (.bool (decide (La = Lb ∧ P = Q))) ∧ Below W.heap.size W w' := by
  have H1 := Lib.hid (alay_any W p La P hp)
  have H2 := Lib.hid (alay_any W q Lb Q hq)
  have H3 := Lib.hid (alen_any W p La P hp)
  have H4 := Lib.hid (alen_any W q Lb Q hq)
  obtain ⟨r, hr⟩ : ∃ r, decide (La = Lb ∧ P = Q) = r := ⟨_, rfl⟩
  have HR := Lib.hid hr
  rw [hr]
  obtain ⟨A, ca, -, a1, hCA, hca⟩ := hp.at_
  obtain ⟨B, cb, -, b1, hCB, hcb⟩ := hq.at_
  obtain ⟨n, hn⟩ : ∃ n, P.length = n := ⟨_, rfl⟩
  obtain ⟨m, hm⟩ : ∃ n, Q.length = n := ⟨_, rfl⟩
  have HNP := Lib.hid hn
  have HNQ := Lib.hid hm
  rw [hn] at H3 a1 hca hlP
  rw [hm] at H4 b1 hcb hlQ
  have HPC := Lib.hid (show KPl.C W A P.length P from hCA)
  have HQC := Lib.hid (show KPl.C W B Q.length Q from hCB)
  have HPO := Lib.hid hP
  have HQO := Lib.hid hQ
  clear hp hq hr hCA hCB hn hm hP hQ
  by_cases hL : La = Lb
  · by_cases hnm : n = m
    · subst hL
      subst hnm
      have HL := Lib.hid (show (La != La) = false by simp)
      have HM := Lib.hid (show ((n : Int) != (n : Int)) = false by simp)
      go_enter Try.func30, Try.ntmps30
      go_wp2_with fail
      refine H1.out.mono ?_
      rintro e w1 ⟨rfl, hw⟩
      replace hw := hw.symm
      subst hw
      go_wp2_with fail
      refine H2.out.mono ?_
      rintro e w1 ⟨rfl, hw⟩
      replace hw := hw.symm
      subst hw
      have z := HL.out
      go_wp2_with fail
      refine H3.out.mono ?_
      rintro e w1 ⟨rfl, hw⟩
      replace hw := hw.symm
      subst hw
      go_wp2_with fail
      refine H4.out.mono ?_
      rintro e w1 ⟨rfl, hw⟩
      replace hw := hw.symm
      subst hw
      have z2 := HM.out
      go_wp2_with fail
      refine H3.out.mono ?_
      rintro e w1 ⟨rfl, hw⟩
      replace hw := hw.symm
      subst hw
      clear z z2
      go_wp2_with fail
      go_loopw [22] (fun s wr => ∃ i : Nat, s = .int .i64 i ∧ i ≤ n ∧ Hid (P.take i = Q.take i) ∧ Hid (Below W.heap.size W wr)) (fun s _ => n - (intOf s).toNat)
      case atStart => exact ⟨0, rfl, by omega, Lib.hid (by simp), Lib.hid (Below.refl _ _)⟩
      case round =>
        obtain ⟨i, rfl, hi, hT, HB⟩ := hrel
        by_cases him : i < n
        · obtain ⟨b, A1, A2, c1, c2, eA, q1, q2, hc1, hc2, hC1, hC2⟩ := pl_at HPC.out i (by rw [HNP.out]; exact him)
          obtain ⟨b', B1, B2, d1, d2, eB, p1, p2, hd1, hd2, hD1, hD2⟩ := pl_at HQC.out i (by rw [HNQ.out]; exact him)
          subst eA eB
          obtain ⟨hl1, hl2, hs1, hs2⟩ := col_len HPO.out i (by rw [HNP.out]; exact him)
          obtain ⟨hm1, hm2, ht1, ht2⟩ := col_len HQO.out i (by rw [HNQ.out]; exact him)
          obtain ⟨x, hx⟩ : ∃ x, P.getD i ([], []) = x := ⟨_, rfl⟩
          obtain ⟨y, hy⟩ : ∃ x, Q.getD i ([], []) = x := ⟨_, rfl⟩
          obtain ⟨x1, x2⟩ := x
          obtain ⟨y1, y2⟩ := y
          rw [hx] at q1 q2 hc1 hc2 hC1 hC2 hl1 hl2 hs1 hs2
          rw [hy] at p1 p2 hd1 hd2 hD1 hD2 hm1 hm2 ht1 ht2
          dsimp only at q1 q2 hc1 hc2 hC1 hC2 hl1 hl2 hs1 hs2 p1 p2 hd1 hd2 hD1 hD2 hm1 hm2 ht1 ht2
          have HXX := Lib.hid hx
          have HYY := Lib.hid hy
          have HK := Lib.hid (fun (W' : World) (hb : Below W.heap.size W W') => alike_any A1 B1 c1 d1 x1 y1 W' (hC1.below hb) (hD1.below hb) hc1 hd1 (by omega) (by omega) hs1 ht1)
          have HV := Lib.hid (fun (W' : World) (hb : Below W.heap.size W W') => alike_any A2 B2 c2 d2 x2 y2 W' (hC2.below hb) (hD2.below hb) hc2 hd2 (by omega) (by omega) hs2 ht2)
          rw [hl1, hm1] at HK
          rw [hl2, hm2] at HV
          rw [hl1] at q1
          rw [hl2] at q2
          rw [hm1] at p1
          rw [hm2] at p2
          clear hx hy hc1 hc2 hC1 hC2 hl1 hl2 hs1 hs2 hd1 hd2 hD1 hD2 hm1 hm2 ht1 ht2
          have a1' := pw_cell_below HB.out a1
          have b1' := pw_cell_below HB.out b1
          have q1' := pw_cell_below HB.out q1
          have q2' := pw_cell_below HB.out q2
          have p1' := pw_cell_below HB.out p1
          have p2' := pw_cell_below HB.out p2
          clear a1 b1 q1 q2 p1 p2
          go_upto_region 6 with fail
          go_cut [6, 7] (fun s6 s7 wx => ∃ g6 g7 : Nat, s6 = .pointer (some ⟨g6, 0, none⟩) ∧ s7 = .pointer (some ⟨g7, 0, none⟩) ∧ wx.cell? ⟨g6, 0, none⟩ = some (.slice A1 M c1) ∧ wx.cell? ⟨g6, 1, none⟩ = some (.slice A2 M c2) ∧ wx.cell? ⟨g7, 0, none⟩ = some (.slice B1 N d1) ∧ wx.cell? ⟨g7, 1, none⟩ = some (.slice B2 N d2) ∧ Hid (Below W.heap.size W wx))
          case first =>
            have hS : SixS wr ⟨p, 1, none⟩ ⟨q, 1, none⟩ (b.add (i * 2)) ⟨(b.add (i * 2)).block, (b.add (i * 2)).off + 1, none⟩ (b'.add (i * 2)) ⟨(b'.add (i * 2)).block, (b'.add (i * 2)).off + 1, none⟩ (.slice (some b) n ca) (.slice (some b') n cb) (.slice A1 M c1) (.slice A2 M c2) (.slice B1 N d1) (.slice B2 N d2) wr.drew := by
              have hd := below_drew (Below.refl wr.heap.size wr)
              have e1 := pw_cell_below hd a1'
              have e2 := pw_cell_below hd b1'
              have e3 := pw_cell_below hd q1'
              have e4 := pw_cell_below hd q2'
              have e5 := pw_cell_below hd p1'
              have e6 := pw_cell_below hd p2'
              exact ⟨e1, e2, e3, e4, e5, e6, Lib.hid ⟨hd, a1', b1', q1', q2', p1', p2'⟩⟩
            clear a1' b1' q1' q2' p1' p2'
            go_region_held3 (fun w' => w'.cell? ⟨p, 1, none⟩ = some (.slice (some b) n ca) ∧ w'.cell? ⟨q, 1, none⟩ = some (.slice (some b') n cb) ∧ w'.cell? (b.add (i * 2)) = some (.slice A1 M c1) ∧ w'.cell? ⟨(b.add (i * 2)).block, (b.add (i * 2)).off + 1, none⟩ = some (.slice A2 M c2) ∧ w'.cell? (b'.add (i * 2)) = some (.slice B1 N d1) ∧ w'.cell? ⟨(b'.add (i * 2)).block, (b'.add (i * 2)).off + 1, none⟩ = some (.slice B2 N d2) ∧ Hid (Below wr.heap.size wr w' ∧ wr.cell? ⟨p, 1, none⟩ = some (.slice (some b) n ca) ∧ wr.cell? ⟨q, 1, none⟩ = some (.slice (some b') n cb) ∧ wr.cell? (b.add (i * 2)) = some (.slice A1 M c1) ∧ wr.cell? ⟨(b.add (i * 2)).block, (b.add (i * 2)).off + 1, none⟩ = some (.slice A2 M c2) ∧ wr.cell? (b'.add (i * 2)) = some (.slice B1 N d1) ∧ wr.cell? ⟨(b'.add (i * 2)).block, (b'.add (i * 2)).off + 1, none⟩ = some (.slice B2 N d2)))
              (first | exact hS | exact SixS.of hS (below_alloc (SixS.b (by assumption)) _) | exact SixS.of hS (below_drew (below_alloc (Below.refl _ _) _)) | exact SixS.of hS (below_drew (below_alloc (below_alloc (Below.refl _ _) _) _)))
              (fail)
            all_goals
              have HBX := Lib.hid (below_then HB.out HB.out.size (SixS.b (by assumption)))
              go_wp2_with fail
              go_meet
              first
              | exact ⟨_, _, rfl, rfl, (two_boxes wr _ _ _ _ _).1, (two_boxes wr _ _ _ _ _).2.1, (two_boxes wr _ _ _ _ _).2.2.1, (two_boxes wr _ _ _ _ _).2.2.2, HBX⟩
              | exact ⟨_, _, rfl, rfl, (two_boxes wr _ _ _ _ _).2.2.1, (two_boxes wr _ _ _ _ _).2.2.2, (two_boxes wr _ _ _ _ _).1, (two_boxes wr _ _ _ _ _).2.1, HBX⟩
          case rest =>
            obtain ⟨g6, g7, rfl, rfl, k1, k2, k3, k4, HBX⟩ := hcut
            have HC1 := Lib.hid (HK.out _ HBX.out)
            have HC2 := Lib.hid (fun (W' : World) (hb : Below wc.heap.size wc W') => HV.out W' (below_then HBX.out HBX.out.size hb))
            have hi1 : i < P.length := by rw [HNP.out]; exact him
            have hi2 : i < Q.length := by rw [HNQ.out]; exact him
            by_cases hxy : x1 = y1
            · have z1 : decide (x1 = y1) = true := decide_eq_true hxy
              rw [z1] at HC1
              have HXY := Lib.hid hxy
              clear z1 hxy
              go_wp2_with fail
              refine HC1.out.mono ?_
              rintro e w5 ⟨rfl, hd5⟩
              have m2 := pw_cell_below hd5.below k2
              have m4 := pw_cell_below hd5.below k4
              have HC3 := Lib.hid (HC2.out w5 hd5.below)
              have HB5 := Lib.hid (below_then HBX.out HBX.out.size hd5.below)
              clear hd5 k1 k2 k3 k4
              by_cases hxy2 : x2 = y2
              · have z1 : decide (x2 = y2) = true := decide_eq_true hxy2
                rw [z1] at HC3
                have HT2 := Lib.hid (take_pl_eq P Q i hi1 hi2 hT.out (by rw [HXX.out, HYY.out, HXY.out, hxy2]))
                clear z1 hxy2 hi1 hi2
                go_wp2_with fail
                refine HC3.out.mono ?_
                rintro e w6 ⟨rfl, hd6⟩
                have HB6 := Lib.hid (below_then HB5.out HB5.out.size hd6.below)
                clear hd6
                go_wp2_with fail
                go_roundw
                case rel => exact ⟨i + 1, by go_num, by omega, HT2, HB6⟩
                case measure => simp [intOf]; omega
              · have z1 : decide (x2 = y2) = false := decide_eq_false hxy2
                rw [z1] at HC3
                have HF := Lib.hid (show r = false by
                  rw [← HR.out]; refine decide_eq_false ?_; rintro ⟨-, h⟩; subst h; rw [HXX.out] at HYY; have := HYY.out; injection this with h1 h2; exact hxy2 h2)
                clear z1 hxy2 hi1 hi2
                go_wp2_with fail
                refine HC3.out.mono ?_
                rintro e w6 ⟨rfl, hd6⟩
                have HB6 := Lib.hid (below_then HB5.out HB5.out.size hd6.below)
                clear hd6
                go_wp2_with fail
                go_ret
                exact ⟨by rw [HF.out]; rfl, HB6.out⟩
            · have z1 : decide (x1 = y1) = false := decide_eq_false hxy
              rw [z1] at HC1
              have HF := Lib.hid (show r = false by
                rw [← HR.out]; refine decide_eq_false ?_; rintro ⟨-, h⟩; subst h; rw [HXX.out] at HYY; have := HYY.out; injection this with h1 h2; exact hxy h1)
              clear z1 hxy hi1 hi2
              go_wp2_with fail
              refine HC1.out.mono ?_
              rintro e w5 ⟨rfl, hd5⟩
              have HB5 := Lib.hid (below_then HBX.out HBX.out.size hd5.below)
              clear hd5 k1 k2 k3 k4
              go_wp2_with fail
              go_ret
              exact ⟨by rw [HF.out]; rfl, HB5.out⟩
        · have HF := Lib.hid (show r = true by
            rw [← HR.out]; refine decide_eq_true ⟨by first | rfl | trivial, ?_⟩
            have h := hT.out
            rwa [List.take_of_length_le (by rw [HNP.out]; omega), List.take_of_length_le (by rw [HNQ.out]; omega)] at h)
          go_wp2_with fail
          go_ret
          exact ⟨by rw [HF.out]; rfl, HB.out⟩
    · have HF := Lib.hid (show r = false by
        rw [← HR.out]; refine decide_eq_false ?_; rintro ⟨-, h⟩; exact hnm (by rw [← HNP.out, ← HNQ.out, h]))
      subst hL
      have HL := Lib.hid (show (La != La) = false by simp)
      have HM := Lib.hid (show ((n : Int) != (m : Int)) = true by simp; omega)
      go_enter Try.func30, Try.ntmps30
      go_wp2_with fail
      refine H1.out.mono ?_
      rintro e w1 ⟨rfl, hw⟩
      replace hw := hw.symm
      subst hw
      go_wp2_with fail
      refine H2.out.mono ?_
      rintro e w1 ⟨rfl, hw⟩
      replace hw := hw.symm
      subst hw
      have z := HL.out
      go_wp2_with fail
      refine H3.out.mono ?_
      rintro e w1 ⟨rfl, hw⟩
      replace hw := hw.symm
      subst hw
      go_wp2_with fail
      refine H4.out.mono ?_
      rintro e w1 ⟨rfl, hw⟩
      replace hw := hw.symm
      subst hw
      have z2 := HM.out
      go_wp2_with fail
      go_ret
      exact ⟨by rw [HF.out]; rfl, Below.refl _ _⟩
  · have HF := Lib.hid (show r = false by
      rw [← HR.out]; refine decide_eq_false ?_; rintro ⟨h, -⟩; exact hL h)
    have HL := Lib.hid (show (La != Lb) = true by simp; exact hL)
    go_enter Try.func30, Try.ntmps30
    go_wp2_with fail
    refine H1.out.mono ?_
    rintro e w1 ⟨rfl, hw⟩
    replace hw := hw.symm
    subst hw
    go_wp2_with fail
    refine H2.out.mono ?_
    rintro e w1 ⟨rfl, hw⟩
    replace hw := hw.symm
    subst hw
    have z := HL.out
    go_wp2_with fail
    go_ret
    exact ⟨by rw [HF.out]; rfl, Below.refl _ _⟩

end Go.Proofs.Ytdfgmdmcdnnhfaa
