/- The document's table: May, Ask. -/
import Derived.Test.YtmbhicjjbgbneaaAdJ
import Derived.BigQuiet
import Derived.BigRegion
namespace Go.Proofs.Ytmbhicjjbgbneaa
open Go.RowKit Go.Shelf Go.Proofs.YtmbhicjjbgbneaaW.PrintWords Go.Proofs.YtmbhicjjbgbneaaW.PrintLast Go.Proofs.YtmbhicjjbgbneaaW.PrintMore
set_option linter.unusedVariables false
set_option linter.unusedSimpArgs false
set_option maxRecDepth 100000
theorem rin09 (W : World) (n l m : Int) : Calls Try.prog 71 #[.int .i64 n, .int .i64 l, .int .i64 m] W fun e w' => e = .returned (.bool (decide (l ≤ n) && decide (n ≤ m))) ∧ W = w' := by
  by_cases h : l ≤ n
  · rw [decide_eq_true h]
    go_enter Try.func71, Try.ntmps71
    go_wp2_with fail
    go_ret
    exact ⟨rfl, rfl⟩
  · rw [decide_eq_false h]
    go_enter Try.func71, Try.ntmps71
    go_wp2_with fail
    go_ret
    exact ⟨rfl, rfl⟩
set_option maxHeartbeats 1000000 in
theorem rmay09 (c : Cfg) (W : World) : Calls Try.prog 50 #[c.v] W fun e w' => e = .returned (.bool (decide c.ok)) ∧ Below W.heap.size W w' := by
  rw [show c.v = .agg #[.int .u64 c.seed, .int .i64 c.vocab, .int .i64 c.dim, .int .i64 c.layers, .int .i64 c.top, .int .i64 c.heat] from rfl]
  have hb := below_alloc (Below.refl W.heap.size W) (.cells #[.int .u64 c.seed, .int .i64 c.vocab, .int .i64 c.dim, .int .i64 c.layers, .int .i64 c.top, .int .i64 c.heat] 24)
  have hk := heap_alloc_new W (.cells #[.int .u64 c.seed, .int .i64 c.vocab, .int .i64 c.dim, .int .i64 c.layers, .int .i64 c.top, .int .i64 c.heat] 24)
  obtain ⟨W0, hW0⟩ : ∃ W0, W.alloc (.cells #[.int .u64 c.seed, .int .i64 c.vocab, .int .i64 c.dim, .int .i64 c.layers, .int .i64 c.top, .int .i64 c.heat] 24) = W0 := ⟨_, rfl⟩
  obtain ⟨g, hg⟩ : ∃ g, W.heap.size = g := ⟨_, rfl⟩
  rw [hW0] at hb hk
  have HB := Lib.hid hb
  rw [hg] at hk
  obtain ⟨b1, hb1⟩ : ∃ b, (decide (2 ≤ c.vocab) && decide (c.vocab ≤ 64)) = b := ⟨_, rfl⟩
  obtain ⟨b2, hb2⟩ : ∃ b, (decide (1 ≤ c.dim) && decide (c.dim ≤ 16)) = b := ⟨_, rfl⟩
  obtain ⟨b3, hb3⟩ : ∃ b, (decide (1 ≤ c.layers) && decide (c.layers ≤ 4)) = b := ⟨_, rfl⟩
  obtain ⟨b4, hb4⟩ : ∃ b, (decide (1 ≤ c.top) && decide (c.top ≤ c.vocab)) = b := ⟨_, rfl⟩
  obtain ⟨b5, hb5⟩ : ∃ b, (decide (0 ≤ c.heat) && decide (c.heat ≤ 8)) = b := ⟨_, rfl⟩
  have hr : decide c.ok = (b1 && (b2 && (b3 && (b4 && b5)))) := by
    rw [← hb1, ← hb2, ← hb3, ← hb4, ← hb5, Bool.eq_iff_iff, decide_eq_true_iff]
    unfold Cfg.ok
    simp
  rw [hr]
  have H1 := Lib.hid (fun W => rin09 W c.vocab 2 64)
  have H2 := Lib.hid (fun W => rin09 W c.dim 1 16)
  have H3 := Lib.hid (fun W => rin09 W c.layers 1 4)
  have H4 := Lib.hid (fun W => rin09 W c.top 1 c.vocab)
  have H5 := Lib.hid (fun W => rin09 W c.heat 0 8)
  rw [hb1] at H1
  rw [hb2] at H2
  rw [hb3] at H3
  rw [hb4] at H4
  rw [hb5] at H5
  have z1 := blk_cell hk 1
  have z2 := blk_cell hk 2
  have z3 := blk_cell hk 3
  have z4 := blk_cell hk 4
  have z5 := blk_cell hk 5
  have HW := Lib.hid hW0
  have HG := Lib.hid hg
  clear hb hk hW0 hg hb1 hb2 hb3 hb4 hb5 hr
  go_enter Try.func50, Try.ntmps50
  go_wp2_with fail
  try rw [HG.out]
  rw [HW.out]
  go_wp2_with fail
  refine (H1.out _).mono ?_
  rintro e w' ⟨rfl, rfl⟩
  cases b1 with
  | false =>
    go_wp2_with fail
    go_ret
    exact ⟨rfl, by first | exact HB.out | (rw [← HG.out]; exact HB.out)⟩
  | true =>
    go_wp2_with fail
    refine (H2.out _).mono ?_
    rintro e w' ⟨rfl, rfl⟩
    cases b2 with
    | false =>
      go_wp2_with fail
      go_ret
      exact ⟨rfl, by first | exact HB.out | (rw [← HG.out]; exact HB.out)⟩
    | true =>
      go_wp2_with fail
      refine (H3.out _).mono ?_
      rintro e w' ⟨rfl, rfl⟩
      cases b3 with
      | false =>
        go_wp2_with fail
        go_ret
        exact ⟨rfl, by first | exact HB.out | (rw [← HG.out]; exact HB.out)⟩
      | true =>
        go_wp2_with fail
        refine (H4.out _).mono ?_
        rintro e w' ⟨rfl, rfl⟩
        cases b4 with
        | false =>
          go_wp2_with fail
          go_ret
          exact ⟨rfl, by first | exact HB.out | (rw [← HG.out]; exact HB.out)⟩
        | true =>
          go_wp2_with fail
          refine (H5.out _).mono ?_
          rintro e w' ⟨rfl, rfl⟩
          go_wp2_with fail
          go_ret
          exact ⟨rfl, by first | exact HB.out | (rw [← HG.out]; exact HB.out)⟩
def BCJ (c : Cfg) (g : Nat) (sd : Int) (x : Value) (most : Int) (j : Nat) (w0 W : World) : Prop := W.cell? ⟨g, 0, none⟩ = some (.int .u64 c.seed) ∧ W.cell? ⟨g, 1, none⟩ = some (.int .i64 c.vocab) ∧ W.cell? ⟨g, 2, none⟩ = some (.int .i64 c.dim) ∧ W.cell? ⟨g, 3, none⟩ = some (.int .i64 c.layers) ∧ W.cell? ⟨g, 4, none⟩ = some (.int .i64 c.top) ∧ W.cell? ⟨g, 5, none⟩ = some (.int .i64 c.heat) ∧
  W.cell? ⟨j, 0, none⟩ = some (.int .u64 sd) ∧ W.cell? ⟨j, 1, none⟩ = some x ∧ W.cell? ⟨j, 2, none⟩ = some (.int .i64 most) ∧ Hid (Below w0.heap.size w0 W)
theorem BCJ.step {c : Cfg} {g : Nat} {sd : Int} {x : Value} {most : Int} {j : Nat} {w0 W W' : World} (h : BCJ c g sd x most j w0 W) (hb : Below W.heap.size W W') : BCJ c g sd x most j w0 W' := by
  obtain ⟨h0, h1, h2, h3, h4, h5, h6, h7, h8, h9⟩ := h
  exact ⟨pw_cell_below hb h0, pw_cell_below hb h1, pw_cell_below hb h2, pw_cell_below hb h3, pw_cell_below hb h4, pw_cell_below hb h5, pw_cell_below hb h6, pw_cell_below hb h7, pw_cell_below hb h8, Lib.hid (below_then h9.out h9.out.size hb)⟩
theorem BCJ.b {c : Cfg} {g : Nat} {sd : Int} {x : Value} {most : Int} {j : Nat} {w0 W : World} (h : BCJ c g sd x most j w0 W) : Below w0.heap.size w0 W := h.2.2.2.2.2.2.2.2.2.out
theorem BCJ.new (c : Cfg) (sd : Int) (x : Value) (most : Int) (w : World) : BCJ c w.heap.size sd x most (w.heap.size + 1) w ((w.alloc (.cells #[.int .u64 c.seed, .int .i64 c.vocab, .int .i64 c.dim, .int .i64 c.layers, .int .i64 c.top, .int .i64 c.heat] 24)).alloc (.cells #[.int .u64 sd, x, .int .i64 most] 44)) := by
  have h1 := blk_alloc (heap_alloc_new w (.cells #[.int .u64 c.seed, .int .i64 c.vocab, .int .i64 c.dim, .int .i64 c.layers, .int .i64 c.top, .int .i64 c.heat] 24)) (.cells #[.int .u64 sd, x, .int .i64 most] 44)
  have h2 := heap_alloc2_new w (.cells #[.int .u64 c.seed, .int .i64 c.vocab, .int .i64 c.dim, .int .i64 c.layers, .int .i64 c.top, .int .i64 c.heat] 24) (.cells #[.int .u64 sd, x, .int .i64 most] 44)
  exact ⟨blk_cell h1 0, blk_cell h1 1, blk_cell h1 2, blk_cell h1 3, blk_cell h1 4, blk_cell h1 5, blk_cell h2 0, blk_cell h2 1, blk_cell h2 2, Lib.hid (below_alloc (below_alloc (Below.refl _ w) _) _)⟩

theorem jok_not {c : Cfg} {xs : List Int} {most : Int} {i : Nat} {t : Int} (hi : i < xs.length) (h : xs.getD i 0 = t) (hb : badT c t) : ¬ Jok c xs most := by
  intro hj
  refine hj.2.2.2 t ?_ hb
  rw [← h, List.getD_eq_getElem?_getD, List.getElem?_eq_getElem hi]
  exact List.getElem_mem hi
theorem jok_of {c : Cfg} {xs : List Int} {most : Int} (h0 : 0 ≤ most) (h1 : most ≤ 256) (h2 : xs.length < 256) (h : ∀ k, k < xs.length → ¬ badT c (xs.getD k 0)) : Jok c xs most := by
  refine ⟨h0, h1, h2, fun t ht hb => ?_⟩
  obtain ⟨k, hk, he⟩ := List.mem_iff_getElem.1 ht
  refine h k hk ?_
  rw [List.getD_eq_getElem?_getD, List.getElem?_eq_getElem hk]
  show badT c xs[k]
  rw [he]; exact hb
set_option maxHeartbeats 2000000 in
theorem rmay_any (c : Cfg) (sd most : Int) (A : Option Addr) (cp : Nat) (xs : List Int) (w : World) (hx : (Kd.int .i64).C w A xs.length xs) :
    Calls Try.prog 52 #[c.v, .agg #[.int .u64 sd, .slice A xs.length cp, .int .i64 most]] w fun e w' => e = .returned (.bool (decide (Jok c xs most))) ∧ Below w.heap.size w w' := by
  have HCV := Lib.hid (show c.v = .agg #[.int .u64 c.seed, .int .i64 c.vocab, .int .i64 c.dim, .int .i64 c.layers, .int .i64 c.top, .int .i64 c.heat] from rfl)
  have HX := Lib.hid (fun (W' : World) (hb : Below w.heap.size w W') => Kd.C_below hx hb)
  obtain ⟨n, hn⟩ : ∃ n, xs.length = n := ⟨_, rfl⟩
  have hn9 : n ≤ 9223372036854775807 := by rw [← hn]; exact hx.2.1
  rw [HCV.out, hn]
  have HN := Lib.hid hn
  obtain ⟨r, hr⟩ : ∃ r, decide (Jok c xs most) = r := ⟨_, rfl⟩
  rw [hr]
  have HR := Lib.hid hr
  obtain ⟨W0, hW0⟩ : ∃ W0, (w.alloc (.cells #[.int .u64 c.seed, .int .i64 c.vocab, .int .i64 c.dim, .int .i64 c.layers, .int .i64 c.top, .int .i64 c.heat] 24)).alloc (.cells #[.int .u64 sd, .slice A n cp, .int .i64 most] 44) = W0 := ⟨_, rfl⟩
  have hS := BCJ.new c sd (.slice A n cp) most w
  rw [hW0] at hS
  obtain ⟨g, hg⟩ : ∃ g, w.heap.size = g := ⟨_, rfl⟩
  obtain ⟨j, hj⟩ : ∃ j, g + 1 = j := ⟨_, rfl⟩
  rw [hg, hj] at hS
  have HS := Lib.hid hS
  have HW := Lib.hid hW0
  have HG := Lib.hid hg
  have HJ := Lib.hid hj
  clear hx hn hr hW0 hg hj hS
  have key : ∀ b : Bool, (b = true → Jok c xs most) → (b = false → ¬ Jok c xs most) → r = b := by
    intro b h1 h2
    rw [← HR.out]
    cases b with
    | true => exact decide_eq_true (h1 rfl)
    | false => exact decide_eq_false (h2 rfl)
  have HK := Lib.hid key
  clear key
  by_cases h0 : most < 0
  · have HF := Lib.hid (HK.out false (by simp) (fun _ hj => by have := hj.1; omega))
    go_enter Try.func52, Try.ntmps52
    go_wp2_with fail
    try rw [HG.out]
    try rw [HJ.out]
    rw [HW.out]
    obtain ⟨z0, z1, z2, z3, z4, z5, y0, y1, y2, -⟩ := id HS.out
    go_wp2_with fail
    go_ret
    refine ⟨by rw [HF.out]; rfl, ?_⟩; first | exact HS.out.b | (rw [← HG.out]; exact HS.out.b)
  · by_cases h1 : 256 < most
    · have HF := Lib.hid (HK.out false (by simp) (fun _ hj => by have := hj.2.1; omega))
      go_enter Try.func52, Try.ntmps52
      go_wp2_with fail
      try rw [HG.out]
      try rw [HJ.out]
      rw [HW.out]
      obtain ⟨z0, z1, z2, z3, z4, z5, y0, y1, y2, -⟩ := id HS.out
      go_wp2_with fail
      go_ret
      refine ⟨by rw [HF.out]; rfl, ?_⟩; first | exact HS.out.b | (rw [← HG.out]; exact HS.out.b)
    · by_cases h2 : 255 < n
      · have HF := Lib.hid (HK.out false (by simp) (fun _ hj => by have h := hj.2.2.1; rw [HN.out] at h; omega))
        go_enter Try.func52, Try.ntmps52
        go_wp2_with fail
        try rw [HG.out]
        try rw [HJ.out]
        rw [HW.out]
        obtain ⟨z0, z1, z2, z3, z4, z5, y0, y1, y2, -⟩ := id HS.out
        go_wp2_with fail
        go_ret
        refine ⟨by rw [HF.out]; rfl, ?_⟩; first | exact HS.out.b | (rw [← HG.out]; exact HS.out.b)
      · go_enter Try.func52, Try.ntmps52
        go_wp2_with fail
        try rw [HG.out]
        try rw [HJ.out]
        rw [HW.out]
        obtain ⟨z0, z1, z2, z3, z4, z5, y0, y1, y2, -⟩ := id HS.out
        go_wp2_with fail
        go_loopw [5] (fun s wr => ∃ i : Nat, s = .int .i64 i ∧ i ≤ n ∧ Hid (∀ k, k < i → ¬ badT c (xs.getD k 0)) ∧ Hid (Drawn0 W0 wr)) (fun s _ => n - (intOf s).toNat)
        case atStart => exact ⟨0, rfl, by omega, Lib.hid (fun k hk => absurd hk (by omega)), Lib.hid (Drawn0.refl _)⟩
        case round =>
          obtain ⟨i, rfl, hi, HTi, HDi⟩ := hrel
          have HSi := Lib.hid (HS.out.step HDi.out.below)
          clear z0 z1 z2 z3 z4 z5 y0 y1 y2
          obtain ⟨z0, z1, z2, z3, z4, z5, y0, y1, y2, -⟩ := id HSi.out
          by_cases him : i < n
          · obtain ⟨b, eb, q⟩ := at_nat (HX.out _ HSi.out.b) i (by rw [HN.out]; exact him)
            subst eb
            obtain ⟨t, ht⟩ : ∃ t, xs.getD i 0 = t := ⟨_, rfl⟩
            rw [ht] at q
            have HT := Lib.hid ht
            clear ht
            by_cases t0 : t < 0
            · have HF := Lib.hid (HK.out false (by simp) (fun _ => jok_not (by rw [HN.out]; exact him) HT.out (.inl t0)))
              go_wp2_with fail
              go_quiet (fail)
              go_wp2_with fail
              go_ret
              refine ⟨by rw [HF.out]; rfl, ?_⟩; first | exact below_then HS.out.b HS.out.b.size (Drawn0.step HDi.out _).below | (rw [← HG.out]; exact below_then HS.out.b HS.out.b.size (Drawn0.step HDi.out _).below)
            · by_cases t1 : c.vocab ≤ t
              · have HF := Lib.hid (HK.out false (by simp) (fun _ => jok_not (by rw [HN.out]; exact him) HT.out (.inr t1)))
                go_wp2_with fail
                go_quiet (fail)
                go_wp2_with fail
                go_ret
                refine ⟨by rw [HF.out]; rfl, ?_⟩; first | exact below_then HS.out.b HS.out.b.size (Drawn0.step HDi.out _).below | (rw [← HG.out]; exact below_then HS.out.b HS.out.b.size (Drawn0.step HDi.out _).below)
              · go_wp2_with fail
                go_quiet (fail)
                go_wp2_with fail
                go_roundw
                case rel => exact ⟨i + 1, by go_num, by omega, Lib.hid (fun k hk => by
                  by_cases h : k = i
                  · subst h
                    rw [HT.out]
                    intro hb
                    rcases hb with hb | hb
                    · exact absurd hb (by omega)
                    · exact absurd hb (by omega)
                  · exact HTi.out k (by omega)), Lib.hid (Drawn0.step HDi.out _)⟩
                case measure => simp [intOf]; omega
          · have HF := Lib.hid (HK.out true (fun _ => jok_of (by omega) (by omega) (by rw [HN.out]; omega) (fun k hk => HTi.out k (by rw [HN.out] at hk; omega))) (by simp))
            go_wp2_with fail
            go_ret
            refine ⟨by rw [HF.out]; rfl, ?_⟩; first | exact HSi.out.b | (rw [← HG.out]; exact HSi.out.b)


set_option maxHeartbeats 4000000 in
theorem rmay26 (st : TSet) (W : World) : Calls Try.prog 11 #[st.v] W fun e w' => e = .returned (.bool (decide st.ok)) ∧ Below W.heap.size W w' := by
  have HM := Lib.hid (fun W => rmay09 st.cfg W)
  rw [show st.cfg.v = .agg #[.int .u64 st.seed, .int .i64 st.vocab, .int .i64 st.dim, .int .i64 st.layers, .int .i64 st.top, .int .i64 st.heat] from rfl] at HM
  unfold TSet.v
  have hb := below_alloc (Below.refl W.heap.size W) (.cells #[.int .u64 st.seed, .int .i64 st.vocab, .int .i64 st.dim, .int .i64 st.layers, .int .i64 st.top, .int .i64 st.heat, .int .i64 st.streams, .int .i64 st.each, .int .i64 st.prompt, .int .i64 st.most] 26)
  have hk := heap_alloc_new W (.cells #[.int .u64 st.seed, .int .i64 st.vocab, .int .i64 st.dim, .int .i64 st.layers, .int .i64 st.top, .int .i64 st.heat, .int .i64 st.streams, .int .i64 st.each, .int .i64 st.prompt, .int .i64 st.most] 26)
  obtain ⟨W0, hW0⟩ : ∃ W0, W.alloc (.cells #[.int .u64 st.seed, .int .i64 st.vocab, .int .i64 st.dim, .int .i64 st.layers, .int .i64 st.top, .int .i64 st.heat, .int .i64 st.streams, .int .i64 st.each, .int .i64 st.prompt, .int .i64 st.most] 26) = W0 := ⟨_, rfl⟩
  obtain ⟨g, hg⟩ : ∃ g, W.heap.size = g := ⟨_, rfl⟩
  rw [hW0] at hb hk
  have HB := Lib.hid hb
  rw [hg] at hk
  obtain ⟨R, hR⟩ : ∃ R, decide st.ok = R := ⟨_, rfl⟩
  have HRR := Lib.hid hR
  rw [hR]
  have z0 := blk_cell hk 0
  have z1 := blk_cell hk 1
  have z2 := blk_cell hk 2
  have z3 := blk_cell hk 3
  have z4 := blk_cell hk 4
  have z5 := blk_cell hk 5
  have HK := Lib.hid hk
  clear hb hk hR
  go_enter Try.func11, Try.ntmps11
  go_wp2_with fail
  clear hW0 hg
  refine (HM.out _).mono ?_
  rintro e w1 ⟨rfl, hb1⟩
  have HB1 := Lib.hid (below_then HB.out HB.out.size hb1)
  have hk1 := blk_below HK.out hb1
  clear hb1 z0 z1 z2 z3 z4 z5
  have z6 := blk_cell hk1 6
  have z7 := blk_cell hk1 7
  have z8 := blk_cell hk1 8
  have z9 := blk_cell hk1 9
  clear hk1
  by_cases h0 : st.cfg.ok
  · have H0 := Lib.hid h0
    rw [decide_eq_true h0]
    clear h0
    by_cases h1 : 1 ≤ st.streams
    · have d1 : decide (1 ≤ st.streams) = true := decide_eq_true h1
      by_cases h2 : st.streams ≤ 64
      · have d2 : decide (st.streams ≤ 64) = true := decide_eq_true h2
        by_cases h3 : 1 ≤ st.each
        · have d3 : decide (1 ≤ st.each) = true := decide_eq_true h3
          by_cases h4 : st.each ≤ st.streams
          · have d4 : decide (st.each ≤ st.streams) = true := decide_eq_true h4
            by_cases h5 : 0 ≤ st.prompt
            · have d5 : decide (0 ≤ st.prompt) = true := decide_eq_true h5
              by_cases h6 : st.prompt ≤ 255
              · have d6 : decide (st.prompt ≤ 255) = true := decide_eq_true h6
                by_cases h7 : 0 ≤ st.most
                · have d7 : decide (0 ≤ st.most) = true := decide_eq_true h7
                  by_cases h8 : st.most ≤ 256
                  · have d8 : decide (st.most ≤ 256) = true := decide_eq_true h8
                    have HF := Lib.hid (show R = true by rw [← HRR.out]; exact decide_eq_true ⟨H0.out, ⟨h1, h2⟩, ⟨h3, h4⟩, ⟨h5, h6⟩, h7, h8⟩)
                    go_wp2_with fail
                    go_ret
                    exact ⟨by first | (rw [HF.out]; done) | (rw [HF.out]; rfl), HB1.out⟩
                  · have d8 : decide (st.most ≤ 256) = false := decide_eq_false h8
                    have HF := Lib.hid (show R = false by rw [← HRR.out]; exact decide_eq_false (fun h => h8 h.2.2.2.2.2))
                    go_wp2_with fail
                    go_ret
                    exact ⟨by first | (rw [HF.out]; done) | (rw [HF.out]; rfl), HB1.out⟩
                · have d7 : decide (0 ≤ st.most) = false := decide_eq_false h7
                  have HF := Lib.hid (show R = false by rw [← HRR.out]; exact decide_eq_false (fun h => h7 h.2.2.2.2.1))
                  go_wp2_with fail
                  go_ret
                  exact ⟨by first | (rw [HF.out]; done) | (rw [HF.out]; rfl), HB1.out⟩
              · have d6 : decide (st.prompt ≤ 255) = false := decide_eq_false h6
                have HF := Lib.hid (show R = false by rw [← HRR.out]; exact decide_eq_false (fun h => h6 h.2.2.2.1.2))
                go_wp2_with fail
                go_ret
                exact ⟨by first | (rw [HF.out]; done) | (rw [HF.out]; rfl), HB1.out⟩
            · have d5 : decide (0 ≤ st.prompt) = false := decide_eq_false h5
              have HF := Lib.hid (show R = false by rw [← HRR.out]; exact decide_eq_false (fun h => h5 h.2.2.2.1.1))
              go_wp2_with fail
              go_ret
              exact ⟨by first | (rw [HF.out]; done) | (rw [HF.out]; rfl), HB1.out⟩
          · have d4 : decide (st.each ≤ st.streams) = false := decide_eq_false h4
            have HF := Lib.hid (show R = false by rw [← HRR.out]; exact decide_eq_false (fun h => h4 h.2.2.1.2))
            go_wp2_with fail
            go_ret
            exact ⟨by first | (rw [HF.out]; done) | (rw [HF.out]; rfl), HB1.out⟩
        · have d3 : decide (1 ≤ st.each) = false := decide_eq_false h3
          have HF := Lib.hid (show R = false by rw [← HRR.out]; exact decide_eq_false (fun h => h3 h.2.2.1.1))
          go_wp2_with fail
          go_ret
          exact ⟨by first | (rw [HF.out]; done) | (rw [HF.out]; rfl), HB1.out⟩
      · have d2 : decide (st.streams ≤ 64) = false := decide_eq_false h2
        have HF := Lib.hid (show R = false by rw [← HRR.out]; exact decide_eq_false (fun h => h2 h.2.1.2))
        go_wp2_with fail
        go_ret
        exact ⟨by first | (rw [HF.out]; done) | (rw [HF.out]; rfl), HB1.out⟩
    · have d1 : decide (1 ≤ st.streams) = false := decide_eq_false h1
      have HF := Lib.hid (show R = false by rw [← HRR.out]; exact decide_eq_false (fun h => h1 h.2.1.1))
      go_wp2_with fail
      go_ret
      exact ⟨by first | (rw [HF.out]; done) | (rw [HF.out]; rfl), HB1.out⟩
  · rw [decide_eq_false h0]
    have HF := Lib.hid (show R = false by rw [← HRR.out]; exact decide_eq_false (fun h => h0 h.1))
    clear h0
    go_wp2_with fail
    go_ret
    exact ⟨by first | (rw [HF.out]; done) | (rw [HF.out]; rfl), HB1.out⟩
end Go.Proofs.Ytmbhicjjbgbneaa
