/- The document's May. -/
import Derived.Test.YtdfgmdmcdnnhfaaGreatDcJ
namespace Go.Proofs.YtdfgmdmcdnnhfaaGreat
open Go.RowKit Go.Shelf Go.Proofs.YtdfgmdmcdnnhfaaGreatW.PrintWords Go.Proofs.YtdfgmdmcdnnhfaaGreatW.PrintLast Go.Proofs.YtdfgmdmcdnnhfaaGreatW.PrintMore
set_option linter.unusedVariables false
set_option linter.unusedSimpArgs false
set_option maxRecDepth 100000

theorem jok_not {c : Cfg} {xs : List Int} {most : Int} {i : Nat} {t : Int} (hi : i < xs.length) (h : xs.getD i 0 = t) (hb : badT c t) : ¬ Jok c xs most := by
  intro hj
  refine hj.2.2.2 t ?_ hb
  rw [← h, List.getD_eq_getElem?_getD, List.getElem?_eq_getElem hi]
  exact List.getElem_mem hi
theorem jok_of {c : Cfg} {xs : List Int} {most : Int} (h0 : 0 ≤ most) (h1 : most ≤ 256) (h2 : xs.length < 256) (h : ∀ k, k < xs.length → ¬ badT c (xs.getD k 0)) : Jok c xs most := by
  refine ⟨h0, h1, h2, fun t ht hb => ?_⟩
  obtain ⟨k, hk, he⟩ := List.mem_iff_getElem.1 ht
  refine h k hk ?_
  rw [List.getD_eq_getElem?_getD, List.getElem?_eq_getElem hk]
  show badT c xs[k]
  rw [he]; exact hb
set_option maxHeartbeats 2000000 in
theorem rmay_any (c : Cfg) (sd most : Int) (A : Option Addr) (cp : Nat) (xs : List Int) (w : World) (hx : (Kd.int .i64).C w A xs.length xs) :
    Calls Tryz.prog 9 #[c.v, .agg #[.int .u64 sd, .slice A xs.length cp, .int .i64 most]] w fun e w' => e = .returned (.bool (decide (Jok c xs most))) ∧ Below w.heap.size w w' := by
  have HCV := Lib.hid (show c.v = .agg #[.int .u64 c.seed, .int .i64 c.vocab, .int .i64 c.dim, .int .i64 c.layers, .int .i64 c.top, .int .i64 c.heat] from rfl)
  have HX := Lib.hid (fun (W' : World) (hb : Below w.heap.size w W') => Kd.C_below hx hb)
  obtain ⟨n, hn⟩ : ∃ n, xs.length = n := ⟨_, rfl⟩
  have hn9 : n ≤ 9223372036854775807 := by rw [← hn]; exact hx.2.1
  rw [HCV.out, hn]
  have HN := Lib.hid hn
  obtain ⟨r, hr⟩ : ∃ r, decide (Jok c xs most) = r := ⟨_, rfl⟩
  rw [hr]
  have HR := Lib.hid hr
  obtain ⟨W0, hW0⟩ : ∃ W0, (w.alloc (.cells #[.int .u64 c.seed, .int .i64 c.vocab, .int .i64 c.dim, .int .i64 c.layers, .int .i64 c.top, .int .i64 c.heat] 24)).alloc (.cells #[.int .u64 sd, .slice A n cp, .int .i64 most] 27) = W0 := ⟨_, rfl⟩
  have hS := BCJ.new c sd (.slice A n cp) most w
  rw [hW0] at hS
  obtain ⟨g, hg⟩ : ∃ g, w.heap.size = g := ⟨_, rfl⟩
  obtain ⟨j, hj⟩ : ∃ j, g + 1 = j := ⟨_, rfl⟩
  rw [hg, hj] at hS
  have HS := Lib.hid hS
  have HW := Lib.hid hW0
  have HG := Lib.hid hg
  have HJ := Lib.hid hj
  clear hx hn hr hW0 hg hj hS
  have key : ∀ b : Bool, (b = true → Jok c xs most) → (b = false → ¬ Jok c xs most) → r = b := by
    intro b h1 h2
    rw [← HR.out]
    cases b with
    | true => exact decide_eq_true (h1 rfl)
    | false => exact decide_eq_false (h2 rfl)
  have HK := Lib.hid key
  clear key
  by_cases h0 : most < 0
  · have HF := Lib.hid (HK.out false (by simp) (fun _ hj => by have := hj.1; omega))
    go_enter Tryz.func9, Tryz.ntmps9
    go_wp2_with fail
    try rw [HG.out]
    try rw [HJ.out]
    rw [HW.out]
    obtain ⟨z0, z1, z2, z3, z4, z5, y0, y1, y2, -⟩ := id HS.out
    go_wp2_with fail
    go_ret
    refine ⟨by rw [HF.out]; rfl, ?_⟩; first | exact HS.out.b | (rw [← HG.out]; exact HS.out.b)
  · by_cases h1 : 256 < most
    · have HF := Lib.hid (HK.out false (by simp) (fun _ hj => by have := hj.2.1; omega))
      go_enter Tryz.func9, Tryz.ntmps9
      go_wp2_with fail
      try rw [HG.out]
      try rw [HJ.out]
      rw [HW.out]
      obtain ⟨z0, z1, z2, z3, z4, z5, y0, y1, y2, -⟩ := id HS.out
      go_wp2_with fail
      go_ret
      refine ⟨by rw [HF.out]; rfl, ?_⟩; first | exact HS.out.b | (rw [← HG.out]; exact HS.out.b)
    · by_cases h2 : 255 < n
      · have HF := Lib.hid (HK.out false (by simp) (fun _ hj => by have h := hj.2.2.1; rw [HN.out] at h; omega))
        go_enter Tryz.func9, Tryz.ntmps9
        go_wp2_with fail
        try rw [HG.out]
        try rw [HJ.out]
        rw [HW.out]
        obtain ⟨z0, z1, z2, z3, z4, z5, y0, y1, y2, -⟩ := id HS.out
        go_wp2_with fail
        go_ret
        refine ⟨by rw [HF.out]; rfl, ?_⟩; first | exact HS.out.b | (rw [← HG.out]; exact HS.out.b)
      · go_enter Tryz.func9, Tryz.ntmps9
        go_wp2_with fail
        try rw [HG.out]
        try rw [HJ.out]
        rw [HW.out]
        obtain ⟨z0, z1, z2, z3, z4, z5, y0, y1, y2, -⟩ := id HS.out
        go_wp2_with fail
        go_loopw [5] (fun s wr => ∃ i : Nat, s = .int .i64 i ∧ i ≤ n ∧ Hid (∀ k, k < i → ¬ badT c (xs.getD k 0)) ∧ Hid (Drawn0 W0 wr)) (fun s _ => n - (intOf s).toNat)
        case atStart => exact ⟨0, rfl, by omega, Lib.hid (fun k hk => absurd hk (by omega)), Lib.hid (Drawn0.refl _)⟩
        case round =>
          obtain ⟨i, rfl, hi, HTi, HDi⟩ := hrel
          have HSi := Lib.hid (HS.out.step HDi.out.below)
          clear z0 z1 z2 z3 z4 z5 y0 y1 y2
          obtain ⟨z0, z1, z2, z3, z4, z5, y0, y1, y2, -⟩ := id HSi.out
          by_cases him : i < n
          · obtain ⟨b, eb, q⟩ := at_nat (HX.out _ HSi.out.b) i (by rw [HN.out]; exact him)
            subst eb
            obtain ⟨t, ht⟩ : ∃ t, xs.getD i 0 = t := ⟨_, rfl⟩
            rw [ht] at q
            have HT := Lib.hid ht
            clear ht
            by_cases t0 : t < 0
            · have HF := Lib.hid (HK.out false (by simp) (fun _ => jok_not (by rw [HN.out]; exact him) HT.out (.inl t0)))
              go_wp2_with fail
              go_quiet (fail)
              go_wp2_with fail
              go_ret
              refine ⟨by rw [HF.out]; rfl, ?_⟩; first | exact below_then HS.out.b HS.out.b.size (Drawn0.step HDi.out _).below | (rw [← HG.out]; exact below_then HS.out.b HS.out.b.size (Drawn0.step HDi.out _).below)
            · by_cases t1 : c.vocab ≤ t
              · have HF := Lib.hid (HK.out false (by simp) (fun _ => jok_not (by rw [HN.out]; exact him) HT.out (.inr t1)))
                go_wp2_with fail
                go_quiet (fail)
                go_wp2_with fail
                go_ret
                refine ⟨by rw [HF.out]; rfl, ?_⟩; first | exact below_then HS.out.b HS.out.b.size (Drawn0.step HDi.out _).below | (rw [← HG.out]; exact below_then HS.out.b HS.out.b.size (Drawn0.step HDi.out _).below)
              · go_wp2_with fail
                go_quiet (fail)
                go_wp2_with fail
                go_roundw
                case rel => exact ⟨i + 1, by go_num, by omega, Lib.hid (fun k hk => by
                  by_cases h : k = i
                  · subst h
                    rw [HT.out]
                    intro hb
                    rcases hb with hb | hb
                    · exact absurd hb (by omega)
                    · exact absurd hb (by omega)
                  · exact HTi.out k (by omega)), Lib.hid (Drawn0.step HDi.out _)⟩
                case measure => simp [intOf]; omega
          · have HF := Lib.hid (HK.out true (fun _ => jok_of (by omega) (by omega) (by rw [HN.out]; omega) (fun k hk => HTi.out k (by rw [HN.out] at hk; omega))) (by simp))
            go_wp2_with fail
            go_ret
            refine ⟨by rw [HF.out]; rfl, ?_⟩; first | exact HSi.out.b | (rw [← HG.out]; exact HSi.out.b)

end Go.Proofs.YtdfgmdmcdnnhfaaGreat
