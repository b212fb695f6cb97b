/- What a text is cut to, and fed with again, is the same. -/
import Derived.Test.YtdfgmdmcdnnhfaaRows
import Derived.WalkKit
import Derived.ProofKit
import Derived.OpenShut
import Derived.ShutString
import Derived.ChangeOld
import Derived.Below
import Derived.Test.YtdfgmdmcdnnhfaaOpn
import Derived.Test.YtdfgmdmcdnnhfaaDcJ
namespace Go.Proofs.Ytdfgmdmcdnnhfaa.decodeCuts
open Go.ChangeShapes Go.WideShapes Go.ChangeAt Go.RowKit
open Go.ChangeMaps (open_string shut_string)
set_option linter.unusedVariables false
set_option linter.unusedSimpArgs false
open Go.Proofs.YtdfgmdmcdnnhfaaW.PrintWords Go.Proofs.YtdfgmdmcdnnhfaaW.PrintLast Go.Proofs.YtdfgmdmcdnnhfaaW.PrintMore

theorem own : ownKnob Try.prog.godebug = none := by kernel_rfl
theorem laidOut : laidOutB Try.prog = true := by kernel_rfl

set_option maxRecDepth 100000
attribute [local go_sem] gb_max2 gb_min2 gb_max_two gb_min_two gb_max_three gb_min_three run_cfg1 run_cfg2 run_cfg3
theorem dnx_both (c : Cfg) (hok : c.ok) (p : Nat) (toks : List Int) (sd : Int) (h0 : 0 < toks.length) (h9 : toks.length ≤ 256) : ∃ (v : Int) (b : Bool), ∀ (F : Nat → Prop) (W : World) (s : Nat), Mo W p c → StG F W s p c toks →
    Calls Try.prog 42 #[.pointer (some ⟨s, 0, none⟩), .int .u64 sd] W fun e w' => e = .returned (.tuple #[.int .i64 v, .bool b]) ∧ Below W.heap.size W w' := by
  by_cases h : toks.length < 256
  · exact ⟨dNx c toks sd, true, fun F W s hMo hS => dnext_any F W s p c hok hMo toks hS h0 h sd⟩
  · exact ⟨0, false, fun F W s hMo hS => (dnext_full F W s p c toks hS (by omega) sd).mono (fun e w' h => ⟨h.1, by rw [h.2]; exact Below.refl _ _⟩)⟩
theorem cutF (A : Option Addr) (n c j : Nat) (h : j ≤ n) : ∀ W : World, (Instr.slice 64 (.slice A n c) (some (.int .i64 j)) none none).run Try.prog W = .ok (.slice (if c = j then A else A.map (·.add (j * 1))) (n - j) (c - j)) W := by
  obtain ⟨i, hi, h1, h2, h3⟩ := info_parts infoInt
  have hsz : i.size = 1 := by first | exact h1 | exact h2 | exact h3
  have h1 := cut_from (P := Try.prog) 64 3 .i64 Try.underlying64 hi 1 hsz A n c j (by omega) (by omega)
  rwa [Int.toNat_natCast] at h1
theorem take_drop_succ (xs : List Int) (k i : Nat) (h : k + i < xs.length) : xs.take (k + i) ++ [(xs.drop k).getD i 0] = xs.take (k + (i + 1)) := by
  rw [show k + (i + 1) = (k + i) + 1 from rfl, List.take_succ_eq_append_getElem h, List.getD_eq_getElem?_getD, List.getElem?_drop, List.getElem?_eq_getElem h]
  rfl
theorem drop_mem (xs : List Int) (k i : Nat) (h : k + i < xs.length) : (xs.drop k).getD i 0 ∈ xs := by
  rw [List.getD_eq_getElem?_getD, List.getElem?_drop, List.getElem?_eq_getElem h]
  exact List.getElem_mem h
theorem isame_k (A B : Option Addr) (n c d : Nat) (xs : List Int) (hl : xs.length = n) (W : World) (hx : (Kd.int .i64).C W A n xs) (hy : (Kd.int .i64).C W B n xs) (hc : n ≤ c) (hd : n ≤ d) (hn : n ≤ 1000000) :
    Calls Try.prog 38 #[.slice A n c, .slice B n d] W fun e w' => e = .returned (.bool true) ∧ Below W.heap.size W w' := by
  subst hl
  refine (isame_any A B c d xs xs W hx hy hc hd hn hn).mono (fun e w' h => ⟨by rw [h.1, decide_eq_true rfl], h.2.below⟩)
set_option maxHeartbeats 4000000 in
theorem walk (cs0 : Array Value) (x0 : Cfg) (cs1 : Array Value) (x1 : JobV) (a2 : Int) (w : World) (k0 : KCfg.K w x0 cs0.toList) (gd0 : (CfgW) x0) (k1 : KJob.K w x1 cs1.toList) (gd1 : (JobG) x1) (gd2 : (Lit.int .i64 a2).wf = true) :
    Calls Try.prog 10 #[.agg cs0, .agg cs1, .int .i64 a2] w fun e w' => e = .returned (.bool true) ∧ Below w.heap.size w w' := by
  obtain rfl := cfg_cells k0
  obtain ⟨A, ca, rfl, hca, hx⟩ := job_cells k1
  obtain ⟨sd, xs, most⟩ := x1
  dsimp only at hca hx ⊢
  have HCV := Lib.hid (show x0.v = .agg #[.int .u64 x0.seed, .int .i64 x0.vocab, .int .i64 x0.dim, .int .i64 x0.layers, .int .i64 x0.top, .int .i64 x0.heat] from rfl)
  have HX := Lib.hid (fun (W' : World) (hb : Below w.heap.size w W') => Kd.C_below hx hb)
  obtain ⟨n, hn⟩ : ∃ n, xs.length = n := ⟨_, rfl⟩
  rw [hn] at hca ⊢
  have HN := Lib.hid hn
  obtain ⟨W0, hW0⟩ : ∃ W0, (w.alloc (.cells #[.int .u64 x0.seed, .int .i64 x0.vocab, .int .i64 x0.dim, .int .i64 x0.layers, .int .i64 x0.top, .int .i64 x0.heat] 24)).alloc (.cells #[.int .u64 sd, .slice A n ca, .int .i64 most] 66) = W0 := ⟨_, rfl⟩
  have hS := BCJ.new x0 sd (.slice A n ca) most w
  rw [hW0] at hS
  obtain ⟨g, hg⟩ : ∃ g, w.heap.size = g := ⟨_, rfl⟩
  obtain ⟨j, hj⟩ : ∃ j, g + 1 = j := ⟨_, rfl⟩
  rw [hg, hj] at hS
  have HS := Lib.hid hS
  have HW := Lib.hid hW0
  have HG := Lib.hid hg
  have HJ := Lib.hid hj
  clear k0 k1 gd0 gd1 gd2 hx hn hW0 hg hj hS
  obtain ⟨z0, z1, z2, z3, z4, z5, y0, y1, y2, -⟩ := id HS.out
  by_cases hok : x0.ok
  · have HNW := Lib.hid (new_ok x0 hok W0)
    rw [HCV.out] at HNW
    have HOK := Lib.hid hok
    clear hok
    go_enter Try.func10, Try.ntmps10
    go_wp2_with fail
    try rw [HG.out]
    try rw [HJ.out]
    rw [HW.out]
    refine HNW.out.mono ?_
    unfold NewYes
    rintro e W1 ⟨p, rfl, hM, hb⟩
    have HMo := Lib.hid (fun (W' : World) (hb : Below W1.heap.size W1 W') => hM.below hb)
    have HS1 := Lib.hid (HS.out.step hb)
    clear hM hb HNW z0 z1 z2 z3 z4 z5 y0 y1 y2
    obtain ⟨z0, z1, z2, z3, z4, z5, y0, y1, y2, -⟩ := id HS1.out
    go_wp2_with fail
    refine (far12_any W1 sd most A n ca).mono ?_
    obtain ⟨fb, hfb⟩ : ∃ b, decide (FarJ n most) = b := ⟨_, rfl⟩
    rw [hfb]
    rintro e W2 ⟨rfl, hb⟩
    have HS2 := Lib.hid (HS1.out.step hb)
    have HB2 := Lib.hid hb
    clear hb hfb z0 z1 z2 z3 z4 z5 y0 y1 y2
    obtain ⟨z0, z1, z2, z3, z4, z5, y0, y1, y2, -⟩ := id HS2.out
    cases fb with
    | true =>
      go_wp2_with fail
      refine (alive12_any _).mono ?_
      rintro e W3 ⟨rfl, hb⟩
      have HBE := Lib.hid (below_then HS2.out.b HS2.out.b.size hb)
      clear hb
      go_wp2_with fail
      go_ret
      exact ⟨rfl, HBE.out⟩
    | false =>
      have HMY := Lib.hid (dmay_any x0 sd most A ca xs W2 (HX.out W2 HS2.out.b))
      rw [HCV.out, HN.out] at HMY
      by_cases hjk : Jok x0 xs most
      · have HJK := Lib.hid hjk
        rw [decide_eq_true hjk] at HMY
        clear hjk
        go_wp2_with fail
        refine HMY.out.mono ?_
        rintro e W3 ⟨rfl, hb⟩
        have HS3 := Lib.hid (HS2.out.step hb)
        have HB3 := Lib.hid (below_then HB2.out HB2.out.size hb)
        clear hb z0 z1 z2 z3 z4 z5 y0 y1 y2
        obtain ⟨z0, z1, z2, z3, z4, z5, y0, y1, y2, -⟩ := id HS3.out
        have hST := (dstart_any W3 p x0 HOK.out (HMo.out W3 HB3.out) sd most A none ca 0 xs [] (HX.out W3 HS3.out.b) (C_nil0 W3)).mono (fun e w' h => startY_of HJK.out h)
        rw [HN.out] at hST
        have HST := Lib.hid hST
        unfold StartY at HST
        obtain ⟨toks, htk⟩ : ∃ l, 0 :: xs = l := ⟨_, rfl⟩
        have h256 : n < 256 := by have h := HJK.out.2.2.1; rw [HN.out] at h; exact h
        obtain ⟨L, hL⟩ : ∃ L, toks.length = L := ⟨_, rfl⟩
        have hLn : L = n + 1 := by rw [← hL, ← htk, List.length_cons, HN.out]
        have HGD := Lib.hid (show ∀ t ∈ toks, 0 ≤ t ∧ t < x0.vocab by
          intro t ht
          rw [← htk] at ht
          rcases List.mem_cons.1 ht with rfl | ht
          · have h := HOK.out.1.1; omega
          · have h := HJK.out.2.2.2 t ht
            unfold badT at h
            omega)
        rw [htk] at HST
        have HL := Lib.hid hL
        have h1L : 1 ≤ L := by omega
        have h9L : L ≤ 256 := by omega
        obtain ⟨k, hk⟩ : ∃ k, (min (max a2 1) (L : Int)).toNat = k := ⟨_, rfl⟩
        have hkm : min (max a2 1) (L : Int) = (k : Int) := by omega
        have hki : (if (L : Int) < (if a2 < 1 then 1 else a2) then (L : Int) else (if a2 < 1 then 1 else a2)) = (k : Int) := by rw [← hkm]; split <;> split <;> omega
        have hki2 : (if (if a2 < 1 then 1 else a2) < (L : Int) then (if a2 < 1 then 1 else a2) else (L : Int)) = (k : Int) := by rw [← hkm]; split <;> split <;> omega
        have hk1 : 1 ≤ k := by omega
        have hkL : k ≤ L := by omega
        have HKT := Lib.hid hk
        have HNX := Lib.hid (dnx_both x0 HOK.out p toks sd (by rw [hL]; omega) (by rw [hL]; omega))
        clear hST hLn htk hL hk h256
        go_wp2_with fail
        refine HST.out.mono ?_
        rintro e W4 ⟨s, rfl, hst, hb⟩
        have HS4 := Lib.hid (HS3.out.step hb)
        have HM4 := Lib.hid (below_then HB3.out HB3.out.size hb)
        obtain ⟨F, hF⟩ : ∃ F, Bt W3.heap.size W4.heap.size = F := ⟨_, rfl⟩
        rw [hF] at hst
        have HFE := Lib.hid hF
        have HZ4 := Lib.hid hb.size
        have HSS := Lib.hid hst
        have HTO := Lib.hid (dtoks_any F W4 s p x0 toks hst (by rw [HL.out]; omega))
        rw [HL.out] at HTO
        clear hst hb hF HST z0 z1 z2 z3 z4 z5 y0 y1 y2
        obtain ⟨z0, z1, z2, z3, z4, z5, y0, y1, y2, -⟩ := id HS4.out
        go_wp2_with fail
        refine HTO.out.mono ?_
        rintro e W5 ⟨A1, c1, rfl, ho, hb⟩
        obtain ⟨Ax, cx, hvx, hcx, hCx⟩ := ho.reads
        injection hvx with h1 h2 h3
        clear h2
        subst h1 h3
        have HA1 := Lib.hid (fun (W' : World) (hb : Below W5.heap.size W5 W') => Kd.C_below hCx hb)
        rw [HL.out] at hcx
        have HS5 := Lib.hid (HS4.out.step hb)
        have HZ5 := Lib.hid hb.size
        have HM5 := Lib.hid (below_then HM4.out HM4.out.size hb)
        have HSS5 := Lib.hid (HSS.out.below hb)
        have HCU := Lib.hid (dcut_any F W5 s p x0 toks HSS5.out (by rw [HL.out]; omega) (by rw [HL.out]; omega) a2)
        rw [HL.out, HKT.out] at HCU
        unfold AddR at HCU
        clear ho hCx hb z0 z1 z2 z3 z4 z5 y0 y1 y2 HTO HSS
        obtain ⟨z0, z1, z2, z3, z4, z5, y0, y1, y2, -⟩ := id HS5.out
        go_wp2_with fail
        refine HCU.out.mono ?_
        rintro e W6 ⟨x, rfl, hst, hb⟩
        obtain ⟨G, hG⟩ : ∃ G, FU F (Bt W5.heap.size W6.heap.size) = G := ⟨_, rfl⟩
        rw [hG] at hst
        have HGE := Lib.hid hG
        have HXX := Lib.hid hst
        have HS6 := Lib.hid (HS5.out.step hb)
        have HM6 := Lib.hid (below_then HM5.out HM5.out.size hb)
        have HSS6 := Lib.hid (HSS5.out.below hb)
        have HB56 := Lib.hid hb
        have hcut := cutI2 A1 L c1 k (by omega) hcx
        have HTL := Lib.hid (show (toks.take k).length = k by rw [List.length_take, HL.out]; omega)
        have HLX := Lib.hid (fun (W' : World) (hb : Below W6.heap.size W6 W') => dlen_any G W' x p x0 _ (HXX.out.below hb))
        have HTX := Lib.hid (fun (W' : World) (hb : Below W6.heap.size W6 W') => dtoks_any G W' x p x0 _ (HXX.out.below hb) (by rw [HTL.out]; omega))
        rw [HTL.out] at HLX HTX
        clear hst hb hG HCU HSS5 z0 z1 z2 z3 z4 z5 y0 y1 y2
        obtain ⟨z0, z1, z2, z3, z4, z5, y0, y1, y2, -⟩ := id HS6.out
        go_wp2_with fail
        have HAK := Lib.hid (fun (W' : World) (hb : Below W6.heap.size W6 W') => show (Kd.int .i64).C W' A1 k (toks.take k) by
          have h := Kd.C_take (m := k) (HA1.out W' (below_then HB56.out HB56.out.size hb)) (by rw [HL.out]; omega)
          rwa [HTL.out] at h)
        have hB6 : Below W6.heap.size W6 W6.drew := below_drew (Below.refl _ _)
        go_region_held3 (fun w' => Hid (Below W6.heap.size W6 w'))
          (first | exact Lib.hid hB6 | exact Lib.hid (below_then (Hid.out (by assumption : Hid (Below W6.heap.size W6 _))) (Below.size (Hid.out (by assumption : Hid (Below W6.heap.size W6 _)))) (by assumption)))
          (first
            | (go_at_call 37; refine (HLX.out _ (Hid.out (by assumption : Hid (Below W6.heap.size W6 _)))).mono ?_; rintro e w7 ⟨rfl, hw⟩; replace hw := hw.symm; subst hw)
            | (go_at_call 39; refine (HTX.out _ (Hid.out (by assumption : Hid (Below W6.heap.size W6 _)))).mono ?_; rintro e w7 ⟨A2, c2, rfl, ho7, hb7⟩; obtain ⟨Ay, cy, hvy, hcy, hCy⟩ := ho7.reads_n HTL.out; injection hvy with h1 h2 h3; clear h2 ho7; subst h1 h3; rw [HTL.out] at hCy; have HC7 := Lib.hid hCy; clear hCy)
            | (go_at_call 38; refine (isame_k _ _ k _ _ _ HTL.out _ HC7.out (HAK.out _ (Hid.out (by assumption : Hid (Below W6.heap.size W6 _)))) hcy (by omega) (by omega)).mono ?_; rintro e w8 ⟨rfl, hb8⟩))
        all_goals
          have hH : Hid (Below W6.heap.size W6 w8) := by assumption
          have HS8 := Lib.hid (HS6.out.step hH.out)
          have HM8 := Lib.hid (below_then HM6.out HM6.out.size hH.out)
          have HSS8 := Lib.hid (HSS6.out.below hH.out)
          have HB58 := Lib.hid (below_then HB56.out HB56.out.size hH.out)
          have HX8 := Lib.hid ((HXX.out.below hH.out).wide (F' := Bt W3.heap.size w8.heap.size) (fun q hq => by
            have z4 := HZ4.out
            have z5 := HZ5.out
            have z6 := HB56.out.size
            have z8 := hH.out.size
            rw [← HGE.out] at hq
            rcases hq with hq | hq
            · rw [← HFE.out] at hq
              exact ⟨hq.1, by have := hq.2; omega⟩
            · exact ⟨by have := hq.1; omega, by have := hq.2; omega⟩) (fun q hq => hq.2))
          have HZ8 := Lib.hid (show W3.heap.size ≤ w8.heap.size by
            have z4 := HZ4.out
            have z5 := HZ5.out
            have z6 := HB56.out.size
            have z8 := hH.out.size
            omega)
          clear hb7 hb8 hB6 hcy HC7 hH hcut z0 z1 z2 z3 z4 z5 y0 y1 y2 hkm hki hki2
          obtain ⟨z0, z1, z2, z3, z4, z5, y0, y1, y2, -⟩ := id HS8.out
          have hcf := cutF A1 L c1 k hkL
          obtain ⟨Ar, hAr⟩ : ∃ a, (if c1 = k then A1 else A1.map (·.add (k * 1))) = a := ⟨_, rfl⟩
          obtain ⟨M, hM⟩ : ∃ M, L - k = M := ⟨_, rfl⟩
          have HDL := Lib.hid (show (toks.drop k).length = M by rw [List.length_drop, HL.out]; exact hM)
          have HRD := Lib.hid (fun (W' : World) (hb : Below W5.heap.size W5 W') => show (Kd.int .i64).C W' Ar (toks.drop k).length (toks.drop k) by
            have h := Kd.C_drop (m := k) (c := c1) (HA1.out W' hb) (by rw [HL.out]; exact hkL) (by rw [HL.out]; exact hcx)
            rw [← hAr]; exact h)
          rw [hAr, hM] at hcf
          have hML : k + M = L := by omega
          have HML := Lib.hid hML
          obtain ⟨nv, nb, hnx⟩ := HNX.out
          have HNV := Lib.hid hnx
          clear hAr hM hnx
          go_wp2_with fail
          go_loopw [12, 75] (fun x q wr => ∃ (i s2 : Nat), x = .pointer (some ⟨s2, 0, none⟩) ∧ q = .int .i64 i ∧ i ≤ M ∧ Hid (StG (Bt W3.heap.size wr.heap.size) wr s2 p x0 (toks.take (k + i))) ∧ Hid (Below w8.heap.size w8 wr)) (fun _ q _ => M - (intOf q).toNat)
          case atStart => exact ⟨0, x, rfl, rfl, by omega, HX8, Lib.hid (Below.refl _ _)⟩
          case round =>
            obtain ⟨i, s2, rfl, rfl, hi, HXi, HBi⟩ := hrel
            have HSi := Lib.hid (HS8.out.step HBi.out)
            have HMi := Lib.hid (below_then HM8.out HM8.out.size HBi.out)
            have HSSi := Lib.hid (HSS8.out.below HBi.out)
            have HB5i := Lib.hid (below_then HB58.out HB58.out.size HBi.out)
            clear z0 z1 z2 z3 z4 z5 y0 y1 y2
            obtain ⟨z0, z1, z2, z3, z4, z5, y0, y1, y2, -⟩ := id HSi.out
            by_cases hiM : i < M
            · obtain ⟨b, eb, q⟩ := at_nat (HRD.out _ HB5i.out) i (by rw [HDL.out]; exact hiM)
              have HTK := Lib.hid (take_drop_succ toks k i (by rw [HL.out]; omega))
              have HTM := Lib.hid (HGD.out _ (drop_mem toks k i (by rw [HL.out]; omega)))
              obtain ⟨tt, htt⟩ : ∃ t, (toks.drop k).getD i 0 = t := ⟨_, rfl⟩
              rw [htt] at q HTK HTM
              have htl : (toks.take (k + i)).length = k + i := by rw [List.length_take, HL.out]; omega
              have HFD := Lib.hid (dfeed_ok _ wr s2 p x0 HOK.out (HMo.out _ HMi.out) _ HXi.out (by rw [htl]; omega) (by rw [htl]; omega) tt HTM.out)
              rw [HTK.out] at HFD
              unfold FeedY at HFD
              subst eb
              clear htt htl
              go_wp2_with fail
              refine HFD.out.mono ?_
              rintro e w9 ⟨s3, rfl, hst, hb⟩
              have HS9 := Lib.hid (bt_wide hst (Nat.le_trans HZ8.out HBi.out.size) hb.size)
              have HB9 := Lib.hid (below_then HBi.out HBi.out.size hb)
              clear hst hb
              go_wp2_with fail
              go_roundw
              case rel => exact ⟨i + 1, s3, rfl, by go_num, by omega, HS9, HB9⟩
              case measure => simp [intOf]; omega
            · have hiE : i = M := by omega
              have HXE := Lib.hid (show StG (Bt W3.heap.size wr.heap.size) wr s2 p x0 toks by
                have h := HXi.out
                rw [hiE, HML.out, List.take_of_length_le (by rw [HL.out]; exact Nat.le_refl _)] at h
                exact h)
              have HN1 := Lib.hid (HNV.out _ wr s (HMo.out _ HMi.out) HSSi.out)
              clear hiE
              go_wp2_with fail
              refine HN1.out.mono ?_
              rintro e wA ⟨rfl, hb⟩
              have HSA := Lib.hid (HSi.out.step hb)
              have HN2 := Lib.hid (HNV.out _ wA s2 (HMo.out _ (below_then HMi.out HMi.out.size hb)) (HXE.out.below hb))
              have HXA := Lib.hid (HXE.out.below hb)
              have HSSA := Lib.hid (HSSi.out.below hb)
              have HB5A := Lib.hid (below_then HB5i.out HB5i.out.size hb)
              clear hb z0 z1 z2 z3 z4 z5 y0 y1 y2
              obtain ⟨z0, z1, z2, z3, z4, z5, y0, y1, y2, -⟩ := id HSA.out
              go_wp2_with fail
              refine HN2.out.mono ?_
              rintro e wB ⟨rfl, hb⟩
              have HSB := Lib.hid (HSA.out.step hb)
              have HTB := Lib.hid (dtoks_any _ wB s2 p x0 toks (HXA.out.below hb) (by rw [HL.out]; omega))
              rw [HL.out] at HTB
              have HSSB := Lib.hid (HSSA.out.below hb)
              have HB5B := Lib.hid (below_then HB5A.out HB5A.out.size hb)
              clear hb z0 z1 z2 z3 z4 z5 y0 y1 y2
              obtain ⟨z0, z1, z2, z3, z4, z5, y0, y1, y2, -⟩ := id HSB.out
              go_wp2_with fail
              refine HTB.out.mono ?_
              rintro e wC ⟨A2, c2, rfl, ho, hb⟩
              obtain ⟨Ay, cy, hvy, hcy, hCy⟩ := ho.reads_n HL.out
              injection hvy with h1 h2 h3
              clear h2
              subst h1 h3
              rw [HL.out] at hCy
              have HSC := Lib.hid (HSB.out.step hb)
              have HAC := Lib.hid (HA1.out wC (below_then HB5B.out HB5B.out.size hb))
              rw [HL.out] at HAC
              have HSM := Lib.hid (isame_k A2 A1 L c2 c1 toks HL.out wC hCy HAC.out hcy hcx (by omega))
              have HSSC := Lib.hid (HSSB.out.below hb)
              clear hb ho hCy z0 z1 z2 z3 z4 z5 y0 y1 y2
              obtain ⟨z0, z1, z2, z3, z4, z5, y0, y1, y2, -⟩ := id HSC.out
              go_wp2_with fail
              refine HSM.out.mono ?_
              rintro e wD ⟨rfl, hb⟩
              have HSD := Lib.hid (HSC.out.step hb)
              have HLD := Lib.hid (dlen_any _ wD s p x0 toks (HSSC.out.below hb))
              rw [HL.out] at HLD
              clear hb z0 z1 z2 z3 z4 z5 y0 y1 y2
              go_wp2_with fail
              refine HLD.out.mono ?_
              rintro e wE ⟨rfl, hw⟩
              replace hw := hw.symm
              subst hw
              go_wp2_with fail
              refine (alive12_any _).mono ?_
              rintro e wE ⟨rfl, hb⟩
              have HBE := Lib.hid (below_then HSD.out.b HSD.out.b.size hb)
              clear hb
              go_wp2_with fail
              go_ret
              exact ⟨rfl, HBE.out⟩
      · rw [decide_eq_false hjk] at HMY
        clear hjk
        go_wp2_with fail
        refine HMY.out.mono ?_
        rintro e W3 ⟨rfl, hb⟩
        have HS3 := Lib.hid (HS2.out.step hb)
        clear hb
        go_wp2_with fail
        refine (alive12_any _).mono ?_
        rintro e W4 ⟨rfl, hb⟩
        have HBE := Lib.hid (below_then HS3.out.b HS3.out.b.size hb)
        clear hb
        go_wp2_with fail
        go_ret
        exact ⟨rfl, HBE.out⟩
  · have HNB := Lib.hid (new_bad x0 hok W0)
    rw [HCV.out] at HNB
    clear hok
    go_enter Try.func10, Try.ntmps10
    go_wp2_with fail
    try rw [HG.out]
    try rw [HJ.out]
    rw [HW.out]
    refine HNB.out.mono ?_
    unfold NewNo
    rintro e W1 ⟨rfl, hb⟩
    have HS1 := Lib.hid (HS.out.step hb)
    clear hb z0 z1 z2 z3 z4 z5 y0 y1 y2
    go_wp2_with fail
    refine (alive12_any _).mono ?_
    rintro e W2 ⟨rfl, hb⟩
    have HBE := Lib.hid (below_then HS1.out.b HS1.out.b.size hb)
    clear hb
    go_wp2_with fail
    go_ret
    exact ⟨rfl, HBE.out⟩

set_option maxRecDepth 100000 in
theorem lifted (os : Os) (started : os.Started) (H : Type) (enc : TypeId × Value → H) :
    ReturnsInHanded {} Try.checked os 10 .any (Rows.decodeCutsSpec.pre6 enc Try.prog Try.f10 Rows.decodeCutsRow.domain false) (Rows.decodeCutsSpec.post enc Try.prog Try.f10 false true false false) := by
  refine returnsInHanded_of_change (C := Try.checked) own started (by kernel_rfl) Try.func10
    (ChangeSpec.witness6 (enc := enc) (C := Try.checked) false ⟨#[], #[.agg #[.int .u64 0, .int .i64 0, .int .i64 0, .int .i64 0, .int .i64 0, .int .i64 0], .agg #[.int .u64 0, .slice none 0 0, .int .i64 0], .int .i64 0], []⟩ 8 (by kernel_rfl) (by kernel_rfl) (by kernel_rfl) (by kernel_rfl)) ?_
  intro W base args ds gs before hval0 hW hcnd _
  have hval : ∀ (j : Nat) t v, Try.f10.params[j]? = some t → args[j]? = some v → Value.okWide Try.prog W .any base t v := hval0
  have hW' := hW
  obtain ⟨p, q, hA0, hV, rfl, hfz, hnd⟩ := hW
  have hA : DataW.TrodAll enc Try.prog W 0 (fun _ => true) true Try.f10.params.toList args.toList ds p := hA0
  rw [Try.params10] at hA hval
  obtain ⟨v0, vs0, d0, ds0, p0, q0, hargs, rfl, rfl, h0, r0⟩ := trodAll_cons hA
  obtain ⟨v1, vs1, d1, ds1, p1, q1, rfl, rfl, rfl, h1, r1⟩ := trodAll_cons r0
  obtain ⟨v2, vs2, d2, ds2, p2, q2, rfl, rfl, rfl, h2, r2⟩ := trodAll_cons r1
  obtain ⟨rfl, rfl, rfl⟩ := trodAll_nil r2
  obtain rfl : args = #[v0, v1, v2] := by cases args; simp_all
  obtain ⟨rfl, rfl⟩ := trodVars_none hV
  have k0 := h0
  have lt0 : ∀ x ∈ p0, x.block < W.heap.size := by obtain ⟨m, hm⟩ := k0; exact DataW.trod_lt m _ _ _ hm
  obtain ⟨cs0, rfl, _⟩ := okWide_struct Try.underlying24 (hval 0 24 v0 rfl rfl)
  obtain ⟨x0, y0, g0⟩ : ∃ x, KCfg.K W x cs0.toList ∧ (CfgW) x := by obtain ⟨m, hm⟩ := k0; exact op_cfg _ _ _ m _ _ hm
  have k1 := h1
  have lt1 : ∀ x ∈ p1, x.block < W.heap.size := by obtain ⟨m, hm⟩ := k1; exact DataW.trod_lt m _ _ _ hm
  obtain ⟨cs1, rfl, _⟩ := okWide_struct Try.underlying66 (hval 1 66 v1 rfl rfl)
  obtain ⟨x1, y1, g1⟩ : ∃ x, KJob.K W x cs1.toList ∧ (JobG) x := by obtain ⟨m, hm⟩ := k1; exact op_job _ _ _ m _ _ hm
  have k2 := h2
  have lt2 : ∀ x ∈ p2, x.block < W.heap.size := by obtain ⟨m, hm⟩ := k2; exact DataW.trod_lt m _ _ _ hm
  obtain ⟨a2, rfl, rfl, rfl, g2⟩ := open_int Try.underlying3 (hval 2 3 v2 rfl rfl) h2
  clear hA0 hval0
  refine (walk cs0 x0 cs1 x1 a2 W y0 g0 y1 g1 g2).mono fun e W' ⟨he, bel⟩ => ?_
  subst he
  exact ⟨_, rfl, _, _, _, [], _, [], hW', trodAll_mk1 (shut_bool Try.underlying4 _), (trodAll_cons_mk (Below.trod laidOut (by kernel_rfl) (of_decide_eq_true (by kernel_rfl)) k0 bel lt0) (trodAll_cons_mk (Below.trod laidOut (by kernel_rfl) (of_decide_eq_true (by kernel_rfl)) k1 bel lt1) (trodAll_cons_mk (Below.trod laidOut (by kernel_rfl) (of_decide_eq_true (by kernel_rfl)) k2 bel lt2) trodAll_mk0))), rfl, bel.frame _, fun h => by cases h⟩

theorem over : Rows.decodeCutsRow.holds Try.pinned (OpenSpec.ofChange Rows.decodeCutsSpec) :=
  OpenClaim.holds_of_wide 10 Try.f10 rfl rfl rfl rfl rfl rfl rfl ⟨rfl, rfl, rfl, rfl, rfl⟩ rfl rfl rfl rfl rfl (by kernel_rfl) Try.func10 (by kernel_rfl)
    (of_decide_eq_true (by kernel_rfl)) (by unfold Func.isWrapper; first | (rw [if_pos (by decide +kernel)]; kernel_rfl) | (rw [if_neg (by decide +kernel)]; exact ⟨rfl, rfl⟩))
    (fun os started H enc _ => lifted os started H enc)

theorem proved : Rows.DecodeCutsSaid := over
end Go.Proofs.Ytdfgmdmcdnnhfaa.decodeCuts
