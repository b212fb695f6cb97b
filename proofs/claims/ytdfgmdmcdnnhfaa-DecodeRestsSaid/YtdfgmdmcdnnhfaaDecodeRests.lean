/- From any place on the same follows, however many are told at a time. -/
import Derived.Test.YtdfgmdmcdnnhfaaRows
import Derived.WalkKit
import Derived.ProofKit
import Derived.OpenShut
import Derived.ShutString
import Derived.ChangeOld
import Derived.Below
import Derived.Test.YtdfgmdmcdnnhfaaOpn
import Derived.Test.YtdfgmdmcdnnhfaaDcK
namespace Go.Proofs.Ytdfgmdmcdnnhfaa.decodeRests
open Go.ChangeShapes Go.WideShapes Go.ChangeAt Go.RowKit
open Go.ChangeMaps (open_string shut_string)
set_option linter.unusedVariables false
set_option linter.unusedSimpArgs false
open Go.Proofs.YtdfgmdmcdnnhfaaW.PrintWords Go.Proofs.YtdfgmdmcdnnhfaaW.PrintLast Go.Proofs.YtdfgmdmcdnnhfaaW.PrintMore

theorem own : ownKnob Try.prog.godebug = none := by kernel_rfl
theorem laidOut : laidOutB Try.prog = true := by kernel_rfl

set_option maxRecDepth 100000
attribute [local go_sem] gb_max2 gb_min2 gb_max_two gb_min_two gb_max_three gb_min_three run_cfg1 run_cfg2 run_cfg3
theorem startG_of {W : World} {p : Nat} {c : Cfg} {xs ys : List Int} {most : Int} {e : Ending} {w' : World} (hj : Jok c xs most) (hb : ¬ ((ys.length : Int) > most ∨ (ys.length : Int) > 255 - (xs.length : Int))) (hz : ¬ ∃ t ∈ ys, badT c t) (h : StartR W p c xs ys most e w') : StartY W p c (0 :: (xs ++ ys)) e w' := by
  unfold StartR at h
  rw [if_pos hj, if_neg hb, if_neg hz] at h
  exact h
theorem isame_k (A B : Option Addr) (n c d : Nat) (xs : List Int) (hl : xs.length = n) (W : World) (hx : (Kd.int .i64).C W A n xs) (hy : (Kd.int .i64).C W B n xs) (hc : n ≤ c) (hd : n ≤ d) (hn : n ≤ 1000000) :
    Calls Try.prog 38 #[.slice A n c, .slice B n d] W fun e w' => e = .returned (.bool true) ∧ Below W.heap.size W w' := by
  subst hl
  refine (isame_any A B c d xs xs W hx hy hc hd hn hn).mono (fun e w' h => ⟨by rw [h.1, decide_eq_true rfl], h.2.below⟩)
theorem rest_at (c : Cfg) (sd most : Int) (xs l : List Int) (hl : dRef c sd xs most = l) (p : Nat) (hp : p ≤ l.length) : dOut c sd (most - (p : Int)).toNat (0 :: (xs ++ l.take p)) = l.drop p := by
  subst hl
  unfold dRef at hp ⊢
  rw [show (most - (p : Int)).toNat = most.toNat - p by omega]
  exact dOut_drop c sd most.toNat p (0 :: xs) hp
theorem take_add_drop (l : List Int) (p q : Nat) : l.take p ++ (l.drop p).take q = l.take (p + q) := (List.take_add).symm
set_option maxHeartbeats 4000000 in
theorem walk (cs0 : Array Value) (x0 : Cfg) (cs1 : Array Value) (x1 : JobV) (cs2 : Array Value) (x2 : List Int) (w : World) (k0 : KCfg.K w x0 cs0.toList) (gd0 : (CfgW) x0) (k1 : KJob.K w x1 cs1.toList) (gd1 : (JobG) x1) (k2 : KTwo.K w x2 cs2.toList) (gd2 : (fun xs => ∀ x ∈ xs, (Lit.int .i64 x).wf = true) x2) :
    Calls Try.prog 8 #[.agg cs0, .agg cs1, .agg cs2] w fun e w' => e = .returned (.bool true) ∧ Below w.heap.size w w' := by
  obtain rfl := cfg_cells k0
  obtain ⟨A, ca, rfl, hca, hx⟩ := job_cells k1
  obtain ⟨sd, xs, most⟩ := x1
  obtain ⟨at0, at1, rfl⟩ := two_cells k2
  dsimp only at hca hx ⊢
  have HCV := Lib.hid (show x0.v = .agg #[.int .u64 x0.seed, .int .i64 x0.vocab, .int .i64 x0.dim, .int .i64 x0.layers, .int .i64 x0.top, .int .i64 x0.heat] from rfl)
  have HX := Lib.hid (fun (W' : World) (hb : Below w.heap.size w W') => Kd.C_below hx hb)
  obtain ⟨n, hn⟩ : ∃ n, xs.length = n := ⟨_, rfl⟩
  rw [hn] at hca ⊢
  have HN := Lib.hid hn
  obtain ⟨V0, hV0⟩ : ∃ V0, (w.alloc (.cells #[.int .u64 x0.seed, .int .i64 x0.vocab, .int .i64 x0.dim, .int .i64 x0.layers, .int .i64 x0.top, .int .i64 x0.heat] 24)).alloc (.cells #[.int .u64 sd, .slice A n ca, .int .i64 most] 66) = V0 := ⟨_, rfl⟩
  have hS := BCJ.new x0 sd (.slice A n ca) most w
  rw [hV0] at hS
  have hVs : V0.heap.size = w.heap.size + 1 + 1 := by rw [← hV0]; simp
  obtain ⟨W0, hW0⟩ : ∃ W0, V0.alloc (.cells #[.int .i64 at0, .int .i64 at1] 67) = W0 := ⟨_, rfl⟩
  have hbx := heap_alloc_new V0 (.cells #[.int .i64 at0, .int .i64 at1] 67)
  rw [hW0, hVs] at hbx
  replace hS := hS.step (show Below V0.heap.size V0 W0 by rw [← hW0]; exact below_alloc (Below.refl _ _) _)
  obtain ⟨g, hg⟩ : ∃ g, w.heap.size = g := ⟨_, rfl⟩
  obtain ⟨j, hj⟩ : ∃ j, g + 1 = j := ⟨_, rfl⟩
  rw [hg, hj] at hS
  obtain ⟨qb, hqb⟩ : ∃ q, j + 1 = q := ⟨_, rfl⟩
  rw [hg, hj, hqb] at hbx
  have HAR := Lib.hid (fun (W' : World) (hb : Below W0.heap.size W0 W') => And.intro (pw_cell_below hb (blk_cell hbx 0)) (pw_cell_below hb (blk_cell hbx 1)))
  have HQB := Lib.hid hqb
  have HV := Lib.hid hV0
  have HS := Lib.hid hS
  have HW := Lib.hid hW0
  have HG := Lib.hid hg
  have HJ := Lib.hid hj
  clear k0 k1 k2 gd0 gd1 gd2 hx hn hW0 hg hj hS hV0 hVs hbx hqb
  obtain ⟨z0, z1, z2, z3, z4, z5, y0, y1, y2, -⟩ := id HS.out
  by_cases hok : x0.ok
  · have HNW := Lib.hid (new_ok x0 hok W0)
    rw [HCV.out] at HNW
    have HOK := Lib.hid hok
    clear hok
    go_enter Try.func8, Try.ntmps8
    go_wp2_with fail
    rw [HV.out]
    try rw [HG.out]
    try rw [HJ.out]
    try rw [HQB.out]
    rw [HW.out]
    refine HNW.out.mono ?_
    unfold NewYes
    rintro e W1 ⟨p, rfl, hM, hb⟩
    have HMo := Lib.hid (fun (W' : World) (hb : Below W1.heap.size W1 W') => hM.below hb)
    have HB01 := Lib.hid hb
    have HS1 := Lib.hid (HS.out.step hb)
    clear hM hb HNW z0 z1 z2 z3 z4 z5 y0 y1 y2
    obtain ⟨z0, z1, z2, z3, z4, z5, y0, y1, y2, -⟩ := id HS1.out
    go_wp2_with fail
    refine (far12_any W1 sd most A n ca).mono ?_
    obtain ⟨fb, hfb⟩ : ∃ b, decide (FarJ n most) = b := ⟨_, rfl⟩
    have HFB := Lib.hid hfb
    rw [hfb]
    rintro e W2 ⟨rfl, hb⟩
    have HS2 := Lib.hid (HS1.out.step hb)
    have HB2 := Lib.hid hb
    clear hb hfb z0 z1 z2 z3 z4 z5 y0 y1 y2
    obtain ⟨z0, z1, z2, z3, z4, z5, y0, y1, y2, -⟩ := id HS2.out
    cases fb with
    | true =>
      go_wp2_with fail
      refine (alive12_any _).mono ?_
      rintro e W3 ⟨rfl, hb⟩
      have HBE := Lib.hid (below_then HS2.out.b HS2.out.b.size hb)
      clear hb
      go_wp2_with fail
      go_ret
      exact ⟨rfl, HBE.out⟩
    | false =>
      have HMY := Lib.hid (dmay_any x0 sd most A ca xs W2 (HX.out W2 HS2.out.b))
      rw [HCV.out, HN.out] at HMY
      have HFA := Lib.hid (of_decide_eq_false HFB.out)
      by_cases hjk : Jok x0 xs most
      · have HJK := Lib.hid hjk
        rw [decide_eq_true hjk] at HMY
        clear hjk
        go_wp2_with fail
        refine HMY.out.mono ?_
        rintro e W3 ⟨rfl, hb⟩
        have HS3 := Lib.hid (HS2.out.step hb)
        have HB3 := Lib.hid (below_then HB2.out HB2.out.size hb)
        have HB03 := Lib.hid (below_then HB01.out HB01.out.size HB3.out)
        clear hb z0 z1 z2 z3 z4 z5 y0 y1 y2
        obtain ⟨z0, z1, z2, z3, z4, z5, y0, y1, y2, -⟩ := id HS3.out
        have HRF := Lib.hid (dref_yes W3 p x0 HOK.out (HMo.out W3 HB3.out) sd most A ca xs (HX.out W3 HS3.out.b) HJK.out)
        obtain ⟨l, hl⟩ : ∃ l, dRef x0 sd xs most = l := ⟨_, rfl⟩
        rw [hl, HN.out] at HRF
        have h256 : n < 256 := by have h := HJK.out.2.2.1; rw [HN.out] at h; exact h
        have HMM := Lib.hid (show 0 ≤ most ∧ most ≤ 256 from ⟨HJK.out.1, HJK.out.2.1⟩)
        have HLE := Lib.hid (show (l.length : Int) ≤ most ∧ 1 + n + l.length ≤ 256 by
          have h1 := dOut_le x0 sd most.toNat (0 :: xs)
          have h2 := dOut_room x0 sd most.toNat (0 :: xs) (by rw [List.length_cons, HN.out]; omega)
          have h3 := HMM.out.1
          rw [← hl]
          unfold dRef
          rw [List.length_cons, HN.out] at h2
          omega)
        have HGB := Lib.hid (show ∀ t ∈ l, ¬ badT x0 t by rw [← hl]; exact dOut_good x0 HOK.out sd most.toNat (0 :: xs))
        have HRA := Lib.hid (rest_at x0 sd most xs l hl)
        obtain ⟨L, hL⟩ : ∃ L, l.length = L := ⟨_, rfl⟩
        have HL := Lib.hid hL
        rw [hL] at HLE
        have hLm := HLE.out.1
        have hLr := HLE.out.2
        have hm0 := HMM.out.1
        have HMX := Lib.hid (show most ≤ 12 by
          have h := HFA.out
          have h2 := HMM.out.2
          unfold FarJ at h
          omega)
        obtain ⟨k, hk⟩ : ∃ k, (min (max at0 0) (L : Int)).toNat = k := ⟨_, rfl⟩
        have hkm : min (max at0 0) (L : Int) = (k : Int) := by omega
        have hki : (if (L : Int) < (if at0 < 0 then 0 else at0) then (L : Int) else (if at0 < 0 then 0 else at0)) = (k : Int) := by rw [← hkm]; split <;> split <;> omega
        have hki2 : (if (if at0 < 0 then 0 else at0) < (L : Int) then (if at0 < 0 then 0 else at0) else (L : Int)) = (k : Int) := by rw [← hkm]; split <;> split <;> omega
        have hkL : k ≤ L := by omega
        have HTK := Lib.hid (show (l.take k).length = k by rw [List.length_take, HL.out]; omega)
        unfold RefY at HRF
        rw [HL.out] at HRF
        clear hl hL hk
        go_wp2_with fail
        refine HRF.out.mono ?_
        rintro e W4 ⟨A1, c1, rfl, ho, hb⟩
        obtain ⟨Ax, cx, hvx, hcx, hCx⟩ := ho.reads_n HL.out
        injection hvx with h1 h2 h3
        clear h2
        subst h1 h3
        have HA1 := Lib.hid (fun (W' : World) (hb : Below W4.heap.size W4 W') => Kd.C_below hCx hb)
        have HS4 := Lib.hid (HS3.out.step hb)
        have HM4 := Lib.hid (below_then HB3.out HB3.out.size hb)
        have HB04 := Lib.hid (below_then HB03.out HB03.out.size hb)
        have hcut := cutI2 A1 L c1 k hkL hcx
        have HAK := Lib.hid (fun (W' : World) (hb : Below W4.heap.size W4 W') => show (Kd.int .i64).C W' A1 (l.take k).length (l.take k) from Kd.C_take (HA1.out W' hb) (by rw [HL.out]; exact hkL))
        have HST := Lib.hid (fun (W' : World) (hb : Below W4.heap.size W4 W') => (dstart_any W' p x0 HOK.out (HMo.out W' (below_then HM4.out HM4.out.size hb)) sd most A A1 ca c1 xs (l.take k) (HX.out W' (below_then HS4.out.b HS4.out.b.size hb)) (HAK.out W' hb)).mono (fun e w' h => startG_of HJK.out (by rw [HTK.out, HN.out]; omega) (by rintro ⟨t, ht, hb⟩; exact HGB.out t (List.mem_of_mem_take ht) hb) h))
        rw [HN.out, HTK.out] at HST
        unfold StartY at HST
        obtain ⟨ar0, ar1⟩ := HAR.out W4 HB04.out
        clear ho hCx hb z0 z1 z2 z3 z4 z5 y0 y1 y2 HRF
        obtain ⟨z0, z1, z2, z3, z4, z5, y0, y1, y2, -⟩ := id HS4.out
        go_wp2_with fail
        have bD := below_drew (Below.refl W4.heap.size W4)
        have HB4 := Lib.hid bD
        have yD0 := pw_cell_below bD y0
        have yD1 := pw_cell_below bD y1
        have yD2 := pw_cell_below bD y2
        clear bD
        obtain ⟨st, hst0⟩ : ∃ st, (min (max at1 1) 20).toNat = st := ⟨_, rfl⟩
        have hsm : min (max at1 1) 20 = (st : Int) := by omega
        have hsi : (if (if at1 < 1 then 1 else at1) < 20 then (if at1 < 1 then 1 else at1) else 20) = (st : Int) := by rw [← hsm]; split <;> split <;> omega
        have hsi2 : (if 20 < (if at1 < 1 then 1 else at1) then 20 else (if at1 < 1 then 1 else at1)) = (st : Int) := by rw [← hsm]; split <;> split <;> omega
        have hs1 : 1 ≤ st := by omega
        have hs20 : st ≤ 20 := by omega
        clear hst0
        go_region_held3 (fun w' => w'.cell? ⟨j, 0, none⟩ = some (.int .u64 sd) ∧ w'.cell? ⟨j, 1, none⟩ = some (.slice A n ca) ∧ w'.cell? ⟨j, 2, none⟩ = some (.int .i64 most) ∧ Hid (Below W4.heap.size W4 w'))
          (first | exact ⟨yD0, yD1, yD2, HB4⟩ | exact JB.step (by assumption) (by assumption))
          (first
            | (go_at_call 35; refine (HST.out _ (JB.b (by assumption))).mono ?_; rintro e w5 ⟨s, rfl, hst, hb5⟩))
        all_goals
          have hB45 : Below W4.heap.size W4 w5 := (show JB j sd (.slice A n ca) most W4 w5 by assumption).b
          obtain ⟨G, HSS⟩ : ∃ G : Nat → Prop, Hid (StG G w5 s p x0 (0 :: (xs ++ l.take k))) := ⟨_, Lib.hid hst⟩
          have HB45 := Lib.hid hB45
          have HS5 := Lib.hid (HS4.out.step hB45)
          have HM5 := Lib.hid (below_then HM4.out HM4.out.size hB45)
          have HB05 := Lib.hid (below_then HB04.out HB04.out.size hB45)
          clear hst hb5 hB45 HB4 yD0 yD1 yD2 ar0 ar1 z0 z1 z2 z3 z4 z5 y0 y1 y2 hkm hki hki2
          obtain ⟨ar0, ar1⟩ := HAR.out w5 HB05.out
          go_wp2_with (at_builtin; refine own_append_row (w0 := w5) w5 w5.heap.size rfl _ _ 64 3 rfl Try.underlying64 infoInt (.slice none 0 0) [] (l.take k) A1 k c1 rfl rfl HTK.out (Kd.R_nil _ _ _ _ _) (HAK.out w5 HB45.out) (Below.refl _ _) (Nat.le_refl _) (by simp; omega) ?_; intro v6 w6 ho6 hb6 hg6 hat6; have HV6 := Lib.hid (show Own w6 w5.heap.size 3 v6 (l.take k) from ho6); have HSS6 := Lib.hid (HSS.out.grown hg6 (fun q hf he => by simp [Value.ownBlock] at he)); have HN6 := Lib.hid (show ∀ q, v6.ownBlock = some q → ¬ G q from fun q hq hf => by
            rcases hat6 with h | ⟨b, h, hle⟩
            · rw [h] at hq; simp [Value.ownBlock] at hq
            · rw [h] at hq; injection hq with hq; have := HSS.out.2 q hf; omega); have HB6 := Lib.hid hb6; clear ar0 ar1; obtain ⟨ar0, ar1⟩ := HAR.out w6 (below_then HB05.out HB05.out.size hb6); clear ho6 hb6 hg6 hat6)
          go_loopw [12, 14, 73] (fun sv gv iv wr => ∃ (i s P : Nat) (v' : Value) (G : Nat → Prop), v' = gv ∧ sv = .pointer (some ⟨s, 0, none⟩) ∧ iv = .int .i64 i ∧ i ≤ 20 ∧ i ≤ P ∧ P ≤ L ∧ Hid (StG G wr s p x0 (0 :: (xs ++ l.take P))) ∧ Hid (Own wr w5.heap.size 3 gv (l.take P)) ∧ Hid (∀ q, gv.ownBlock = some q → ¬ G q) ∧ Hid (Below w5.heap.size w5 wr)) (fun _ _ iv _ => 20 - (intOf iv).toNat)
          case atStart => exact ⟨0, s, k, _, G, rfl, rfl, rfl, by omega, by omega, hkL, HSS6, HV6, HN6, HB6⟩
          case round =>
            obtain ⟨i, sr, P, v, GG, rfl, rfl, rfl, hi, hiP, hPL, HSi, HVi, HNi, HBi⟩ := hrel
            have HSr := Lib.hid (HS5.out.step HBi.out)
            have HMr := Lib.hid (below_then HM5.out HM5.out.size HBi.out)
            have HB4r := Lib.hid (below_then HB45.out HB45.out.size HBi.out)
            have h12 := HMX.out
            clear ar0 ar1
            obtain ⟨z0, z1, z2, z3, z4, z5, y0, y1, y2, -⟩ := id HSr.out
            have hol : (l.take P).length = P := by rw [List.length_take, HL.out]; omega
            obtain ⟨Av, cv, hv, -, -⟩ := HVi.out.reads
            rw [hol] at hv
            subst hv
            have HOL := Lib.hid hol
            clear hol
            by_cases hi2 : i < 20
            · have htl : (0 :: (xs ++ l.take P)).length = 1 + n + P := by rw [List.length_cons, List.length_append, HN.out, HOL.out]; omega
              have hFR := dfrom_any GG wr sr p x0 HOK.out (HMo.out _ HMr.out) (.pointer (some ⟨p, 0, none⟩)) sd most A n ca (0 :: (xs ++ l.take P)) HSi.out (by rw [htl]; omega) (by rw [htl]; omega) (P : Int) (st : Int) (by omega) (by omega) (by omega)
              obtain ⟨ov, hov⟩ : ∃ o, dOver x0 sd (most - (P : Int)).toNat (st : Int).toNat (0 :: (xs ++ l.take P)) = o := ⟨_, rfl⟩
              rw [hov, HRA.out P (by rw [HL.out]; exact hPL)] at hFR
              unfold dOver at hov
              rw [HRA.out P (by rw [HL.out]; exact hPL), List.length_drop, HL.out] at hov
              obtain ⟨o3, ho3⟩ : ∃ o, (l.drop P).take (st : Int).toNat = o := ⟨_, rfl⟩
              rw [ho3] at hFR
              obtain ⟨m3, hm3⟩ : ∃ m, o3.length = m := ⟨_, rfl⟩
              have hmm : m3 = min st (L - P) := by rw [← hm3, ← ho3, List.length_take, List.length_drop, HL.out]; omega
              have HO3 := Lib.hid (show l.take P ++ o3 = l.take (P + m3) by
                rw [← take_add_drop, ← ho3]
                congr 1
                by_cases hc : st ≤ L - P
                · rw [show m3 = (st : Int).toNat by omega]
                · rw [List.take_of_length_le (by rw [List.length_drop, HL.out]; omega), List.take_of_length_le (by rw [List.length_drop, HL.out]; omega)])
              have HM3 := Lib.hid hm3
              have hov1 : ov = true → P + m3 = L := by
                intro h; rw [h] at hov; have h := of_decide_eq_true hov; omega
              have hov2 : ov = false → m3 = st := by
                intro h; rw [h] at hov; have h := of_decide_eq_false hov; omega
              have HV1 := Lib.hid hov1
              have HV2 := Lib.hid hov2
              have hms : m3 ≤ st := by omega
              have hPm : P + m3 ≤ L := by omega
              have HFRM := Lib.hid hFR
              have HTLN := Lib.hid htl
              have HLV := Lib.hid (fun q (hq : (Value.slice Av P cv).ownBlock = some q) => own_block_lt HVi.out q hq)
              unfold FromR at HFRM
              rw [HM3.out] at HFRM
              clear hFR hov ho3 hm3 hmm hov1 hov2 htl
              go_wp2_with fail
              refine HFRM.out.mono ?_
              rintro e w7 ⟨A3, k3, s3, rfl, ho, hs3, hb⟩
              obtain ⟨Ax, cx, hvx, hcx3, hCx⟩ := ho.reads_n HM3.out
              injection hvx with h1 h2 h3
              clear h2
              subst h1 h3
              have HC3 := Lib.hid hCx
              have HS7 := Lib.hid hs3
              have HB7 := Lib.hid hb
              have HLN3 := Lib.hid (show Calls Try.prog 37 #[.pointer (some ⟨s3, 0, none⟩)] w7 fun e w' => e = .returned (.int .i64 (((1 + n + P : Nat) : Int) + (m3 : Int))) ∧ w' = w7 by
                have h := dlen_any _ w7 s3 p x0 _ hs3
                rwa [show (((0 :: (xs ++ l.take P) ++ o3).length : Nat) : Int) = ((1 + n + P : Nat) : Int) + (m3 : Int) by rw [List.length_append, HTLN.out, HM3.out]; omega] at h)
              have HLN1 := Lib.hid (dlen_any _ w7 sr p x0 _ (HSi.out.below hb))
              rw [HTLN.out] at HLN1
              obtain ⟨N1, hN1⟩ : ∃ N, 1 + n + P = N := ⟨_, rfl⟩
              rw [hN1] at HLN3 HLN1
              have hN9 : N1 ≤ 256 := by omega
              have HS7r := Lib.hid (HSr.out.step hb)
              have HV7 := Lib.hid (HVi.out.below hb)
              have HB57 := Lib.hid (below_then HBi.out HBi.out.size hb)
              clear ho hCx hs3 hb hN1 z0 z1 z2 z3 z4 z5 y0 y1 y2
              obtain ⟨z0, z1, z2, z3, z4, z5, y0, y1, y2, -⟩ := id HS7r.out
              go_wp2_with fail
              refine HLN3.out.mono ?_
              rintro e wq ⟨rfl, hw⟩
              replace hw := hw.symm
              subst hw
              go_wp2_with fail
              refine HLN1.out.mono ?_
              rintro e wq ⟨rfl, hw⟩
              replace hw := hw.symm
              subst hw
              have HP3 := Lib.hid (show (l.take (P + m3)).length = P + m3 by rw [List.length_take, HL.out]; omega)
              have HTS := Lib.hid (show 0 :: (xs ++ l.take P) ++ o3 = 0 :: (xs ++ l.take (P + m3)) by rw [← HO3.out, ← List.append_assoc]; rfl)
              cases ov with
              | true =>
                have hPL3 : P + m3 = L := HV1.out rfl
                have HPE := Lib.hid hPL3
                clear hPL3
                go_wp2_with (at_builtin; refine own_append_row (w0 := w5) w7 w5.heap.size rfl _ _ 64 3 rfl Try.underlying64 infoInt (.slice Av P cv) (l.take P) o3 A3 m3 k3 rfl rfl HM3.out HV7.out HC3.out HB57.out HB57.out.size (by rw [HOL.out]; omega) ?_; intro v8 w8 ho8 hb8 hg8 hat8; rw [HO3.out] at ho8; obtain ⟨A8, c8, hv8, hc8, hC8⟩ := ho8.reads_n HP3.out; subst hv8; have HO8 := Lib.hid ho8; have HC8 := Lib.hid hC8; have HB8 := Lib.hid hb8; have HNV := Lib.hid (show ∀ q, (Value.slice Av P cv).ownBlock = some q → ¬ FU GG (Bt wr.heap.size w7.heap.size) q from fun q hq hf => by
                  rcases hf with hf | hf
                  · exact HNi.out q hq hf
                  · have h1 := HLV.out q hq; have h2 := hf.1; omega); have HS8 := Lib.hid (HS7.out.grown hg8 (fun q hf he => HNV.out q he.symm hf)); have HN8 := Lib.hid (show ∀ q, (Value.slice A8 (P + m3) c8).ownBlock = some q → ¬ FU GG (Bt wr.heap.size w7.heap.size) q from fun q hq hf => by
                  rcases hat8 with h | ⟨b, h, hle⟩
                  · exact HNV.out q (h ▸ hq) hf
                  · rw [h] at hq; injection hq with hq; have := HS7.out.2 q hf; omega); rw [HTS.out] at HS8; have HSJ := Lib.hid (HS5.out.step hb8); clear z0 z1 z2 z3 z4 z5 y0 y1 y2; obtain ⟨z0, z1, z2, z3, z4, z5, y0, y1, y2, -⟩ := id HSJ.out; clear ho8 hb8 hg8 hat8 hC8)
                have HM8 := Lib.hid (below_then HM5.out HM5.out.size HB8.out)
                have HB48 := Lib.hid (below_then HB45.out HB45.out.size HB8.out)
                have hD : dOut x0 sd (most - ((P : Int) + (m3 : Int))).toNat (0 :: (xs ++ l.take (P + m3))) = [] := by
                  rw [show (P : Int) + (m3 : Int) = ((P + m3 : Nat) : Int) by omega, HRA.out (P + m3) (by rw [HL.out]; omega)]
                  exact List.drop_of_length_le (by rw [HL.out]; have := HPE.out; omega)
                have hO9 : dOver x0 sd (most - ((P : Int) + (m3 : Int))).toNat (5 : Int).toNat (0 :: (xs ++ l.take (P + m3))) = true := by
                  unfold dOver
                  rw [hD]
                  exact decide_eq_true (.inl (by decide))
                have hF9 := dfrom_any _ w8 s3 p x0 HOK.out (HMo.out _ HM8.out) (.pointer (some ⟨p, 0, none⟩)) sd most A n ca (0 :: (xs ++ l.take (P + m3))) HS8.out (by simp) (by rw [List.length_cons, List.length_append, HN.out, HP3.out]; omega) ((P : Int) + (m3 : Int)) 5 (by omega) (by omega) (by omega)
                rw [hD, hO9, List.take_nil] at hF9
                unfold FromR at hF9
                rw [show ([] : List Int).length = 0 from rfl] at hF9
                have HF9 := Lib.hid hF9
                clear hF9 hD hO9
                refine HF9.out.mono ?_
                rintro e w9 ⟨A9, k9, s9, rfl, -, -, hb⟩
                have HS9 := Lib.hid (HSJ.out.step hb)
                have hSM := isame_any A8 A1 c8 c1 (l.take (P + m3)) l w9 (Kd.C_below HC8.out hb) (HA1.out w9 (below_then HB48.out HB48.out.size hb)) (by rw [HP3.out]; exact hc8) (by rw [HL.out]; exact hcx) (by rw [HP3.out]; omega) (by rw [HL.out]; omega)
                rw [decide_eq_true (List.take_of_length_le (by rw [HL.out]; have := HPE.out; omega)), HP3.out, HL.out] at hSM
                have HSM := Lib.hid hSM
                clear hSM hb z0 z1 z2 z3 z4 z5 y0 y1 y2
                go_wp2_with fail
                refine HSM.out.mono ?_
                rintro e wA ⟨rfl, hd⟩
                have HSA := Lib.hid (HS9.out.step hd.below)
                clear hd
                go_wp2_with fail
                refine (alive12_any _).mono ?_
                rintro e wB ⟨rfl, hb⟩
                have HBE := Lib.hid (below_then HSA.out.b HSA.out.b.size hb)
                clear hb
                go_wp2_with fail
                go_ret
                exact ⟨rfl, HBE.out⟩
              | false =>
                have hms3 := HV2.out rfl
                have HME := Lib.hid hms3
                clear hms3
                go_wp2_with (at_builtin; refine own_append_row (w0 := w5) w7 w5.heap.size rfl _ _ 64 3 rfl Try.underlying64 infoInt (.slice Av P cv) (l.take P) o3 A3 m3 k3 rfl rfl HM3.out HV7.out HC3.out HB57.out HB57.out.size (by rw [HOL.out]; omega) ?_; intro v8 w8 ho8 hb8 hg8 hat8; rw [HO3.out] at ho8; obtain ⟨A8, c8, hv8, hc8, hC8⟩ := ho8.reads_n HP3.out; subst hv8; have HO8 := Lib.hid ho8; have HC8 := Lib.hid hC8; have HB8 := Lib.hid hb8; have HNV := Lib.hid (show ∀ q, (Value.slice Av P cv).ownBlock = some q → ¬ FU GG (Bt wr.heap.size w7.heap.size) q from fun q hq hf => by
                  rcases hf with hf | hf
                  · exact HNi.out q hq hf
                  · have h1 := HLV.out q hq; have h2 := hf.1; omega); have HS8 := Lib.hid (HS7.out.grown hg8 (fun q hf he => HNV.out q he.symm hf)); have HN8 := Lib.hid (show ∀ q, (Value.slice A8 (P + m3) c8).ownBlock = some q → ¬ FU GG (Bt wr.heap.size w7.heap.size) q from fun q hq hf => by
                  rcases hat8 with h | ⟨b, h, hle⟩
                  · exact HNV.out q (h ▸ hq) hf
                  · rw [h] at hq; injection hq with hq; have := HS7.out.2 q hf; omega); rw [HTS.out] at HS8; have HSJ := Lib.hid (HS5.out.step hb8); clear z0 z1 z2 z3 z4 z5 y0 y1 y2; obtain ⟨z0, z1, z2, z3, z4, z5, y0, y1, y2, -⟩ := id HSJ.out; clear ho8 hb8 hg8 hat8 hC8)
                go_roundw
                case rel => exact ⟨i + 1, s3, P + m3, _, _, rfl, rfl, by go_num, by omega, by have := HME.out; omega, by omega, HS8, HO8, HN8, HB8⟩
                case measure => simp [intOf]; omega
            · exact absurd hPL (by omega)
      · rw [decide_eq_false hjk] at HMY
        clear hjk
        go_wp2_with fail
        refine HMY.out.mono ?_
        rintro e W3 ⟨rfl, hb⟩
        have HS3 := Lib.hid (HS2.out.step hb)
        clear hb
        go_wp2_with fail
        refine (alive12_any _).mono ?_
        rintro e W4 ⟨rfl, hb⟩
        have HBE := Lib.hid (below_then HS3.out.b HS3.out.b.size hb)
        clear hb
        go_wp2_with fail
        go_ret
        exact ⟨rfl, HBE.out⟩
  · have HNB := Lib.hid (new_bad x0 hok W0)
    rw [HCV.out] at HNB
    clear hok
    go_enter Try.func8, Try.ntmps8
    go_wp2_with fail
    rw [HV.out]
    try rw [HG.out]
    try rw [HJ.out]
    try rw [HQB.out]
    rw [HW.out]
    refine HNB.out.mono ?_
    unfold NewNo
    rintro e W1 ⟨rfl, hb⟩
    have HS1 := Lib.hid (HS.out.step hb)
    clear hb z0 z1 z2 z3 z4 z5 y0 y1 y2
    go_wp2_with fail
    refine (alive12_any _).mono ?_
    rintro e W2 ⟨rfl, hb⟩
    have HBE := Lib.hid (below_then HS1.out.b HS1.out.b.size hb)
    clear hb
    go_wp2_with fail
    go_ret
    exact ⟨rfl, HBE.out⟩

set_option maxRecDepth 100000 in
theorem lifted (os : Os) (started : os.Started) (H : Type) (enc : TypeId × Value → H) :
    ReturnsInHanded {} Try.checked os 8 .any (Rows.decodeRestsSpec.pre6 enc Try.prog Try.f8 Rows.decodeRestsRow.domain false) (Rows.decodeRestsSpec.post enc Try.prog Try.f8 false true false false) := by
  refine returnsInHanded_of_change (C := Try.checked) own started (by kernel_rfl) Try.func8
    (ChangeSpec.witness6 (enc := enc) (C := Try.checked) false ⟨#[], #[.agg #[.int .u64 0, .int .i64 0, .int .i64 0, .int .i64 0, .int .i64 0, .int .i64 0], .agg #[.int .u64 0, .slice none 0 0, .int .i64 0], .agg #[.int .i64 0, .int .i64 0]], []⟩ 8 (by kernel_rfl) (by kernel_rfl) (by kernel_rfl) (by kernel_rfl)) ?_
  intro W base args ds gs before hval0 hW hcnd _
  have hval : ∀ (j : Nat) t v, Try.f8.params[j]? = some t → args[j]? = some v → Value.okWide Try.prog W .any base t v := hval0
  have hW' := hW
  obtain ⟨p, q, hA0, hV, rfl, hfz, hnd⟩ := hW
  have hA : DataW.TrodAll enc Try.prog W 0 (fun _ => true) true Try.f8.params.toList args.toList ds p := hA0
  rw [Try.params8] at hA hval
  obtain ⟨v0, vs0, d0, ds0, p0, q0, hargs, rfl, rfl, h0, r0⟩ := trodAll_cons hA
  obtain ⟨v1, vs1, d1, ds1, p1, q1, rfl, rfl, rfl, h1, r1⟩ := trodAll_cons r0
  obtain ⟨v2, vs2, d2, ds2, p2, q2, rfl, rfl, rfl, h2, r2⟩ := trodAll_cons r1
  obtain ⟨rfl, rfl, rfl⟩ := trodAll_nil r2
  obtain rfl : args = #[v0, v1, v2] := by cases args; simp_all
  obtain ⟨rfl, rfl⟩ := trodVars_none hV
  have k0 := h0
  have lt0 : ∀ x ∈ p0, x.block < W.heap.size := by obtain ⟨m, hm⟩ := k0; exact DataW.trod_lt m _ _ _ hm
  obtain ⟨cs0, rfl, _⟩ := okWide_struct Try.underlying24 (hval 0 24 v0 rfl rfl)
  obtain ⟨x0, y0, g0⟩ : ∃ x, KCfg.K W x cs0.toList ∧ (CfgW) x := by obtain ⟨m, hm⟩ := k0; exact op_cfg _ _ _ m _ _ hm
  have k1 := h1
  have lt1 : ∀ x ∈ p1, x.block < W.heap.size := by obtain ⟨m, hm⟩ := k1; exact DataW.trod_lt m _ _ _ hm
  obtain ⟨cs1, rfl, _⟩ := okWide_struct Try.underlying66 (hval 1 66 v1 rfl rfl)
  obtain ⟨x1, y1, g1⟩ : ∃ x, KJob.K W x cs1.toList ∧ (JobG) x := by obtain ⟨m, hm⟩ := k1; exact op_job _ _ _ m _ _ hm
  have k2 := h2
  have lt2 : ∀ x ∈ p2, x.block < W.heap.size := by obtain ⟨m, hm⟩ := k2; exact DataW.trod_lt m _ _ _ hm
  obtain ⟨cs2, rfl, _⟩ := okWide_array Try.underlying67 (hval 2 67 v2 rfl rfl)
  obtain ⟨x2, y2, g2⟩ : ∃ x, KTwo.K W x cs2.toList ∧ (fun xs => ∀ x ∈ xs, (Lit.int .i64 x).wf = true) x := by obtain ⟨m, hm⟩ := k2; exact op_two _ _ _ m _ _ hm
  clear hA0 hval0
  refine (walk cs0 x0 cs1 x1 cs2 x2 W y0 g0 y1 g1 y2 g2).mono fun e W' ⟨he, bel⟩ => ?_
  subst he
  exact ⟨_, rfl, _, _, _, [], _, [], hW', trodAll_mk1 (shut_bool Try.underlying4 _), (trodAll_cons_mk (Below.trod laidOut (by kernel_rfl) (of_decide_eq_true (by kernel_rfl)) k0 bel lt0) (trodAll_cons_mk (Below.trod laidOut (by kernel_rfl) (of_decide_eq_true (by kernel_rfl)) k1 bel lt1) (trodAll_cons_mk (Below.trod laidOut (by kernel_rfl) (of_decide_eq_true (by kernel_rfl)) k2 bel lt2) trodAll_mk0))), rfl, bel.frame _, fun h => by cases h⟩

theorem over : Rows.decodeRestsRow.holds Try.pinned (OpenSpec.ofChange Rows.decodeRestsSpec) :=
  OpenClaim.holds_of_wide 8 Try.f8 rfl rfl rfl rfl rfl rfl rfl ⟨rfl, rfl, rfl, rfl, rfl⟩ rfl rfl rfl rfl rfl (by kernel_rfl) Try.func8 (by kernel_rfl)
    (of_decide_eq_true (by kernel_rfl)) (by unfold Func.isWrapper; first | (rw [if_pos (by decide +kernel)]; kernel_rfl) | (rw [if_neg (by decide +kernel)]; exact ⟨rfl, rfl⟩))
    (fun os started H enc _ => lifted os started H enc)

theorem proved : Rows.DecodeRestsSaid := over
end Go.Proofs.Ytdfgmdmcdnnhfaa.decodeRests
