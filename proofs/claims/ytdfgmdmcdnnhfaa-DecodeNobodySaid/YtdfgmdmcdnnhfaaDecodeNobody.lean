/- A nil state has nothing; a start that may not be is refused. -/
import Derived.Test.YtdfgmdmcdnnhfaaRows
import Derived.WalkKit
import Derived.ProofKit
import Derived.OpenShut
import Derived.ShutString
import Derived.ChangeOld
import Derived.Below
import Derived.Test.YtdfgmdmcdnnhfaaOpn
import Derived.Test.YtdfgmdmcdnnhfaaDcJ
namespace Go.Proofs.Ytdfgmdmcdnnhfaa.decodeNobody
open Go.ChangeShapes Go.WideShapes Go.ChangeAt Go.RowKit
open Go.ChangeMaps (open_string shut_string)
set_option linter.unusedVariables false
set_option linter.unusedSimpArgs false
open Go.Proofs.YtdfgmdmcdnnhfaaW.PrintWords Go.Proofs.YtdfgmdmcdnnhfaaW.PrintLast Go.Proofs.YtdfgmdmcdnnhfaaW.PrintMore

theorem own : ownKnob Try.prog.godebug = none := by kernel_rfl
theorem laidOut : laidOutB Try.prog = true := by kernel_rfl

set_option maxRecDepth 100000
attribute [local go_sem] gb_max2 gb_min2 gb_max_two gb_min_two gb_max_three gb_min_three run_cfg1 run_cfg2 run_cfg3
theorem nb_mem {xs : List Int} {i : Nat} {t : Int} (hi : i < xs.length) (h : xs.getD i 0 = t) : t ∈ xs := by
  rw [← h, List.getD_eq_getElem?_getD, List.getElem?_eq_getElem hi]
  exact List.getElem_mem hi
theorem nb_none {c : Cfg} {xs : List Int} (h : ∀ k, k < xs.length → ¬ badT c (xs.getD k 0)) : ¬ ∃ t ∈ xs, badT c t := by
  rintro ⟨t, ht, hb⟩
  obtain ⟨k, hk, he⟩ := List.mem_iff_getElem.1 ht
  refine h k hk ?_
  rw [List.getD_eq_getElem?_getD, List.getElem?_eq_getElem hk]
  show badT c xs[k]
  rw [he]; exact hb
theorem startM_of {W : World} {p : Nat} {c : Cfg} {xs ys : List Int} {most : Int} {e : Ending} {w' : World} (hj : Jok c xs most) (hb : (ys.length : Int) > most ∨ (ys.length : Int) > 255 - (xs.length : Int)) (h : StartR W p c xs ys most e w') : FeedN 5 W e w' := by
  unfold StartR at h
  rw [if_pos hj, if_pos hb] at h
  exact h
theorem startB_of {W : World} {p : Nat} {c : Cfg} {xs ys : List Int} {most : Int} {e : Ending} {w' : World} (hj : Jok c xs most) (hb : ¬ ((ys.length : Int) > most ∨ (ys.length : Int) > 255 - (xs.length : Int))) (hz : ∃ t ∈ ys, badT c t) (h : StartR W p c xs ys most e w') : FeedN 1 W e w' := by
  unfold StartR at h
  rw [if_pos hj, if_neg hb, if_pos hz] at h
  exact h
theorem startG_of {W : World} {p : Nat} {c : Cfg} {xs ys : List Int} {most : Int} {e : Ending} {w' : World} (hj : Jok c xs most) (hb : ¬ ((ys.length : Int) > most ∨ (ys.length : Int) > 255 - (xs.length : Int))) (hz : ¬ ∃ t ∈ ys, badT c t) (h : StartR W p c xs ys most e w') : StartY W p c (0 :: (xs ++ ys)) e w' := by
  unfold StartR at h
  rw [if_pos hj, if_neg hb, if_neg hz] at h
  exact h
set_option maxHeartbeats 4000000 in
theorem walk (cs0 : Array Value) (x0 : Cfg) (cs1 : Array Value) (x1 : JobV) (a2 : Option Addr) (len2 cap2 : Nat) (x2 : List Int) (w : World) (k0 : KCfg.K w x0 cs0.toList) (gd0 : (CfgW) x0) (k1 : KJob.K w x1 cs1.toList) (gd1 : (JobG) x1) (k2 : KInts.K w x2 [.slice a2 len2 cap2]) (gd2 : (fun xs => (∀ x ∈ xs, (Lit.int .i64 x).wf = true) ∧ xs.length ≤ maxLen) x2) :
    Calls Try.prog 11 #[.agg cs0, .agg cs1, .slice a2 len2 cap2] w fun e w' => e = .returned (.bool true) ∧ Below w.heap.size w w' := by
  obtain rfl := cfg_cells k0
  obtain ⟨A, ca, rfl, hca, hx⟩ := job_cells k1
  obtain ⟨sd, xs, most⟩ := x1
  obtain ⟨rfl, hcy, hy⟩ := slice_came k2
  dsimp only at hca hx ⊢
  have HCV := Lib.hid (show x0.v = .agg #[.int .u64 x0.seed, .int .i64 x0.vocab, .int .i64 x0.dim, .int .i64 x0.layers, .int .i64 x0.top, .int .i64 x0.heat] from rfl)
  have HX := Lib.hid (fun (W' : World) (hb : Below w.heap.size w W') => Kd.C_below hx hb)
  have HY := Lib.hid (fun (W' : World) (hb : Below w.heap.size w W') => show (Kd.int .i64).C W' a2 x2.length x2 from Kd.C_below hy hb)
  obtain ⟨n, hn⟩ : ∃ n, xs.length = n := ⟨_, rfl⟩
  obtain ⟨m, hm⟩ : ∃ m, x2.length = m := ⟨_, rfl⟩
  have hm9 : m ≤ 9223372036854775807 := by rw [← hm]; exact hy.2.1
  rw [hn] at hca ⊢
  rw [hm] at hcy ⊢
  have HN := Lib.hid hn
  have HM := Lib.hid hm
  have HM9 := Lib.hid hm9
  obtain ⟨W0, hW0⟩ : ∃ W0, (w.alloc (.cells #[.int .u64 x0.seed, .int .i64 x0.vocab, .int .i64 x0.dim, .int .i64 x0.layers, .int .i64 x0.top, .int .i64 x0.heat] 24)).alloc (.cells #[.int .u64 sd, .slice A n ca, .int .i64 most] 66) = W0 := ⟨_, rfl⟩
  have hS := BCJ.new x0 sd (.slice A n ca) most w
  rw [hW0] at hS
  obtain ⟨g, hg⟩ : ∃ g, w.heap.size = g := ⟨_, rfl⟩
  obtain ⟨j, hj⟩ : ∃ j, g + 1 = j := ⟨_, rfl⟩
  rw [hg, hj] at hS
  have HS0 := Lib.hid hS
  have HW := Lib.hid hW0
  have HG := Lib.hid hg
  have HJ := Lib.hid hj
  clear k0 k1 k2 gd0 gd1 gd2 hx hy hn hm hW0 hg hj hS hm9
  go_enter Try.func11, Try.ntmps11
  go_wp2_with fail
  try rw [HG.out]
  try rw [HJ.out]
  rw [HW.out]
  refine (dfeed_nil _ _).mono ?_
  rintro e wa ⟨rfl, hw⟩
  replace hw := hw.symm
  subst hw
  go_wp2_with fail
  refine (dnext_nil _ _).mono ?_
  rintro e wa ⟨rfl, hw⟩
  replace hw := hw.symm
  subst hw
  obtain ⟨z0, z1, z2, z3, z4, z5, y0, y1, y2, -⟩ := id HS0.out
  go_wp2_with fail
  refine (dfrom_nil _ _ _ sd (.slice A n ca) most _ _ rfl).mono ?_
  rintro e W1 ⟨rfl, hb⟩
  have HS := Lib.hid (HS0.out.step hb)
  clear hb HW HG HJ HS0 z0 z1 z2 z3 z4 z5 y0 y1 y2
  obtain ⟨z0, z1, z2, z3, z4, z5, y0, y1, y2, -⟩ := id HS.out
  go_wp2_with fail
  refine (dlen_nil _).mono ?_
  rintro e wa ⟨rfl, hw⟩
  replace hw := hw.symm
  subst hw
  go_wp2_with fail
  refine (dtoks_nil _).mono ?_
  rintro e wa ⟨rfl, hw⟩
  replace hw := hw.symm
  subst hw
  go_wp2_with fail
  refine (dcut_nil _ _).mono ?_
  rintro e wa ⟨rfl, hw⟩
  replace hw := hw.symm
  subst hw
  by_cases hok : x0.ok
  · have HNW := Lib.hid (new_ok x0 hok W1)
    rw [HCV.out] at HNW
    have HOK := Lib.hid hok
    clear hok
    go_wp2_with fail
    refine HNW.out.mono ?_
    unfold NewYes
    rintro e W2 ⟨p, rfl, hM, hb⟩
    have HMo := Lib.hid (fun (W' : World) (hb : Below W2.heap.size W2 W') => hM.below hb)
    have HS2 := Lib.hid (HS.out.step hb)
    clear hM hb HNW HS z0 z1 z2 z3 z4 z5 y0 y1 y2
    obtain ⟨z0, z1, z2, z3, z4, z5, y0, y1, y2, -⟩ := id HS2.out
    go_wp2_with fail
    refine (far12_any W2 sd most A n ca).mono ?_
    obtain ⟨fb, hfb⟩ : ∃ b, decide (FarJ n most) = b := ⟨_, rfl⟩
    rw [hfb]
    rintro e W3 ⟨rfl, hb⟩
    have HS3 := Lib.hid (HS2.out.step hb)
    have HB3 := Lib.hid hb
    clear hb hfb z0 z1 z2 z3 z4 z5 y0 y1 y2
    obtain ⟨z0, z1, z2, z3, z4, z5, y0, y1, y2, -⟩ := id HS3.out
    by_cases hfar : fb = true ∨ (20 < m ∧ m < 250)
    · by_cases h1 : fb = true
      · subst h1
        go_wp2_with fail
        refine (alive12_any _).mono ?_
        rintro e W4 ⟨rfl, hb⟩
        have HBE := Lib.hid (below_then HS3.out.b HS3.out.b.size hb)
        clear hb
        go_wp2_with fail
        go_ret
        exact ⟨rfl, HBE.out⟩
      · obtain rfl : fb = false := by simpa using h1
        have h2 : 20 < m := by simp at hfar; exact hfar.1
        have h3 : m < 250 := by simp at hfar; exact hfar.2
        clear hfar h1
        go_wp2_with fail
        refine (alive12_any _).mono ?_
        rintro e W4 ⟨rfl, hb⟩
        have HBE := Lib.hid (below_then HS3.out.b HS3.out.b.size hb)
        clear hb
        go_wp2_with fail
        go_ret
        exact ⟨rfl, HBE.out⟩
    · obtain rfl : fb = false := by
        cases fb with
        | true => exact absurd (.inl rfl) hfar
        | false => rfl
      have hm2 : m ≤ 20 ∨ 250 ≤ m := by
        by_cases h : m ≤ 20
        · exact .inl h
        · exact .inr (by
            by_cases h' : m < 250
            · exact absurd (.inr ⟨by omega, h'⟩) hfar
            · omega)
      clear hfar
      have hST := dstart_any W3 p x0 HOK.out (HMo.out W3 HB3.out) sd most A a2 ca cap2 xs x2 (HX.out W3 HS3.out.b) (HY.out W3 HS3.out.b)
      rw [HN.out, HM.out] at hST
      have HSTA := Lib.hid hST
      clear hST
      have HMY := Lib.hid (fun (W' : World) (hb : Below w.heap.size w W') => dmay_any x0 sd most A ca xs W' (HX.out W' hb))
      rw [HCV.out, HN.out] at HMY
      by_cases hjk : Jok x0 xs most
      · have HJK := Lib.hid hjk
        rw [decide_eq_true hjk] at HMY
        clear hjk
        have h256 : n < 256 := by have h := HJK.out.2.2.1; rw [HN.out] at h; exact h
        have hmo : most ≤ 256 := HJK.out.2.1
        by_cases hbig : (m : Int) > most ∨ (m : Int) > 255 - (n : Int)
        · have HST := Lib.hid (HSTA.out.mono (fun e w' h => startM_of HJK.out (by rw [HN.out, HM.out]; exact hbig) h))
          unfold FeedN at HST
          clear HSTA
          by_cases h1 : most < (m : Int)
          · have g1 : decide (most < (m : Int)) = true := decide_eq_true h1
            clear hbig
            rcases hm2 with hm2 | hm2
            all_goals
              go_wp2_with fail
              refine HST.out.mono ?_
              rintro e W4 ⟨rfl, hb⟩
              have HS4 := Lib.hid (HS3.out.step hb)
              clear hb z0 z1 z2 z3 z4 z5 y0 y1 y2
              obtain ⟨z0, z1, z2, z3, z4, z5, y0, y1, y2, -⟩ := id HS4.out
              go_wp2_with fail
              refine (HMY.out _ HS4.out.b).mono ?_
              rintro e W5 ⟨rfl, hb⟩
              have HS5 := Lib.hid (HS4.out.step hb)
              clear hb z0 z1 z2 z3 z4 z5 y0 y1 y2
              obtain ⟨z0, z1, z2, z3, z4, z5, y0, y1, y2, -⟩ := id HS5.out
              go_wp2_with fail
              refine (alive12_any _).mono ?_
              rintro e W6 ⟨rfl, hb⟩
              have HBE := Lib.hid (below_then HS5.out.b HS5.out.b.size hb)
              clear hb
              go_wp2_with fail
              go_ret
              exact ⟨rfl, HBE.out⟩
          · have g1 : decide (most < (m : Int)) = false := decide_eq_false h1
            have g2 : decide (255 - (n : Int) < (m : Int)) = true := decide_eq_true (by omega)
            clear hbig
            rcases hm2 with hm2 | hm2
            all_goals
              go_wp2_with fail
              refine HST.out.mono ?_
              rintro e W4 ⟨rfl, hb⟩
              have HS4 := Lib.hid (HS3.out.step hb)
              clear hb z0 z1 z2 z3 z4 z5 y0 y1 y2
              obtain ⟨z0, z1, z2, z3, z4, z5, y0, y1, y2, -⟩ := id HS4.out
              go_wp2_with fail
              refine (HMY.out _ HS4.out.b).mono ?_
              rintro e W5 ⟨rfl, hb⟩
              have HS5 := Lib.hid (HS4.out.step hb)
              clear hb z0 z1 z2 z3 z4 z5 y0 y1 y2
              obtain ⟨z0, z1, z2, z3, z4, z5, y0, y1, y2, -⟩ := id HS5.out
              go_wp2_with fail
              refine (alive12_any _).mono ?_
              rintro e W6 ⟨rfl, hb⟩
              have HBE := Lib.hid (below_then HS5.out.b HS5.out.b.size hb)
              clear hb
              go_wp2_with fail
              go_ret
              exact ⟨rfl, HBE.out⟩
        · have HNB := Lib.hid hbig
          have h1 : ¬ most < (m : Int) := by omega
          have h2 : ¬ 255 - (n : Int) < (m : Int) := by omega
          have g1 : decide (most < (m : Int)) = false := decide_eq_false h1
          have g2 : decide (255 - (n : Int) < (m : Int)) = false := decide_eq_false h2
          have hm3 : m ≤ 255 := by omega
          clear hbig
          by_cases hz : ∃ t ∈ x2, badT x0 t
          · have HST := Lib.hid (HSTA.out.mono (fun e w' h => startB_of HJK.out (by rw [HN.out, HM.out]; exact HNB.out) hz h))
            unfold FeedN at HST
            have HZ := Lib.hid hz
            clear HSTA hz
            rcases hm2 with hm2 | hm2
            all_goals
              go_wp2_with fail
              refine HST.out.mono ?_
              rintro e W4 ⟨rfl, hb⟩
              have HS4 := Lib.hid (HS3.out.step hb)
              clear hb z0 z1 z2 z3 z4 z5 y0 y1 y2
              obtain ⟨z0, z1, z2, z3, z4, z5, y0, y1, y2, -⟩ := id HS4.out
              go_wp2_with fail
              refine (HMY.out _ HS4.out.b).mono ?_
              rintro e W5 ⟨rfl, hb⟩
              have HS5 := Lib.hid (HS4.out.step hb)
              clear hb z0 z1 z2 z3 z4 z5 y0 y1 y2
              obtain ⟨z0, z1, z2, z3, z4, z5, y0, y1, y2, -⟩ := id HS5.out
              go_wp2_with fail
              go_loopw [145] (fun s wr => ∃ i : Nat, s = .int .i64 i ∧ i ≤ m ∧ Hid (∀ k, k < i → ¬ badT x0 (x2.getD k 0)) ∧ Hid (Below W5.heap.size W5 wr)) (fun s _ => m - (intOf s).toNat)
              case atStart => exact ⟨0, rfl, by omega, Lib.hid (fun k hk => absurd hk (by omega)), Lib.hid (Below.refl _ _)⟩
              case round =>
                obtain ⟨i, rfl, hi, HTi, HBi⟩ := hrel
                have HSi := Lib.hid (HS5.out.step HBi.out)
                clear z0 z1 z2 z3 z4 z5 y0 y1 y2
                obtain ⟨z0, z1, z2, z3, z4, z5, y0, y1, y2, -⟩ := id HSi.out
                by_cases him : i < m
                · obtain ⟨b, eb, q⟩ := at_nat (HY.out _ HSi.out.b) i (by rw [HM.out]; exact him)
                  subst eb
                  obtain ⟨t, ht⟩ : ∃ t, x2.getD i 0 = t := ⟨_, rfl⟩
                  rw [ht] at q
                  have HT := Lib.hid ht
                  clear ht
                  by_cases t0 : t < 0
                  · go_wp2_with fail
                    refine (alive12_any _).mono ?_
                    rintro e W6 ⟨rfl, hb⟩
                    have HBE := Lib.hid (below_then HSi.out.b HSi.out.b.size hb)
                    clear hb
                    go_wp2_with fail
                    go_ret
                    exact ⟨rfl, HBE.out⟩
                  · by_cases t1 : x0.vocab ≤ t
                    · go_wp2_with fail
                      refine (alive12_any _).mono ?_
                      rintro e W6 ⟨rfl, hb⟩
                      have HBE := Lib.hid (below_then HSi.out.b HSi.out.b.size hb)
                      clear hb
                      go_wp2_with fail
                      go_ret
                      exact ⟨rfl, HBE.out⟩
                    · go_wp2_with fail
                      go_roundw
                      case rel => exact ⟨i + 1, by go_num, by omega, Lib.hid (fun k hk => by
                        by_cases h : k = i
                        · subst h
                          rw [HT.out]
                          intro hb
                          rcases hb with hb | hb
                          · exact t0 hb
                          · exact t1 hb
                        · exact HTi.out k (by omega)), HBi⟩
                      case measure => simp [intOf]; omega
                · exact absurd HZ.out (nb_none (fun k hk => HTi.out k (by rw [HM.out] at hk; omega)))
          · have HST := Lib.hid (HSTA.out.mono (fun e w' h => startG_of HJK.out (by rw [HN.out, HM.out]; exact HNB.out) hz h))
            unfold StartY at HST
            have HZ := Lib.hid hz
            clear HSTA hz
            rcases hm2 with hm2 | hm2
            all_goals
              go_wp2_with fail
              refine HST.out.mono ?_
              rintro e W4 ⟨s, rfl, hst, hb⟩
              have HS4 := Lib.hid (HS3.out.step hb)
              have HSS := Lib.hid hst
              clear hb hst z0 z1 z2 z3 z4 z5 y0 y1 y2
              obtain ⟨z0, z1, z2, z3, z4, z5, y0, y1, y2, -⟩ := id HS4.out
              go_wp2_with fail
              refine (HMY.out _ HS4.out.b).mono ?_
              rintro e W5 ⟨rfl, hb⟩
              have HS5 := Lib.hid (HS4.out.step hb)
              have HSS := Lib.hid (HSS.out.below hb)
              clear hb z0 z1 z2 z3 z4 z5 y0 y1 y2
              obtain ⟨z0, z1, z2, z3, z4, z5, y0, y1, y2, -⟩ := id HS5.out
              go_wp2_with fail
              go_loopw [145] (fun s wr => ∃ i : Nat, s = .int .i64 i ∧ i ≤ m ∧ Hid (∀ k, k < i → ¬ badT x0 (x2.getD k 0)) ∧ Hid (Below W5.heap.size W5 wr)) (fun s _ => m - (intOf s).toNat)
              case atStart => exact ⟨0, rfl, by omega, Lib.hid (fun k hk => absurd hk (by omega)), Lib.hid (Below.refl _ _)⟩
              case round =>
                obtain ⟨i, rfl, hi, HTi, HBi⟩ := hrel
                have HSi := Lib.hid (HS5.out.step HBi.out)
                clear z0 z1 z2 z3 z4 z5 y0 y1 y2
                obtain ⟨z0, z1, z2, z3, z4, z5, y0, y1, y2, -⟩ := id HSi.out
                by_cases him : i < m
                · obtain ⟨b, eb, q⟩ := at_nat (HY.out _ HSi.out.b) i (by rw [HM.out]; exact him)
                  subst eb
                  obtain ⟨t, ht⟩ : ∃ t, x2.getD i 0 = t := ⟨_, rfl⟩
                  rw [ht] at q
                  have HT := Lib.hid ht
                  clear ht
                  by_cases t0 : t < 0
                  · exact absurd ⟨t, nb_mem (by rw [HM.out]; exact him) HT.out, .inl t0⟩ HZ.out
                  · by_cases t1 : x0.vocab ≤ t
                    · exact absurd ⟨t, nb_mem (by rw [HM.out]; exact him) HT.out, .inr t1⟩ HZ.out
                    · go_wp2_with fail
                      go_roundw
                      case rel => exact ⟨i + 1, by go_num, by omega, Lib.hid (fun k hk => by
                        by_cases h : k = i
                        · subst h
                          rw [HT.out]
                          intro hb
                          rcases hb with hb | hb
                          · exact t0 hb
                          · exact t1 hb
                        · exact HTi.out k (by omega)), HBi⟩
                      case measure => simp [intOf]; omega
                · go_wp2_with fail
                  have HLN := Lib.hid (show (((0 :: (xs ++ x2)).length : Nat) : Int) = 1 + (n : Int) + (m : Int) by rw [List.length_cons, List.length_append, HN.out, HM.out]; omega)
                  have bD := below_drew (Below.refl wr.heap.size wr)
                  have hB0 : Below wr.heap.size wr wr.drew := bD
                  have yD := pw_cell_below bD y1
                  have HYC := Lib.hid (fun (W' : World) (hb : Below wr.heap.size wr W') => pw_cell_below hb y1)
                  have HSW := Lib.hid (HSS.out.below HBi.out)
                  have e1 : IntKind.i64.wrap (1 + (n : Int)) = 1 + (n : Int) := IntWalk.i64_in _ (by omega)
                  have e2 : IntKind.i64.wrap (1 + (n : Int) + (m : Int)) = 1 + (n : Int) + (m : Int) := IntWalk.i64_in _ (by omega)
                  clear bD
                  go_region_held3 (fun w' => w'.cell? ⟨j, 1, none⟩ = some (.slice A n ca) ∧ Hid (Below wr.heap.size wr w'))
                    (first | exact ⟨yD, Lib.hid hB0⟩ | (have hh := below_then (Hid.out (by assumption : Hid (Below wr.heap.size wr _))) (Below.size (Hid.out (by assumption : Hid (Below wr.heap.size wr _)))) (by assumption); exact ⟨HYC.out _ hh, Lib.hid hh⟩))
                    (first
                      | (go_at_call 37; refine (dlen_any _ _ s p x0 _ (HSW.out.below (Hid.out (by assumption : Hid (Below wr.heap.size wr _))))).mono ?_; rw [HLN.out]; rintro e w7 ⟨rfl, hw⟩; replace hw := hw.symm; subst hw)
                      | (go_at_call 33; refine (alive12_any _).mono ?_; rintro e w7 ⟨rfl, hb7⟩))
                  all_goals
                    have hH : w7.cell? ⟨j, 1, none⟩ = some (.slice A n ca) ∧ Hid (Below wr.heap.size wr w7) := by assumption
                    have HBE := Lib.hid (below_then HSi.out.b HSi.out.b.size hH.2.out)
                    clear hH hb7 hB0 yD HYC e1 e2 HSW
                    go_wp2_with fail
                    go_ret
                    exact ⟨rfl, HBE.out⟩
      · have HJK := Lib.hid hjk
        rw [decide_eq_false hjk] at HMY
        clear hjk
        have HST := Lib.hid (HSTA.out.mono (fun e w' h => startN_of HJK.out h))
        unfold FeedN at HST
        clear HSTA
        rcases hm2 with hm2 | hm2
        all_goals
          go_wp2_with fail
          refine HST.out.mono ?_
          rintro e W4 ⟨rfl, hb⟩
          have HS4 := Lib.hid (HS3.out.step hb)
          clear hb z0 z1 z2 z3 z4 z5 y0 y1 y2
          obtain ⟨z0, z1, z2, z3, z4, z5, y0, y1, y2, -⟩ := id HS4.out
          go_wp2_with fail
          refine (HMY.out _ HS4.out.b).mono ?_
          rintro e W5 ⟨rfl, hb⟩
          have HS5 := Lib.hid (HS4.out.step hb)
          clear hb z0 z1 z2 z3 z4 z5 y0 y1 y2
          obtain ⟨z0, z1, z2, z3, z4, z5, y0, y1, y2, -⟩ := id HS5.out
          go_wp2_with fail
          refine (alive12_any _).mono ?_
          rintro e W6 ⟨rfl, hb⟩
          have HBE := Lib.hid (below_then HS5.out.b HS5.out.b.size hb)
          clear hb
          go_wp2_with fail
          go_ret
          exact ⟨rfl, HBE.out⟩
  · have HNB := Lib.hid (new_bad x0 hok W1)
    rw [HCV.out] at HNB
    clear hok
    go_wp2_with fail
    refine HNB.out.mono ?_
    unfold NewNo
    rintro e W2 ⟨rfl, hb⟩
    have HS2 := Lib.hid (HS.out.step hb)
    clear hb z0 z1 z2 z3 z4 z5 y0 y1 y2
    go_wp2_with fail
    refine (alive12_any _).mono ?_
    rintro e W3 ⟨rfl, hb⟩
    have HBE := Lib.hid (below_then HS2.out.b HS2.out.b.size hb)
    clear hb
    go_wp2_with fail
    go_ret
    exact ⟨rfl, HBE.out⟩

set_option maxRecDepth 100000 in
theorem lifted (os : Os) (started : os.Started) (H : Type) (enc : TypeId × Value → H) :
    ReturnsInHanded {} Try.checked os 11 .any (Rows.decodeNobodySpec.pre6 enc Try.prog Try.f11 Rows.decodeNobodyRow.domain false) (Rows.decodeNobodySpec.post enc Try.prog Try.f11 false true false false) := by
  refine returnsInHanded_of_change (C := Try.checked) own started (by kernel_rfl) Try.func11
    (ChangeSpec.witness6 (enc := enc) (C := Try.checked) false ⟨#[], #[.agg #[.int .u64 0, .int .i64 0, .int .i64 0, .int .i64 0, .int .i64 0, .int .i64 0], .agg #[.int .u64 0, .slice none 0 0, .int .i64 0], .slice none 0 0], []⟩ 8 (by kernel_rfl) (by kernel_rfl) (by kernel_rfl) (by kernel_rfl)) ?_
  intro W base args ds gs before hval0 hW hcnd _
  have hval : ∀ (j : Nat) t v, Try.f11.params[j]? = some t → args[j]? = some v → Value.okWide Try.prog W .any base t v := hval0
  have hW' := hW
  obtain ⟨p, q, hA0, hV, rfl, hfz, hnd⟩ := hW
  have hA : DataW.TrodAll enc Try.prog W 0 (fun _ => true) true Try.f11.params.toList args.toList ds p := hA0
  rw [Try.params11] at hA hval
  obtain ⟨v0, vs0, d0, ds0, p0, q0, hargs, rfl, rfl, h0, r0⟩ := trodAll_cons hA
  obtain ⟨v1, vs1, d1, ds1, p1, q1, rfl, rfl, rfl, h1, r1⟩ := trodAll_cons r0
  obtain ⟨v2, vs2, d2, ds2, p2, q2, rfl, rfl, rfl, h2, r2⟩ := trodAll_cons r1
  obtain ⟨rfl, rfl, rfl⟩ := trodAll_nil r2
  obtain rfl : args = #[v0, v1, v2] := by cases args; simp_all
  obtain ⟨rfl, rfl⟩ := trodVars_none hV
  have k0 := h0
  have lt0 : ∀ x ∈ p0, x.block < W.heap.size := by obtain ⟨m, hm⟩ := k0; exact DataW.trod_lt m _ _ _ hm
  obtain ⟨cs0, rfl, _⟩ := okWide_struct Try.underlying24 (hval 0 24 v0 rfl rfl)
  obtain ⟨x0, y0, g0⟩ : ∃ x, KCfg.K W x cs0.toList ∧ (CfgW) x := by obtain ⟨m, hm⟩ := k0; exact op_cfg _ _ _ m _ _ hm
  have k1 := h1
  have lt1 : ∀ x ∈ p1, x.block < W.heap.size := by obtain ⟨m, hm⟩ := k1; exact DataW.trod_lt m _ _ _ hm
  obtain ⟨cs1, rfl, _⟩ := okWide_struct Try.underlying66 (hval 1 66 v1 rfl rfl)
  obtain ⟨x1, y1, g1⟩ : ∃ x, KJob.K W x cs1.toList ∧ (JobG) x := by obtain ⟨m, hm⟩ := k1; exact op_job _ _ _ m _ _ hm
  have k2 := h2
  have lt2 : ∀ x ∈ p2, x.block < W.heap.size := by obtain ⟨m, hm⟩ := k2; exact DataW.trod_lt m _ _ _ hm
  obtain ⟨a2, len2, cap2, rfl⟩ := okWide_slice Try.underlying64 (hval 2 64 v2 rfl rfl)
  obtain ⟨x2, y2, g2⟩ : ∃ x, KInts.K W x [.slice a2 len2 cap2] ∧ (fun xs => (∀ x ∈ xs, (Lit.int .i64 x).wf = true) ∧ xs.length ≤ maxLen) x := by obtain ⟨m, hm⟩ := k2; exact op_ints _ _ _ m _ _ hm
  clear hA0 hval0
  refine (walk cs0 x0 cs1 x1 a2 len2 cap2 x2 W y0 g0 y1 g1 y2 g2).mono fun e W' ⟨he, bel⟩ => ?_
  subst he
  exact ⟨_, rfl, _, _, _, [], _, [], hW', trodAll_mk1 (shut_bool Try.underlying4 _), (trodAll_cons_mk (Below.trod laidOut (by kernel_rfl) (of_decide_eq_true (by kernel_rfl)) k0 bel lt0) (trodAll_cons_mk (Below.trod laidOut (by kernel_rfl) (of_decide_eq_true (by kernel_rfl)) k1 bel lt1) (trodAll_cons_mk (Below.trod laidOut (by kernel_rfl) (of_decide_eq_true (by kernel_rfl)) k2 bel lt2) trodAll_mk0))), rfl, bel.frame _, fun h => by cases h⟩

theorem over : Rows.decodeNobodyRow.holds Try.pinned (OpenSpec.ofChange Rows.decodeNobodySpec) :=
  OpenClaim.holds_of_wide 11 Try.f11 rfl rfl rfl rfl rfl rfl rfl ⟨rfl, rfl, rfl, rfl, rfl⟩ rfl rfl rfl rfl rfl (by kernel_rfl) Try.func11 (by kernel_rfl)
    (of_decide_eq_true (by kernel_rfl)) (by unfold Func.isWrapper; first | (rw [if_pos (by decide +kernel)]; kernel_rfl) | (rw [if_neg (by decide +kernel)]; exact ⟨rfl, rfl⟩))
    (fun os started H enc _ => lifted os started H enc)

theorem proved : Rows.DecodeNobodySaid := over
end Go.Proofs.Ytdfgmdmcdnnhfaa.decodeNobody
