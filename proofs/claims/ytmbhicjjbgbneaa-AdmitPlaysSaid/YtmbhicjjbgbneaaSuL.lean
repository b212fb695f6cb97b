/- Sorting whole numbers of 64 bits: pdqsort, Sort. -/
import Derived.Test.YtmbhicjjbgbneaaSuJ
import Derived.Test.YtmbhicjjbgbneaaSuK
import Derived.Sort.Walk13a
import Derived.Sort.LotB
import Derived.Sort.LotC
namespace Go.Proofs.Ytmbhicjjbgbneaa
open Go.RowKit Go.Shelf Go.Proofs.YtmbhicjjbgbneaaW.PrintWords Go.Proofs.YtmbhicjjbgbneaaW.PrintLast Go.Proofs.YtmbhicjjbgbneaaW.PrintMore
set_option linter.unusedVariables false
set_option linter.unusedSimpArgs false
set_option maxRecDepth 100000
theorem swoZ : Sort.SWO ltZ where
  irrefl x := by unfold ltZ; simp
  trans x y z h1 h2 := by unfold ltZ at *; simp at *; omega
  ntrans x y z h1 h2 := by unfold ltZ at *; simp at *; omega
theorem pivot_in (d : Array Int) (a b : Nat) (h : a + 12 < b) : a < (Sort.choosePivot ltZ d a b).1 ∧ (Sort.choosePivot ltZ d a b).1 + 1 < b := by
  unfold Sort.choosePivot
  dsimp only
  obtain ⟨l, hl⟩ : ∃ l, b - a = l := ⟨_, rfl⟩
  rw [hl, if_pos (show l ≥ 8 by omega)]
  by_cases h50 : l ≥ 50
  · rw [if_pos h50]
    unfold Sort.medianAdjacent
    have h1 := median_in ltZ d (a + l / 4 * 1 - 1) (a + l / 4 * 1) (a + l / 4 * 1 + 1) 0
    have h2 := median_in ltZ d (a + l / 4 * 2 - 1) (a + l / 4 * 2) (a + l / 4 * 2 + 1) (Sort.median ltZ d (a + l / 4 * 1 - 1) (a + l / 4 * 1) (a + l / 4 * 1 + 1) 0).2
    have h3 := median_in ltZ d (a + l / 4 * 3 - 1) (a + l / 4 * 3) (a + l / 4 * 3 + 1) (Sort.median ltZ d (a + l / 4 * 2 - 1) (a + l / 4 * 2) (a + l / 4 * 2 + 1) (Sort.median ltZ d (a + l / 4 * 1 - 1) (a + l / 4 * 1) (a + l / 4 * 1 + 1) 0).2).2
    obtain ⟨r1, hr1⟩ : ∃ r, Sort.median ltZ d (a + l / 4 * 1 - 1) (a + l / 4 * 1) (a + l / 4 * 1 + 1) 0 = r := ⟨_, rfl⟩
    rw [hr1] at h1 h2 h3 ⊢
    obtain ⟨r2, hr2⟩ : ∃ r, Sort.median ltZ d (a + l / 4 * 2 - 1) (a + l / 4 * 2) (a + l / 4 * 2 + 1) r1.2 = r := ⟨_, rfl⟩
    rw [hr2] at h2 h3 ⊢
    obtain ⟨r3, hr3⟩ : ∃ r, Sort.median ltZ d (a + l / 4 * 3 - 1) (a + l / 4 * 3) (a + l / 4 * 3 + 1) r2.2 = r := ⟨_, rfl⟩
    rw [hr3] at h3 ⊢
    have h4 := median_in ltZ d r1.1 r2.1 r3.1 r3.2
    omega
  · rw [if_neg h50]
    have h4 := median_in ltZ d (a + l / 4 * 1) (a + l / 4 * 2) (a + l / 4 * 3) 0
    omega
theorem hintZ_two {h : Sort.Hint} (e : hintZ h = 2) : h = .decreasing := by cases h <;> simp [hintZ] at e ⊢
theorem eighthZ {x y p q : Nat} (h1 : q ≤ p) (h2 : y ≤ x) : decide (((x : Int) - (y : Int)) / 8 ≤ (p : Int) - (q : Int)) = decide (p - q ≥ (x - y) / 8) :=
  decide_eq_decide.2 ⟨fun h => by omega, fun h => by omega⟩
section
variable {W W' : World} {g n c : Nat} {d : Array Int}
set_option maxHeartbeats 6400000 in
theorem su_pdq (hn : n ≤ 255) : ∀ (N : Nat) (W : World) (a b lim : Nat) (d : Array Int), b - a < N → SR W g n c d → a ≤ b → b ≤ n → lim ≤ 100 → Sort.Below ltZ a b d →
    Calls Try.prog 83 #[.slice (some ⟨g, 0, none⟩) n c, .int .i64 a, .int .i64 b, .int .i64 lim] W fun e w' => e = .returned (.tuple #[]) ∧ SR w' g n c (Sort.pdq ltZ d a b lim true true) ∧ Tn (fun k => k = g) W w' := by
  intro N
  induction N with
  | zero => intro _ _ _ _ _ h; exact absurd h (Nat.not_lt_zero _)
  | succ N ih =>
    intro W a b lim d hN h hab hb hlim hBel
    obtain ⟨D, hD⟩ : ∃ D, Sort.pdq ltZ d a b lim true true = D := ⟨_, rfl⟩
    rw [hD]
    have HD := Lib.hid hD
    have HR0 := Lib.hid h
    have HB0 := Lib.hid hBel
    have IH := Lib.hid ih
    clear h hD hBel ih
    go_enter Try.func83, Try.ntmps83
    go_wp2
    go_loopw [1, 2, 3, 8, 9] (fun s1 s2 s3 s8 s9 wr => ∃ (a' b' l' : Nat) (wb wp : Bool) (dk : Array Int), s1 = .int .i64 a' ∧ s2 = .int .i64 b' ∧ s3 = .int .i64 l' ∧ s8 = .bool wb ∧ s9 = .bool wp ∧
      a' ≤ b' ∧ b' ≤ n ∧ b' - a' ≤ b - a ∧ l' ≤ 100 ∧ Hid (Sort.Below ltZ a' b' dk) ∧ Hid (SR wr g n c dk) ∧ Hid (Tn (fun k => k = g) W wr) ∧ Hid (Sort.pdq ltZ dk a' b' l' wb wp = D)) (fun s1 s2 _ _ _ _ => (intOf s2).toNat - (intOf s1).toNat)
    case atStart => exact ⟨a, b, lim, true, true, d, rfl, rfl, rfl, rfl, rfl, hab, hb, Nat.le_refl _, hlim, HB0, HR0, Lib.hid (Tn.refl _ _), HD⟩
    case round =>
      obtain ⟨a', b', l', wb, wp, dk, rfl, rfl, rfl, rfl, rfl, hab', hb', hkN, hl', HBel, HR, HT, HO⟩ := hrel
      by_cases h12 : b' - a' ≤ 12
      · have h12z : (b' : Int) - (a' : Int) ≤ 12 := by omega
        have HC := Lib.hid (su_ins HR.out a' b' hb' (by omega) hab')
        have HF := Lib.hid (show Sort.insertionSort ltZ dk a' b' = D from by rw [← HO.out, Sort.pdq_small h12])
        go_wp2_with fail
        refine HC.out.mono ?_
        rintro e w1 ⟨rfl, hr1, ht1⟩
        have HE := Lib.hid (And.intro hr1 (HT.out.trans ht1 (fun k hk => .inl hk)))
        rw [HF.out] at HE
        clear hr1 ht1
        go_wp2_with fail
        (try simp only [Exit.inBlock, Exit.then]); refine bodyPost_ret (results_none rfl _ _ _) rfl ?_
        exact ⟨rfl, HE.out⟩
      · have h12z : ¬ ((b' : Int) - (a' : Int) ≤ 12) := by omega
        by_cases hl0 : l' = 0
        · obtain ⟨hi, hhi⟩ : ∃ hi, a' + (hi + 1) = b' := ⟨b' - a' - 1, by omega⟩
          have HC := Lib.hid (su_heap HR.out a' hi (by omega) (by omega))
          rw [hhi] at HC
          have HF := Lib.hid (show Sort.heapSort ltZ dk a' b' = D from by rw [← HO.out, Sort.pdq_heap h12 hl0])
          subst hl0
          clear hhi
          go_wp2_with fail
          refine HC.out.mono ?_
          rintro e w1 ⟨rfl, hr1, ht1⟩
          have HE := Lib.hid (And.intro hr1 (HT.out.trans ht1 (fun k hk => .inl hk)))
          rw [HF.out] at HE
          clear hr1 ht1
          go_wp2_with fail
          (try simp only [Exit.inBlock, Exit.then]); refine bodyPost_ret (results_none rfl _ _ _) rfl ?_
          exact ⟨rfl, HE.out⟩
        · have hl0z : ¬ ((l' : Int) = 0) := by omega
          obtain ⟨s1, B1, hc1, s2, B2, hpv, s3, B3⟩ := Sort.rd_facts (limit := l') (wb := wb) (wp := wp) swoZ Sort.partialInsertionSort_holds Sort.reverseRange_holds (show a' < b' by omega) (show b' ≤ dk.size by rw [HR.out.sz]; exact hb') HBel.out
          have hpi := pivot_in (Sort.rd ltZ dk a' b' l' wb wp).d1 a' b' (by omega)
          have hcc : (Sort.rd ltZ dk a' b' l' wb wp).c = Sort.choosePivot ltZ (Sort.rd ltZ dk a' b' l' wb wp).d1 a' b' := Sort.rd_c
          have hll : (Sort.rd ltZ dk a' b' l' wb wp).lim ≤ l' := Sort.rd_lim_le
          have F1 : (wb = false → (Sort.rd ltZ dk a' b' l' wb wp).d1 = Sort.breakPatterns dk a' b' ∧ (Sort.rd ltZ dk a' b' l' wb wp).lim = l' - 1) ∧ (wb = true → (Sort.rd ltZ dk a' b' l' wb wp).d1 = dk ∧ (Sort.rd ltZ dk a' b' l' wb wp).lim = l') :=
            ⟨fun e => by subst e; exact Sort.rd_false, fun e => by subst e; exact Sort.rd_true⟩
          have F2 := fun hh => Sort.rd_dec (lt := ltZ) (d := dk) (a := a') (b := b') (limit := l') (wb := wb) (wp := wp) hh
          have F3 := fun hh => Sort.rd_not (lt := ltZ) (d := dk) (a := a') (b := b') (limit := l') (wb := wb) (wp := wp) hh
          have F4 := fun hh => Sort.rd_pi_yes (lt := ltZ) (d := dk) (a := a') (b := b') (limit := l') (wb := wb) (wp := wp) hh
          have F5 := fun hh => Sort.rd_pi_no (lt := ltZ) (d := dk) (a := a') (b := b') (limit := l') (wb := wb) (wp := wp) hh
          have F6 := fun h1 => Sort.pdq_done (lt := ltZ) (d := dk) (a := a') (b := b') (limit := l') (wb := wb) (wp := wp) h12 hl0 h1
          have F7 := fun h1 h2 h3 => Sort.pdq_eq (lt := ltZ) (d := dk) (a := a') (b := b') (limit := l') (wb := wb) (wp := wp) h12 hl0 h1 h2 h3
          have F8 := fun h1 h2 h3 h4 => Sort.pdq_left (lt := ltZ) (d := dk) (a := a') (b := b') (limit := l') (wb := wb) (wp := wp) h12 hl0 h1 h2 h3 h4
          have F9 := fun h1 h2 h3 h4 => Sort.pdq_right (lt := ltZ) (d := dk) (a := a') (b := b') (limit := l') (wb := wb) (wp := wp) h12 hl0 h1 h2 h3 h4
          rw [HO.out] at F6 F7 F8 F9
          rw [HR.out.sz] at s1 s2 s3
          obtain ⟨RD, hRD⟩ : ∃ r, Sort.rd ltZ dk a' b' l' wb wp = r := ⟨_, rfl⟩
          rw [hRD] at s1 B1 hc1 s2 B2 hpv s3 B3 hpi hcc hll F1 F2 F3 F4 F5 F6 F7 F8 F9
          replace F1 := Lib.hid F1
          replace F2 := Lib.hid F2
          replace F3 := Lib.hid F3
          replace F4 := Lib.hid F4
          replace F5 := Lib.hid F5
          replace F6 := Lib.hid F6
          replace F7 := Lib.hid F7
          replace F8 := Lib.hid F8
          replace F9 := Lib.hid F9
          replace B3 := Lib.hid B3
          have HCC := Lib.hid hcc
          have S1 := Lib.hid s1
          have S2 := Lib.hid s2
          have S3 := Lib.hid s3
          rw [← hcc] at hpi
          obtain ⟨hpi1, hpi2⟩ := hpi
          have hpva : a' < RD.pivot := by
            by_cases hh : RD.c.2 = .decreasing
            · rw [(F2.out hh).2.1]; omega
            · rw [(F3.out hh).2.1]; exact hpi1
          obtain ⟨hpv1, hpv2⟩ := hpv
          have hpne : a' ≠ RD.pivot := by omega
          have hll2 : RD.lim ≤ 100 := by omega
          clear hRD B1 B2 hc1 s1 s2 s3 hcc HBel hll
          go_upto_if 35 with fail
          go_cut [3] (fun s3 wx => s3 = .int .i64 RD.lim ∧ Hid (SR wx g n c RD.d1) ∧ Hid (Tn (fun k => k = g) W wx))
          case first =>
            cases wb with
            | false =>
              obtain ⟨L, hL⟩ : ∃ L, a' + L = b' := ⟨b' - a', by omega⟩
              have HC := Lib.hid (su_brk HR.out a' L (by omega) hn (by omega))
              rw [hL, ← (F1.out.1 rfl).1] at HC
              have hlm : (l' : Int) - 1 = (RD.lim : Int) := by have := (F1.out.1 rfl).2; omega
              clear hL
              go_wp2_with fail
              refine HC.out.mono ?_
              rintro e w1 ⟨rfl, hr1, ht1⟩
              have HR1 := Lib.hid hr1
              have HT1 := Lib.hid (HT.out.trans ht1 (fun k hk => .inl hk))
              clear hr1 ht1
              go_wp2_with fail
              go_meet
              exact ⟨by first | rfl | go_num, HR1, HT1⟩
            | true =>
              have HE := Lib.hid (F1.out.2 rfl)
              go_wp2_with fail
              go_meet
              exact ⟨by rw [HE.out.2], by rw [HE.out.1]; exact HR, HT⟩
          case rest =>
            obtain ⟨rfl, HR1, HT1⟩ := hcut
            obtain ⟨w1, hw1⟩ : ∃ w1, w1 = wc := ⟨_, rfl⟩
            subst hw1
            have HC := Lib.hid (su_pivot HR1.out a' b' (by omega) hb' (by omega))
            rw [← HCC.out] at HC
            clear HR HT hl0z
            go_upto_if 50 with (go_at_call 90; refine HC.out.mono ?_; rintro e w2 ⟨rfl, hr2, hb2⟩)
            have HR2 := Lib.hid hr2
            have HT2 := Lib.hid (HT1.out.bel hb2)
            clear hr2 hb2 HR1 HT1 HC
            go_cut [11, 12] (fun s11 s12 wx => s11 = .int .i64 RD.pivot ∧ s12 = .int .i64 (hintZ RD.hint) ∧ Hid (SR wx g n c RD.d2) ∧ Hid (Tn (fun k => k = g) W wx))
            case first =>
              by_cases hh : RD.c.2 = .decreasing
              · have hcode : hintZ RD.c.2 = 2 := by rw [hh]; rfl
                have HE := Lib.hid (F2.out hh)
                obtain ⟨b9, hb9⟩ : ∃ b9, b9 + 1 = b' := ⟨b' - 1, by omega⟩
                have HC := Lib.hid (su_rev HR2.out a' b9 (by omega) (by omega))
                rw [hb9, ← HE.out.1] at HC
                have hpz : (b' : Int) - 1 - ((RD.c.1 : Int) - (a' : Int)) = (RD.pivot : Int) := by have := HE.out.2.1; omega
                have HH := Lib.hid hh
                clear hh hb9
                go_wp2_with fail
                refine HC.out.mono ?_
                rintro e w3 ⟨rfl, hr3, ht3⟩
                have HR3 := Lib.hid hr3
                have HT3 := Lib.hid (HT2.out.trans ht3 (fun k hk => .inl hk))
                clear hr3 ht3
                go_wp2_with fail
                go_meet
                exact ⟨by first | rfl | go_num, by rw [HE.out.2.2]; rfl, HR3, HT3⟩
              · have hcode : ¬ (hintZ RD.c.2 = 2) := fun h => hh (hintZ_two h)
                have HE := Lib.hid (F3.out hh)
                clear hh
                go_wp2_with fail
                go_meet
                exact ⟨by rw [HE.out.2.1], by rw [HE.out.2.2], by rw [HE.out.1]; exact HR2, HT2⟩
            case rest =>
              obtain ⟨rfl, rfl, HR3, HT3⟩ := hcut
              obtain ⟨w3, hw3⟩ : ∃ w3, w3 = wc := ⟨_, rfl⟩
              subst hw3
              clear HR2 HT2
              go_upto_region 15 with fail
              go_cut [12, 68] (fun s12 s68 wx => s12 = .int .i64 (hintZ RD.hint) ∧ s68 = .bool (wb && wp && decide (RD.hint = .increasing)) ∧ wx = w3)
              case first =>
                cases wb <;> cases wp <;> cases hh3 : RD.hint <;>
                  (have hcode3 := congrArg hintZ hh3
                   simp only [hintZ] at hcode3
                   go_wp2_with fail
                   go_meet
                   exact ⟨by simp [hh3, hintZ], by simp [hh3, hintZ], rfl⟩)
              case rest =>
                obtain ⟨rfl, rfl, hw4⟩ := hcut
                subst hw4
                obtain ⟨tt, htt⟩ : ∃ tt, (wb && wp && decide (RD.hint = .increasing)) = tt := ⟨_, rfl⟩
                rw [htt]
                have HTT := Lib.hid htt
                obtain ⟨hz, hhz⟩ : ∃ hz, hintZ RD.hint = hz := ⟨_, rfl⟩
                rw [hhz]
                clear htt hhz
                obtain ⟨w4, hw4⟩ : ∃ w4, w4 = wc := ⟨_, rfl⟩
                subst hw4
                go_upto_if 68 with fail
                go_cut [] (fun wx => Hid (RD.pi.2 = false) ∧ Hid (SR wx g n c RD.pi.1) ∧ Hid (Tn (fun k => k = g) W wx))
                case first =>
                  cases tt with
                  | false =>
                    have HE := Lib.hid (F5.out HTT.out)
                    go_wp2_with fail
                    go_meet
                    exact ⟨Lib.hid (by rw [HE.out]), by rw [HE.out]; exact HR3, HT3⟩
                  | true =>
                    have HC := Lib.hid (su_partial HR3.out a' b' (by omega) hb' (by omega))
                    rw [← F4.out HTT.out] at HC
                    cases hp2 : RD.pi.2 with
                    | false =>
                      rw [hp2] at HC
                      have HP2 := Lib.hid hp2
                      clear hp2
                      go_wp2_with fail
                      refine HC.out.mono ?_
                      rintro e w5 ⟨rfl, hr5, ht5⟩
                      have HR5 := Lib.hid hr5
                      have HT5 := Lib.hid (HT3.out.trans ht5 (fun k hk => .inl hk))
                      clear hr5 ht5
                      go_wp2_with fail
                      go_meet
                      exact ⟨HP2, HR5, HT5⟩
                    | true =>
                      rw [hp2] at HC
                      have HF := Lib.hid (F6.out hp2)
                      clear hp2
                      go_wp2_with fail
                      refine HC.out.mono ?_
                      rintro e w5 ⟨rfl, hr5, ht5⟩
                      have HE := Lib.hid (And.intro hr5 (HT3.out.trans ht5 (fun k hk => .inl hk)))
                      rw [← HF.out] at HE
                      clear hr5 ht5
                      go_wp2_with fail
                      (try simp only [Exit.inBlock, Exit.then]); refine bodyPost_ret (results_none rfl _ _ _) rfl ?_
                      exact ⟨rfl, HE.out⟩
                case rest =>
                  obtain ⟨HP2, HR5, HT5⟩ := hcut
                  obtain ⟨w5, hw5⟩ : ∃ w5, w5 = wc := ⟨_, rfl⟩
                  subst hw5
                  clear HR3 HT3
                  have HU := Lib.hid (fun u : Nat => HR5.out.below (pw_below_drewN (Below.refl _ _) u))
                  have HTU := Lib.hid (fun u : Nat => HT5.out.bel (pw_below_drewN (Below.refl w5.heap.size w5) u))
                  obtain ⟨cpv, -⟩ := HR5.out.at_ RD.pivot (by omega)
                  obtain ⟨pvv, hpvv⟩ : ∃ v, RD.pi.1[RD.pivot]! = v := ⟨_, rfl⟩
                  rw [hpvv] at cpv
                  obtain ⟨tb, htb⟩ : ∃ tb, (decide (a' > 0) && !ltZ RD.pi.1[a' - 1]! pvv) = tb := ⟨_, rfl⟩
                  have HTB := Lib.hid (show (decide (a' > 0) && !ltZ RD.pi.1[a' - 1]! RD.pi.1[RD.pivot]!) = tb by rw [hpvv]; exact htb)
                  clear hpvv
                  go_upto_region 17 with fail
                  go_cut [87] (fun s87 wx => s87 = .bool tb ∧ Hid (SR wx g n c RD.pi.1) ∧ Hid (Tn (fun k => k = g) W wx))
                  case first =>
                    rcases Nat.eq_zero_or_pos a' with ha0 | ha0
                    · subst ha0
                      have hg : decide (((0 : Nat) : Int) > 0) = false := decide_eq_false (by omega)
                      have HTF := Lib.hid (show tb = false by rw [← htb]; rfl)
                      clear htb
                      go_wp2_with fail
                      go_quiet (fail)
                      go_wp2_with fail
                      go_meet
                      exact ⟨by rw [HTF.out], Lib.hid (HU.out _), Lib.hid (HTU.out _)⟩
                    · obtain ⟨a1, ha1⟩ : ∃ a1, a' - 1 = a1 := ⟨_, rfl⟩
                      have z1 : (a' : Int) - 1 = (a1 : Int) := by omega
                      obtain ⟨ca1, -⟩ := HR5.out.at_ a1 (by omega)
                      rw [ha1] at htb
                      obtain ⟨v, hv⟩ : ∃ v, RD.pi.1[a1]! = v := ⟨_, rfl⟩
                      rw [hv] at ca1 htb
                      have hg : decide ((a' : Int) > 0) = true := decide_eq_true (by omega)
                      have hg2 : decide (a' > 0) = true := decide_eq_true ha0
                      rw [hg2, Bool.true_and] at htb
                      have HLs := Lib.hid (fun w : World => less_any v pvv w)
                      cases hl : ltZ v pvv with
                      | true =>
                        rw [hl] at HLs htb
                        have HTF := Lib.hid (show tb = false by rw [← htb]; rfl)
                        clear htb hl hv ha1
                        go_wp2_with fail
                        go_quiet ((go_at_call 93; exact Calls.quiet_of_same (HLs.out _)))
                        go_wp2_with fail
                        go_meet
                        exact ⟨by rw [HTF.out], Lib.hid (HU.out _), Lib.hid (HTU.out _)⟩
                      | false =>
                        rw [hl] at HLs htb
                        have HTF := Lib.hid (show tb = true by rw [← htb]; rfl)
                        clear htb hl hv ha1
                        go_wp2_with fail
                        go_quiet ((go_at_call 93; exact Calls.quiet_of_same (HLs.out _)))
                        go_wp2_with fail
                        go_meet
                        exact ⟨by rw [HTF.out], Lib.hid (HU.out _), Lib.hid (HTU.out _)⟩
                  case rest =>
                    obtain ⟨rfl, HR6, HT6⟩ := hcut
                    obtain ⟨w6, hw6⟩ : ∃ w6, w6 = wc := ⟨_, rfl⟩
                    subst hw6
                    clear HR5 HT5 HU HTU cpv htb
                    obtain ⟨b9, hb9⟩ : ∃ b9, b9 + 1 = b' := ⟨b' - 1, by omega⟩
                    cases tb with
                    | false =>
                      have HC := Lib.hid (su_part HR6.out a' b9 b' RD.pivot hb9 hpne (by omega) (by omega) hb' (by omega))
                      obtain ⟨X, hX⟩ : ∃ X, Sort.partition ltZ RD.pi.1 a' b' RD.pivot = X := ⟨_, rfl⟩
                      have F8 := Lib.hid (F8.out HP2.out HTB.out)
                      have F9 := Lib.hid (F9.out HP2.out HTB.out)
                      rw [hX] at HC F8 F9
                      obtain ⟨mid, ap, d4⟩ := X
                      obtain ⟨r1, r2, r3, r4, r5, r6, r7⟩ := Sort.round_part swoZ (Sort.partition_holds ltZ) hpv1 hpv2 (show b' ≤ RD.pi.1.size by rw [S3.out]; exact hb') B3.out hX
                      dsimp only at HC F8 F9
                      have R3 := Lib.hid r3
                      have R4 := Lib.hid r4
                      have R5 := Lib.hid r5
                      have R6 := Lib.hid r6
                      have R7 := Lib.hid r7
                      clear r3 r4 r5 r6 r7 hX hb9
                      go_upto_if 113 with (go_at_call 95; refine HC.out.mono ?_; rintro e w7 ⟨rfl, hr7, ht7⟩)
                      have HR7 := Lib.hid hr7
                      have HT7 := Lib.hid (HT6.out.trans ht7 (fun k hk => .inl hk))
                      clear hr7 ht7 HC HR6 HT6
                      by_cases h4 : mid - a' < b' - mid
                      · have h4z : (mid : Int) - (a' : Int) < (b' : Int) - (mid : Int) := by omega
                        have HC := Lib.hid (IH.out w7 a' mid RD.lim d4 (by omega) HR7.out r1 (by omega) hll2 R4.out)
                        have hpp := Sort.pdq_holds Sort.insertionSort_holds Sort.heapSort_holds Sort.partialInsertionSort_holds (Sort.partition_holds ltZ) (Sort.partitionEqual_holds ltZ) Sort.reverseRange_holds swoZ d4 a' mid RD.lim true true r1 (by rw [HR7.out.sz]; omega) R4.out
                        have HBN := Lib.hid (R6.out _ hpp.1 hpp.2).1
                        have HF := Lib.hid (F8.out ⟨r1, r2⟩ h4)
                        have h8 := eighthZ (x := b') (y := a') (p := mid) (q := a') r1 (by omega)
                        obtain ⟨bb, hbb⟩ : ∃ bb, decide (mid - a' ≥ (b' - a') / 8) = bb := ⟨_, rfl⟩
                        rw [hbb] at HF h8
                        clear hpp hbb
                        go_wp2_with fail
                        refine HC.out.mono ?_
                        rintro e w8 ⟨rfl, hr8, ht8⟩
                        have HR8 := Lib.hid hr8
                        have HT8 := Lib.hid (HT7.out.trans ht8 (fun k hk => .inl hk))
                        clear hr8 ht8
                        go_wp2_with fail
                        go_roundw
                        case rel => exact ⟨mid + 1, b', RD.lim, bb, ap, _, by go_num, rfl, rfl, by first | rfl | (rw [← h8]), rfl, by omega, hb', by omega, hll2, HBN, HR8, HT8, Lib.hid HF.out.symm⟩
                        case measure => simp [intOf]; omega
                      · have h4z : ¬ ((mid : Int) - (a' : Int) < (b' : Int) - (mid : Int)) := by omega
                        have HC := Lib.hid (IH.out w7 (mid + 1) b' RD.lim d4 (by omega) HR7.out (by omega) hb' hll2 R5.out)
                        have hpp := Sort.pdq_holds Sort.insertionSort_holds Sort.heapSort_holds Sort.partialInsertionSort_holds (Sort.partition_holds ltZ) (Sort.partitionEqual_holds ltZ) Sort.reverseRange_holds swoZ d4 (mid + 1) b' RD.lim true true (by omega) (by rw [HR7.out.sz]; omega) R5.out
                        have HBN := Lib.hid (R7.out _ hpp.1 hpp.2).1
                        have HF := Lib.hid (F9.out ⟨r1, r2⟩ h4)
                        have h8 := eighthZ (x := b') (y := a') (p := b') (q := mid) (by omega) (by omega)
                        obtain ⟨bb, hbb⟩ : ∃ bb, decide (b' - mid ≥ (b' - a') / 8) = bb := ⟨_, rfl⟩
                        rw [hbb] at HF h8
                        have hm1 : ((mid + 1 : Nat) : Int) = (mid : Int) + 1 := by omega
                        rw [hm1] at HC
                        clear hpp hbb hm1
                        go_wp2_with fail
                        refine HC.out.mono ?_
                        rintro e w8 ⟨rfl, hr8, ht8⟩
                        have HR8 := Lib.hid hr8
                        have HT8 := Lib.hid (HT7.out.trans ht8 (fun k hk => .inl hk))
                        clear hr8 ht8
                        go_wp2_with fail
                        go_roundw
                        case rel => exact ⟨a', mid, RD.lim, bb, ap, _, rfl, rfl, rfl, by first | rfl | (rw [← h8]), rfl, by omega, by omega, by omega, hll2, HBN, HR8, HT8, Lib.hid HF.out.symm⟩
                        case measure => simp [intOf]; omega
                    | true =>
                      have h87 := HTB.out
                      simp only [Bool.and_eq_true, decide_eq_true_eq, Bool.not_eq_true'] at h87
                      have HC := Lib.hid (su_peq HR6.out a' b9 b' RD.pivot hb9 hpne (by omega) (by omega) hb' (by omega))
                      obtain ⟨X, hX⟩ : ∃ X, Sort.partitionEqual ltZ RD.pi.1 a' b' RD.pivot = X := ⟨_, rfl⟩
                      have F7 := Lib.hid (F7.out HP2.out HTB.out)
                      rw [hX] at HC F7
                      obtain ⟨mid, d4⟩ := X
                      obtain ⟨r1, r2, r3, r4, -⟩ := Sort.round_eq swoZ (Sort.partitionEqual_holds ltZ) h87.1 hpv1 hpv2 (show b' ≤ RD.pi.1.size by rw [S3.out]; exact hb') B3.out h87.2 hX
                      dsimp only at HC F7
                      have R4 := Lib.hid r4
                      have HF := Lib.hid (F7.out ⟨r1, r2⟩)
                      clear r3 r4 hX hb9 h87
                      go_wp2_with fail
                      refine HC.out.mono ?_
                      rintro e w7 ⟨rfl, hr7, ht7⟩
                      have HR7 := Lib.hid hr7
                      have HT7 := Lib.hid (HT6.out.trans ht7 (fun k hk => .inl hk))
                      clear hr7 ht7 HC HR6 HT6
                      go_wp2_with fail
                      go_roundw
                      case rel => exact ⟨mid, b', RD.lim, wb, wp, d4, rfl, rfl, rfl, rfl, rfl, by omega, hb', by omega, hll2, R4, HR7, HT7, Lib.hid HF.out.symm⟩
                      case measure => simp [intOf]; omega
theorem su_sort (h : SR W g n c d) (hn : n ≤ 255) : Calls Try.prog 75 #[.slice (some ⟨g, 0, none⟩) n c] W fun e w' => e = .returned (.tuple #[]) ∧ SR w' g n c (Sort.sort ltZ d) ∧ Tn (fun k => k = g) W w' := by
  have h8 := bits_len_le ⟨n, by omega⟩
  have HC := Lib.hid (su_pdq hn (n + 1) W 0 n (Sort.bitsLen n) d (by omega) h (by omega) (Nat.le_refl _) (by dsimp only at h8; omega) (.inl rfl))
  have HL := Lib.hid (su_len n (by omega) W)
  unfold Sort.sort
  rw [h.sz]
  obtain ⟨m, hm⟩ : ∃ m, Sort.bitsLen n = m := ⟨_, rfl⟩
  rw [hm] at HC HL ⊢
  have HC := Lib.hid (show Calls Try.prog 83 #[.slice (some ⟨g, 0, none⟩) n c, .int .i64 0, .int .i64 n, .int .i64 m] W _ from HC.out)
  clear h hm h8
  go_enter Try.func75, Try.ntmps75
  go_wp2_with fail
  refine HL.out.mono ?_
  rintro e w' ⟨rfl, rfl⟩
  go_wp2_with fail
  refine HC.out.mono ?_
  rintro e w1 ⟨rfl, hr1, ht1⟩
  have HE := Lib.hid (And.intro hr1 ht1)
  clear hr1 ht1
  go_wp2_with fail
  go_end0
  exact ⟨rfl, HE.out⟩
end
end Go.Proofs.Ytmbhicjjbgbneaa
