/- Sorting whole numbers of 64 bits: partitionEqual. -/
import Derived.Test.YtmbhicjjbgbneaaSuG
import Derived.Deep.DeepCutAuto
import Derived.Deep.CutBlock
namespace Go.Proofs.Ytmbhicjjbgbneaa
open Go.RowKit Go.Shelf Go.Proofs.YtmbhicjjbgbneaaW.PrintWords Go.Proofs.YtmbhicjjbgbneaaW.PrintLast Go.Proofs.YtmbhicjjbgbneaaW.PrintMore
set_option linter.unusedVariables false
set_option linter.unusedSimpArgs false
set_option maxRecDepth 100000
section
variable {W W' : World} {g n c : Nat} {d : Array Int}
set_option maxHeartbeats 4000000 in
/-- partitionEqual behind its first swap. -/
theorem su_peq (h : SR W g n c d) (a b B pv : Nat) (hB : b + 1 = B) (hne : a ≠ pv) (ha : a ≤ pv) (hpv : pv < B) (hb : B ≤ n) (hn : n ≤ 1000) : Calls Try.prog 94 #[.slice (some ⟨g, 0, none⟩) n c, .int .i64 a, .int .i64 B, .int .i64 pv] W fun e w' => e = .returned (.int .i64 (Sort.partitionEqual ltZ d a B pv).1) ∧ SR w' g n c (Sort.partitionEqual ltZ d a B pv).2 ∧ Tn (fun k => k = g) W w' := by
  obtain ⟨R, hR⟩ : ∃ R, Sort.partitionEqual ltZ d a B pv = R := ⟨_, rfl⟩
  rw [hR]
  unfold Sort.partitionEqual at hR
  rw [show B - 1 = b by omega] at hR
  have HR0 := Lib.hid hR
  have z0 : (B : Int) - 1 = (b : Int) := by omega
  obtain ⟨cp, fp⟩ := h.at_ pv (by omega)
  obtain ⟨ca, fa⟩ := h.at_ a (by omega)
  have HSQ := Lib.hid ((h.swap a pv).below (below_drew (Below.refl _ _)))
  obtain ⟨x, hx⟩ : ∃ x, d[pv]! = x := ⟨_, rfl⟩
  obtain ⟨y, hy⟩ : ∃ y, d[a]! = y := ⟨_, rfl⟩
  rw [hx, hy] at HSQ
  rw [hx] at cp
  rw [hy] at ca
  have HTQ := Lib.hid ((((Tn.refl (fun k => k = g) W).put g a (.int .u64 x) (.inl rfl)).put g pv (.int .u64 y) (.inl rfl)).drew)
  clear h hR hx hy
  go_enter Try.func94, Try.ntmps94
  go_upto_region 1 with fail
  go_region
  obtain ⟨w1, hw1⟩ : ∃ w1, ((W.setCell ⟨g, a, none⟩ (.int .u64 x)).setCell ⟨g, pv, none⟩ (.int .u64 y)).drew = w1 := ⟨_, rfl⟩
  rw [hw1] at HSQ HTQ ⊢
  clear hw1 cp ca fp fa
  go_wp2
  go_loopw [9, 10] (fun iv jv wr => ∃ (i j : Nat) (e : Array Int), iv = .int .i64 i ∧ jv = .int .i64 j ∧ a + 1 ≤ i ∧ i ≤ j + 2 ∧ j ≤ b ∧ Hid (SR wr g n c e) ∧ Hid (Tn (fun k => k = g) W wr) ∧ Hid (Sort.partEqLoop ltZ a i j e = R)) (fun iv jv _ => (intOf jv).toNat + 2 - (intOf iv).toNat)
  case atStart => exact ⟨a + 1, b, _, by go_num, rfl, by omega, by omega, by omega, HSQ, HTQ, HR0⟩
  case round =>
    obtain ⟨i, j, e, rfl, rfl, hai, hij, hjb, HR, HT, HO⟩ := hrel
    obtain ⟨P, hP⟩ : ∃ P, e[a]! = P := ⟨_, rfl⟩
    obtain ⟨I2, hI2⟩ : ∃ I, Sort.scanUp (fun x => !ltZ P x) e j i = I := ⟨_, rfl⟩
    obtain ⟨J2, hJ2⟩ : ∃ J, Sort.scanDown (fun x => ltZ P x) e I2 j = J := ⟨_, rfl⟩
    have ho := HO.out
    rw [Sort.partEqLoop] at ho
    simp only [hP, hI2, hJ2] at ho
    have HI2 := Lib.hid hI2
    have HJ2 := Lib.hid hJ2
    have HO2 := Lib.hid ho
    have HPP := Lib.hid hP
    have hb1 := scanUp_ge (fun x => !ltZ P x) e j i
    have hb2 := scanDown_le (fun x => ltZ P x) e I2 j
    rw [hI2] at hb1
    rw [hJ2] at hb2
    obtain ⟨wo, hwo⟩ : ∃ w, w = wr := ⟨_, rfl⟩
    subst hwo
    clear ho HO hI2 hJ2
    go_upto_block 2 with fail
    go_cut [9] (fun s9 wx => s9 = .int .i64 I2 ∧ Hid (SR wx g n c e) ∧ Hid (Tn (fun k => k = g) W wx))
    case first =>
      go_wp2_with fail
      go_loopw [9] (fun iv wr => ∃ i' : Nat, iv = .int .i64 i' ∧ i ≤ i' ∧ (i' ≤ j + 1 ∨ i' = i) ∧ Hid (SR wr g n c e) ∧ Hid (Tn (fun k => k = g) W wr) ∧ Hid (Sort.scanUp (fun x => !ltZ P x) e j i' = I2)) (fun iv _ => j + 2 - (intOf iv).toNat)
      case atStart => exact ⟨i, rfl, by omega, by omega, HR, HT, HI2⟩
      case round =>
        obtain ⟨i', rfl, h1, h2, HRi, HTi, HIi⟩ := hrel
        have hst := HIi.out
        rw [scanUp_step] at hst
        have HS1 := Lib.hid (fun u : Nat => HRi.out.below (pw_below_drewN (Below.refl _ _) u))
        have HT1 := Lib.hid (fun u : Nat => HTi.out.bel (pw_below_drewN (Below.refl _ _) u))
        by_cases hij' : i' ≤ j
        · obtain ⟨ca, -⟩ := HRi.out.at_ a (by omega)
          obtain ⟨ci, -⟩ := HRi.out.at_ i' (by omega)
          rw [HPP.out] at ca
          obtain ⟨v, hv⟩ : ∃ v, e[i']! = v := ⟨_, rfl⟩
          rw [hv] at ci hst
          have hg : decide ((i' : Int) ≤ (j : Int)) = true := decide_eq_true (by omega)
          have HLs := Lib.hid (fun w : World => less_any P v w)
          cases hl : ltZ P v with
          | false =>
            rw [hl] at hst HLs
            rw [if_pos ⟨hij', rfl⟩] at hst
            have HIN := Lib.hid hst
            clear hst hl hv
            go_wp2_with fail
            go_quiet ((go_at_call 93; exact Calls.quiet_of_same (HLs.out _)))
            go_wp2_with fail
            go_roundw
            case rel => exact ⟨i' + 1, by go_num, by omega, by omega, Lib.hid (HS1.out _), Lib.hid (HT1.out _), HIN⟩
            case measure => simp [intOf]; omega
          | true =>
            rw [hl] at hst HLs
            rw [if_neg (by simp)] at hst
            have HIN := Lib.hid hst
            clear hst hl hv
            go_wp2_with fail
            go_quiet ((go_at_call 93; exact Calls.quiet_of_same (HLs.out _)))
            go_wp2_with fail
            go_meet
            exact ⟨by rw [HIN.out], Lib.hid (HS1.out _), Lib.hid (HT1.out _)⟩
        · have hg : decide ((i' : Int) ≤ (j : Int)) = false := decide_eq_false (by omega)
          rw [if_neg (fun h => hij' h.1)] at hst
          have HIN := Lib.hid hst
          clear hst
          go_wp2_with fail
          go_quiet (fail)
          go_wp2_with fail
          go_meet
          exact ⟨by rw [HIN.out], Lib.hid (HS1.out _), Lib.hid (HT1.out _)⟩
    case rest =>
      obtain ⟨rfl, HRc, HTc⟩ := hcut
      obtain ⟨w2, hw2⟩ : ∃ w2, w2 = wc := ⟨_, rfl⟩
      subst hw2
      have hI1 : 1 ≤ I2 := by omega
      go_upto_block 4 with fail
      go_cut [10] (fun s10 wx => s10 = .int .i64 J2 ∧ Hid (SR wx g n c e) ∧ Hid (Tn (fun k => k = g) W wx))
      case first =>
        go_wp2_with fail
        go_loopw [10] (fun jv wr => ∃ j' : Nat, jv = .int .i64 j' ∧ j' ≤ j ∧ Hid (SR wr g n c e) ∧ Hid (Tn (fun k => k = g) W wr) ∧ Hid (Sort.scanDown (fun x => ltZ P x) e I2 j' = J2)) (fun jv _ => (intOf jv).toNat)
        case atStart => exact ⟨j, rfl, by omega, HRc, HTc, HJ2⟩
        case round =>
          obtain ⟨j', rfl, h1, HRi, HTi, HIi⟩ := hrel
          have hst := HIi.out
          unfold Sort.scanDown at hst
          have HS1 := Lib.hid (fun u : Nat => HRi.out.below (pw_below_drewN (Below.refl _ _) u))
          have HT1 := Lib.hid (fun u : Nat => HTi.out.bel (pw_below_drewN (Below.refl _ _) u))
          cases j' with
          | zero =>
            have HIN := Lib.hid (show 0 = J2 from hst)
            have hg : decide ((I2 : Int) ≤ ((0 : Nat) : Int)) = false := decide_eq_false (by omega)
            have hg2 : decide ((I2 : Int) ≤ 0) = false := decide_eq_false (by omega)
            have hg3 : decide (I2 = 0) = false := decide_eq_false (by omega)
            have hg4 : ¬ I2 = 0 := by omega
            clear hst
            go_wp2_with fail
            go_quiet (fail)
            go_wp2_with fail
            go_meet
            exact ⟨by rw [← HIN.out], Lib.hid (HS1.out _), Lib.hid (HT1.out _)⟩
          | succ k =>
            dsimp only at hst
            have hwk : IntKind.i64.wrap (((k : Int) + 1) - 1) = (k : Int) := by unfold IntKind.wrap; simp [IntKind.bits, IntKind.signed]; omega
            by_cases hij' : I2 ≤ k + 1
            · obtain ⟨ca, -⟩ := HRi.out.at_ a (by omega)
              obtain ⟨ci, -⟩ := HRi.out.at_ (k + 1) (by omega)
              rw [HPP.out] at ca
              obtain ⟨v, hv⟩ : ∃ v, e[k + 1]! = v := ⟨_, rfl⟩
              rw [hv] at ci hst
              have hg : decide ((I2 : Int) ≤ (k : Int) + 1) = true := decide_eq_true (by omega)
              have HLs := Lib.hid (fun w : World => less_any P v w)
              cases hl : ltZ P v with
              | true =>
                rw [hl] at hst HLs
                rw [if_pos (by simp; omega)] at hst
                have HIN := Lib.hid hst
                clear hst hl hv
                go_wp2_with fail
                go_quiet ((go_at_call 93; exact Calls.quiet_of_same (HLs.out _)))
                go_wp2_with fail
                go_roundw
                case rel => exact ⟨k, by go_num, by omega, Lib.hid (HS1.out _), Lib.hid (HT1.out _), HIN⟩
                case measure => simp [intOf]
              | false =>
                rw [hl] at hst HLs
                rw [if_neg (by simp)] at hst
                have HIN := Lib.hid hst
                clear hst hl hv
                go_wp2_with fail
                go_quiet ((go_at_call 93; exact Calls.quiet_of_same (HLs.out _)))
                go_wp2_with fail
                go_meet
                exact ⟨by first | (rw [← HIN.out]; done) | (rw [← HIN.out]; rfl), Lib.hid (HS1.out _), Lib.hid (HT1.out _)⟩
            · have hg : decide ((I2 : Int) ≤ (k : Int) + 1) = false := decide_eq_false (by omega)
              rw [if_neg (by simp; omega)] at hst
              have HIN := Lib.hid hst
              clear hst
              go_wp2_with fail
              go_quiet (fail)
              go_wp2_with fail
              go_meet
              exact ⟨by first | (rw [← HIN.out]; done) | (rw [← HIN.out]; rfl), Lib.hid (HS1.out _), Lib.hid (HT1.out _)⟩
      case rest =>
        obtain ⟨rfl, HRd, HTd⟩ := hcut
        by_cases hgt : I2 > J2
        · have HF := Lib.hid (show (I2, e) = R from by have h := HO2.out; rw [if_pos hgt] at h; exact h)
          go_wp2
          go_ret
          exact ⟨by first | (rw [← HF.out]; done) | (rw [← HF.out]; rfl), by rw [← HF.out]; exact HRd.out, HTd.out⟩
        · have hjj : J2 ≤ j := hb2.1
          have hii : i ≤ I2 := hb1.1
          have HNX := Lib.hid (show Sort.partEqLoop ltZ a (I2 + 1) (J2 - 1) (Sort.swp e I2 J2) = R from by have h := HO2.out; rw [if_neg hgt, dif_pos (by omega)] at h; exact h)
          have hj1 : ((J2 - 1 : Nat) : Int) = (J2 : Int) - 1 := by omega
          obtain ⟨cj, fj⟩ := HRd.out.at_ J2 (by omega)
          obtain ⟨ci, fi⟩ := HRd.out.at_ I2 (by omega)
          have HSQ2 := Lib.hid ((HRd.out.swap I2 J2).below (below_drew (Below.refl _ _)))
          obtain ⟨u, hu⟩ : ∃ u, e[J2]! = u := ⟨_, rfl⟩
          obtain ⟨v, hv⟩ : ∃ v, e[I2]! = v := ⟨_, rfl⟩
          rw [hu, hv] at HSQ2
          rw [hu] at cj
          rw [hv] at ci
          have HTQ2 := Lib.hid (((HTd.out.put g I2 (.int .u64 u) (.inl rfl)).put g J2 (.int .u64 v) (.inl rfl)).drew)
          have hle : I2 ≤ J2 := by omega
          by_cases heq : I2 = J2
          · subst heq
            obtain rfl : u = v := by rw [← hu, ← hv]
            clear hu hv
            go_upto_region 8 with fail
            go_region
            go_wp2
            go_roundw
            case rel => exact ⟨I2 + 1, I2 - 1, Sort.swp e I2 I2, by go_num, by rw [hj1], by omega, by omega, by omega, HSQ2, HTQ2, HNX⟩
            case measure => simp [intOf]; omega
          · clear hu hv
            go_upto_region 8 with fail
            go_region
            go_wp2
            go_roundw
            case rel => exact ⟨I2 + 1, J2 - 1, Sort.swp e I2 J2, by go_num, by rw [hj1], by omega, by omega, by omega, HSQ2, HTQ2, HNX⟩
            case measure => simp [intOf]; omega
end
end Go.Proofs.Ytmbhicjjbgbneaa
