/- Sorting whole numbers of 64 bits: partition. -/
import Derived.Test.YtmbhicjjbgbneaaSuH
namespace Go.Proofs.Ytmbhicjjbgbneaa
open Go.RowKit Go.Shelf Go.Proofs.YtmbhicjjbgbneaaW.PrintWords Go.Proofs.YtmbhicjjbgbneaaW.PrintLast Go.Proofs.YtmbhicjjbgbneaaW.PrintMore
set_option linter.unusedVariables false
set_option linter.unusedSimpArgs false
set_option maxRecDepth 100000
theorem scanUp_stop (p : Int → Bool) (d : Array Int) (j i : Nat) : Sort.scanUp p d j i ≤ j → p d[Sort.scanUp p d j i]! = false := by
  fun_induction Sort.scanUp p d j i with
  | case1 i h ih => exact ih
  | case2 i h => intro h2; simp at h; exact h h2
theorem scanDown_stop (p : Int → Bool) (d : Array Int) (i j : Nat) (hi : 1 ≤ i) : i ≤ Sort.scanDown p d i j → p d[Sort.scanDown p d i j]! = false := by
  induction j with
  | zero => intro h; unfold Sort.scanDown at h; omega
  | succ j ih =>
    unfold Sort.scanDown
    split
    · exact ih
    · rename_i h
      intro h2
      simp at h
      exact h h2
section
variable {W W' : World} {g n c : Nat} {d : Array Int}
set_option maxHeartbeats 4000000 in
/-- partition, for a pivot that is not the first. -/
theorem su_part (h : SR W g n c d) (a b B pv : Nat) (hB : b + 1 = B) (hne : a ≠ pv) (ha : a ≤ pv) (hpv : pv < B) (hb : B ≤ n) (hn : n ≤ 1000) : Calls Try.prog 95 #[.slice (some ⟨g, 0, none⟩) n c, .int .i64 a, .int .i64 B, .int .i64 pv] W fun e w' => e = .returned (.tuple #[.int .i64 (Sort.partition ltZ d a B pv).1, .bool (Sort.partition ltZ d a B pv).2.1]) ∧ SR w' g n c (Sort.partition ltZ d a B pv).2.2 ∧ Tn (fun k => k = g) W w' := by
  obtain ⟨R, hR⟩ : ∃ R, Sort.partition ltZ d a B pv = R := ⟨_, rfl⟩
  rw [hR]
  unfold Sort.partition at hR
  dsimp only at hR
  rw [show B - 1 = b by omega] at hR
  have z0 : (B : Int) - 1 = (b : Int) := by omega
  have HH := Lib.hid h
  have HT0 := Lib.hid (Tn.refl (fun k => k = g) W)
  obtain ⟨cq_, fq_⟩ := HH.out.at_ pv (by omega)
  obtain ⟨cp_, fp_⟩ := HH.out.at_ a (by omega)
  have HSQ := Lib.hid ((HH.out.swap a pv).below (below_drew (Below.refl _ _)))
  obtain ⟨x, hx_⟩ : ∃ x, d[pv]! = x := ⟨_, rfl⟩
  obtain ⟨y, hy_⟩ : ∃ y, d[a]! = y := ⟨_, rfl⟩
  rw [hx_, hy_] at HSQ
  rw [hx_] at cq_
  rw [hy_] at cp_
  have HTQ := Lib.hid (((HT0.out.put g a (.int .u64 x) (.inl rfl)).put g pv (.int .u64 y) (.inl rfl)).drew)
  obtain ⟨e, he⟩ : ∃ e, Sort.swp d a pv = e := ⟨_, rfl⟩
  rw [he] at hR HSQ
  obtain ⟨P, hP⟩ : ∃ P, e[a]! = P := ⟨_, rfl⟩
  rw [hP] at hR
  have HPP := Lib.hid hP
  obtain ⟨I1, hI1⟩ : ∃ I, Sort.scanUp (fun x => ltZ x P) e b (a + 1) = I := ⟨_, rfl⟩
  rw [hI1] at hR
  obtain ⟨J1, hJ1⟩ : ∃ J, Sort.scanDown (fun x => !ltZ x P) e I1 b = J := ⟨_, rfl⟩
  rw [hJ1] at hR
  have HI1 := Lib.hid hI1
  have HJ1 := Lib.hid hJ1
  have hb1 := scanUp_ge (fun x => ltZ x P) e b (a + 1)
  have hb2 := scanDown_le (fun x => !ltZ x P) e I1 b
  rw [hI1] at hb1
  rw [hJ1] at hb2
  have HNE := Lib.hid (fun hle : I1 ≤ J1 => show I1 ≠ J1 from fun hq => by
    have s1 := scanUp_stop (fun x => ltZ x P) e b (a + 1)
    have s2 := scanDown_stop (fun x => !ltZ x P) e I1 b (by omega)
    rw [hI1] at s1
    rw [hJ1] at s2
    have s1 := s1 (by omega)
    have s2 := s2 (by omega)
    rw [hq] at s1
    rw [s1] at s2
    exact absurd s2 (by simp))
  have HR0 := Lib.hid hR
  clear h hR hx_ hy_ he hP hI1 hJ1
  go_enter Try.func95, Try.ntmps95
  go_upto_region 1 with fail
  go_region
  obtain ⟨w1, hw1⟩ : ∃ w1, ((W.setCell ⟨g, a, none⟩ (.int .u64 x)).setCell ⟨g, pv, none⟩ (.int .u64 y)).drew = w1 := ⟨_, rfl⟩
  rw [hw1] at HSQ HTQ ⊢
  clear hw1 cq_ cp_ fq_ fp_ HH HT0
  have hI1p : 1 ≤ I1 := by omega
  have hab : a + 1 ≤ b + 1 := by omega
  go_upto_block 0 with fail
  go_cut [10] (fun s9 wx => s9 = .int .i64 I1 ∧ Hid (SR wx g n c e) ∧ Hid (Tn (fun k => k = g) W wx))
  case first =>
    go_wp2_with fail
    go_loopw [10] (fun iv wr => ∃ i' : Nat, iv = .int .i64 i' ∧ (a + 1) ≤ i' ∧ (i' ≤ b + 1 ∨ i' = (a + 1)) ∧ Hid (SR wr g n c e) ∧ Hid (Tn (fun k => k = g) W wr) ∧ Hid (Sort.scanUp (fun x => ltZ x P) e b i' = I1)) (fun iv _ => b + 2 - (intOf iv).toNat)
    case atStart => exact ⟨(a + 1), by go_num, by omega, by omega, HSQ, HTQ, HI1⟩
    case round =>
      obtain ⟨i', rfl, h1, h2, HRi, HTi, HIi⟩ := hrel
      have hst := HIi.out
      rw [scanUp_step] at hst
      have HS1 := Lib.hid (fun u : Nat => HRi.out.below (pw_below_drewN (Below.refl _ _) u))
      have HT1 := Lib.hid (fun u : Nat => HTi.out.bel (pw_below_drewN (Below.refl _ _) u))
      by_cases hij' : i' ≤ b
      · obtain ⟨ca, -⟩ := HRi.out.at_ a (by omega)
        obtain ⟨ci, -⟩ := HRi.out.at_ i' (by omega)
        rw [HPP.out] at ca
        obtain ⟨v, hv⟩ : ∃ v, e[i']! = v := ⟨_, rfl⟩
        rw [hv] at ci hst
        have hg : decide ((i' : Int) ≤ (b : Int)) = true := decide_eq_true (by omega)
        have HLs := Lib.hid (fun w : World => less_any v P w)
        cases hl : ltZ v P with
        | true =>
          rw [hl] at hst HLs
          rw [if_pos ⟨hij', rfl⟩] at hst
          have HIN := Lib.hid hst
          clear hst hl hv
          go_wp2_with fail
          go_quiet ((go_at_call 93; exact Calls.quiet_of_same (HLs.out _)))
          go_wp2_with fail
          go_roundw
          case rel => exact ⟨i' + 1, by go_num, by omega, by omega, Lib.hid (HS1.out _), Lib.hid (HT1.out _), HIN⟩
          case measure => simp [intOf]; omega
        | false =>
          rw [hl] at hst HLs
          rw [if_neg (by simp)] at hst
          have HIN := Lib.hid hst
          clear hst hl hv
          go_wp2_with fail
          go_quiet ((go_at_call 93; exact Calls.quiet_of_same (HLs.out _)))
          go_wp2_with fail
          go_meet
          exact ⟨by rw [HIN.out], Lib.hid (HS1.out _), Lib.hid (HT1.out _)⟩
      · have hg : decide ((i' : Int) ≤ (b : Int)) = false := decide_eq_false (by omega)
        rw [if_neg (fun h => hij' h.1)] at hst
        have HIN := Lib.hid hst
        clear hst
        go_wp2_with fail
        go_quiet (fail)
        go_wp2_with fail
        go_meet
        exact ⟨by rw [HIN.out], Lib.hid (HS1.out _), Lib.hid (HT1.out _)⟩
  case rest =>
    obtain ⟨rfl, HRc, HTc⟩ := hcut
    obtain ⟨w2, hw2⟩ : ∃ w2, w2 = wc := ⟨_, rfl⟩
    subst hw2
    go_upto_block 2 with fail
    go_cut [11] (fun s9 wx => s9 = .int .i64 J1 ∧ Hid (SR wx g n c e) ∧ Hid (Tn (fun k => k = g) W wx))
    case first =>
      go_wp2_with fail
      go_loopw [11] (fun jv wr => ∃ j' : Nat, jv = .int .i64 j' ∧ j' ≤ b ∧ Hid (SR wr g n c e) ∧ Hid (Tn (fun k => k = g) W wr) ∧ Hid (Sort.scanDown (fun x => !ltZ x P) e I1 j' = J1)) (fun jv _ => (intOf jv).toNat)
      case atStart => exact ⟨b, by go_num, by omega, HRc, HTc, HJ1⟩
      case round =>
        obtain ⟨j', rfl, h1, HRi, HTi, HIi⟩ := hrel
        have hst := HIi.out
        unfold Sort.scanDown at hst
        have HS1 := Lib.hid (fun u : Nat => HRi.out.below (pw_below_drewN (Below.refl _ _) u))
        have HT1 := Lib.hid (fun u : Nat => HTi.out.bel (pw_below_drewN (Below.refl _ _) u))
        cases j' with
        | zero =>
          have HIN := Lib.hid (show 0 = J1 from hst)
          have hg : decide ((I1 : Int) ≤ ((0 : Nat) : Int)) = false := decide_eq_false (by omega)
          have hg2 : decide ((I1 : Int) ≤ 0) = false := decide_eq_false (by omega)
          have hg3 : decide (I1 = 0) = false := decide_eq_false (by omega)
          have hg4 : ¬ I1 = 0 := by omega
          clear hst
          go_wp2_with fail
          go_quiet (fail)
          go_wp2_with fail
          go_meet
          exact ⟨by rw [← HIN.out], Lib.hid (HS1.out _), Lib.hid (HT1.out _)⟩
        | succ k =>
          dsimp only at hst
          have hwk : IntKind.i64.wrap (((k : Int) + 1) - 1) = (k : Int) := by unfold IntKind.wrap; simp [IntKind.bits, IntKind.signed]; omega
          by_cases hij' : I1 ≤ k + 1
          · obtain ⟨ca, -⟩ := HRi.out.at_ a (by omega)
            obtain ⟨ci, -⟩ := HRi.out.at_ (k + 1) (by omega)
            rw [HPP.out] at ca
            obtain ⟨v, hv⟩ : ∃ v, e[k + 1]! = v := ⟨_, rfl⟩
            rw [hv] at ci hst
            have hg : decide ((I1 : Int) ≤ (k : Int) + 1) = true := decide_eq_true (by omega)
            have HLs := Lib.hid (fun w : World => less_any v P w)
            cases hl : ltZ v P with
            | false =>
              rw [hl] at hst HLs
              rw [if_pos (by simp; omega)] at hst
              have HIN := Lib.hid hst
              clear hst hl hv
              go_wp2_with fail
              go_quiet ((go_at_call 93; exact Calls.quiet_of_same (HLs.out _)))
              go_wp2_with fail
              go_roundw
              case rel => exact ⟨k, by go_num, by omega, Lib.hid (HS1.out _), Lib.hid (HT1.out _), HIN⟩
              case measure => simp [intOf]
            | true =>
              rw [hl] at hst HLs
              rw [if_neg (by simp)] at hst
              have HIN := Lib.hid hst
              clear hst hl hv
              go_wp2_with fail
              go_quiet ((go_at_call 93; exact Calls.quiet_of_same (HLs.out _)))
              go_wp2_with fail
              go_meet
              exact ⟨by first | (rw [← HIN.out]; done) | (rw [← HIN.out]; rfl), Lib.hid (HS1.out _), Lib.hid (HT1.out _)⟩
          · have hg : decide ((I1 : Int) ≤ (k : Int) + 1) = false := decide_eq_false (by omega)
            rw [if_neg (by simp; omega)] at hst
            have HIN := Lib.hid hst
            clear hst
            go_wp2_with fail
            go_quiet (fail)
            go_wp2_with fail
            go_meet
            exact ⟨by first | (rw [← HIN.out]; done) | (rw [← HIN.out]; rfl), Lib.hid (HS1.out _), Lib.hid (HT1.out _)⟩
    case rest =>
      obtain ⟨rfl, HRd, HTd⟩ := hcut
      obtain ⟨w3, hw3⟩ : ∃ w3, w3 = wc := ⟨_, rfl⟩
      subst hw3
      by_cases hgt : I1 > J1
      · have HF := Lib.hid (show (J1, true, Sort.swp e J1 a) = R from by have h := HR0.out; rw [if_pos hgt] at h; exact h)
        obtain ⟨cq_, fq_⟩ := HRd.out.at_ a (by omega)
        obtain ⟨cp_, fp_⟩ := HRd.out.at_ J1 (by omega)
        have HSQ2 := Lib.hid ((HRd.out.swap J1 a).below (below_drew (Below.refl _ _)))
        obtain ⟨u, hx_⟩ : ∃ x, e[a]! = x := ⟨_, rfl⟩
        obtain ⟨v, hy_⟩ : ∃ y, e[J1]! = y := ⟨_, rfl⟩
        rw [hx_, hy_] at HSQ2
        rw [hx_] at cq_
        rw [hy_] at cp_
        have HTQ2 := Lib.hid (((HTd.out.put g J1 (.int .u64 u) (.inl rfl)).put g a (.int .u64 v) (.inl rfl)).drew)
        by_cases heq : J1 = a
        · subst heq
          obtain rfl : u = v := by rw [← hx_, ← hy_]
          clear hx_ hy_
          go_upto_region 8 with fail
          go_region
          go_wp2
          go_ret2
          exact ⟨by first | (rw [← HF.out]; done) | (rw [← HF.out]; rfl), by rw [← HF.out]; exact HSQ2.out, HTQ2.out⟩
        · clear hx_ hy_
          go_upto_region 8 with fail
          go_region
          go_wp2
          go_ret2
          exact ⟨by first | (rw [← HF.out]; done) | (rw [← HF.out]; rfl), by rw [← HF.out]; exact HSQ2.out, HTQ2.out⟩
      · have hjj : J1 ≤ b := hb2.1
        have hii : a + 1 ≤ I1 := hb1.1
        have hne2 : I1 ≠ J1 := HNE.out (by omega)
        have HF := Lib.hid (show ((Sort.partLoop ltZ a (I1 + 1) (J1 - 1) (Sort.swp e I1 J1)).1, false, Sort.swp (Sort.partLoop ltZ a (I1 + 1) (J1 - 1) (Sort.swp e I1 J1)).2 (Sort.partLoop ltZ a (I1 + 1) (J1 - 1) (Sort.swp e I1 J1)).1 a) = R from by have h := HR0.out; rw [if_neg hgt] at h; exact h)
        have hj1 : ((J1 - 1 : Nat) : Int) = (J1 : Int) - 1 := by omega
        have hi1 : ((I1 + 1 : Nat) : Int) = (I1 : Int) + 1 := by omega
        obtain ⟨Q, hQ⟩ : ∃ Q, Sort.partLoop ltZ a (I1 + 1) (J1 - 1) (Sort.swp e I1 J1) = Q := ⟨_, rfl⟩
        rw [hQ] at HF
        have HQ := Lib.hid hQ
        clear hQ
        obtain ⟨cq_, fq_⟩ := HRd.out.at_ J1 (by omega)
        obtain ⟨cp_, fp_⟩ := HRd.out.at_ I1 (by omega)
        have HSQ2 := Lib.hid ((HRd.out.swap I1 J1).below (below_drew (Below.refl _ _)))
        obtain ⟨u, hx_⟩ : ∃ x, e[J1]! = x := ⟨_, rfl⟩
        obtain ⟨v, hy_⟩ : ∃ y, e[I1]! = y := ⟨_, rfl⟩
        rw [hx_, hy_] at HSQ2
        rw [hx_] at cq_
        rw [hy_] at cp_
        have HTQ2 := Lib.hid (((HTd.out.put g I1 (.int .u64 u) (.inl rfl)).put g J1 (.int .u64 v) (.inl rfl)).drew)
        clear hx_ hy_ HR0 HNE HPP HI1 HJ1 HSQ HTQ
        go_upto_region 10 with fail
        go_region
        obtain ⟨w4, hw4⟩ : ∃ w4, ((w3.setCell ⟨g, I1, none⟩ (.int .u64 u)).setCell ⟨g, J1, none⟩ (.int .u64 v)).drew = w4 := ⟨_, rfl⟩
        rw [hw4] at HSQ2 HTQ2 ⊢
        clear hw4 cq_ cp_ fq_ fp_ HRc HTc HRd HTd
        obtain ⟨f0, hf0⟩ : ∃ f0, Sort.swp e I1 J1 = f0 := ⟨_, rfl⟩
        rw [hf0] at HQ HSQ2
        clear hf0
        obtain ⟨Q1, Q2⟩ := Q
        dsimp only at HF
        go_upto_block 4 with fail
        go_cut [10, 11] (fun s10 s11 wx => (∃ z : Int, s10 = .int .i64 z) ∧ s11 = .int .i64 Q1 ∧ Q1 ≤ b ∧ Hid (SR wx g n c Q2) ∧ Hid (Tn (fun k => k = g) W wx))
        case first =>
          go_wp2_with fail
          go_loopw [10, 11] (fun iv jv wr => ∃ (i j : Nat) (e : Array Int), iv = .int .i64 i ∧ jv = .int .i64 j ∧ a + 1 ≤ i ∧ i ≤ j + 2 ∧ j ≤ b ∧ Hid (SR wr g n c e) ∧ Hid (Tn (fun k => k = g) W wr) ∧ Hid (Sort.partLoop ltZ a i j e = (Q1, Q2))) (fun iv jv _ => (intOf jv).toNat + 2 - (intOf iv).toNat)
          case atStart => exact ⟨I1 + 1, J1 - 1, f0, by go_num, by rw [hj1], by omega, by omega, by omega, HSQ2, HTQ2, HQ⟩
          case round =>
            obtain ⟨i, j, e, rfl, rfl, hai, hij, hjb, HR, HT, HO⟩ := hrel
            obtain ⟨P, hP⟩ : ∃ P, e[a]! = P := ⟨_, rfl⟩
            obtain ⟨I2, hI2⟩ : ∃ I, Sort.scanUp (fun x => ltZ x P) e j i = I := ⟨_, rfl⟩
            obtain ⟨J2, hJ2⟩ : ∃ J, Sort.scanDown (fun x => !ltZ x P) e I2 j = J := ⟨_, rfl⟩
            have ho := HO.out
            rw [Sort.partLoop] at ho
            simp only [hP, hI2, hJ2] at ho
            have HI2 := Lib.hid hI2
            have HJ2 := Lib.hid hJ2
            have HO2 := Lib.hid ho
            have HPP := Lib.hid hP
            have hb1 := scanUp_ge (fun x => ltZ x P) e j i
            have hb2 := scanDown_le (fun x => !ltZ x P) e I2 j
            rw [hI2] at hb1
            rw [hJ2] at hb2
            have HNE := Lib.hid (fun hle : I2 ≤ J2 => show I2 ≠ J2 from fun hq => by
              have s1 := scanUp_stop (fun x => ltZ x P) e j i
              have s2 := scanDown_stop (fun x => !ltZ x P) e I2 j (by omega)
              rw [hI2] at s1
              rw [hJ2] at s2
              have s1 := s1 (by omega)
              have s2 := s2 (by omega)
              rw [hq] at s1
              rw [s1] at s2
              exact absurd s2 (by simp))
            obtain ⟨wo, hwo⟩ : ∃ w, w = wr := ⟨_, rfl⟩
            subst hwo
            clear ho HO hI2 hJ2 hP
            go_upto_block 6 with fail
            go_cut [10] (fun s9 wx => s9 = .int .i64 I2 ∧ Hid (SR wx g n c e) ∧ Hid (Tn (fun k => k = g) W wx))
            case first =>
              go_wp2_with fail
              go_loopw [10] (fun iv wr => ∃ i' : Nat, iv = .int .i64 i' ∧ i ≤ i' ∧ (i' ≤ j + 1 ∨ i' = i) ∧ Hid (SR wr g n c e) ∧ Hid (Tn (fun k => k = g) W wr) ∧ Hid (Sort.scanUp (fun x => ltZ x P) e j i' = I2)) (fun iv _ => j + 2 - (intOf iv).toNat)
              case atStart => exact ⟨i, by go_num, by omega, by omega, HR, HT, HI2⟩
              case round =>
                obtain ⟨i', rfl, h1, h2, HRi, HTi, HIi⟩ := hrel
                have hst := HIi.out
                rw [scanUp_step] at hst
                have HS1 := Lib.hid (fun u : Nat => HRi.out.below (pw_below_drewN (Below.refl _ _) u))
                have HT1 := Lib.hid (fun u : Nat => HTi.out.bel (pw_below_drewN (Below.refl _ _) u))
                by_cases hij' : i' ≤ j
                · obtain ⟨ca, -⟩ := HRi.out.at_ a (by omega)
                  obtain ⟨ci, -⟩ := HRi.out.at_ i' (by omega)
                  rw [HPP.out] at ca
                  obtain ⟨v, hv⟩ : ∃ v, e[i']! = v := ⟨_, rfl⟩
                  rw [hv] at ci hst
                  have hg : decide ((i' : Int) ≤ (j : Int)) = true := decide_eq_true (by omega)
                  have HLs := Lib.hid (fun w : World => less_any v P w)
                  cases hl : ltZ v P with
                  | true =>
                    rw [hl] at hst HLs
                    rw [if_pos ⟨hij', rfl⟩] at hst
                    have HIN := Lib.hid hst
                    clear hst hl hv
                    go_wp2_with fail
                    go_quiet ((go_at_call 93; exact Calls.quiet_of_same (HLs.out _)))
                    go_wp2_with fail
                    go_roundw
                    case rel => exact ⟨i' + 1, by go_num, by omega, by omega, Lib.hid (HS1.out _), Lib.hid (HT1.out _), HIN⟩
                    case measure => simp [intOf]; omega
                  | false =>
                    rw [hl] at hst HLs
                    rw [if_neg (by simp)] at hst
                    have HIN := Lib.hid hst
                    clear hst hl hv
                    go_wp2_with fail
                    go_quiet ((go_at_call 93; exact Calls.quiet_of_same (HLs.out _)))
                    go_wp2_with fail
                    go_meet
                    exact ⟨by rw [HIN.out], Lib.hid (HS1.out _), Lib.hid (HT1.out _)⟩
                · have hg : decide ((i' : Int) ≤ (j : Int)) = false := decide_eq_false (by omega)
                  rw [if_neg (fun h => hij' h.1)] at hst
                  have HIN := Lib.hid hst
                  clear hst
                  go_wp2_with fail
                  go_quiet (fail)
                  go_wp2_with fail
                  go_meet
                  exact ⟨by rw [HIN.out], Lib.hid (HS1.out _), Lib.hid (HT1.out _)⟩
            case rest =>
              obtain ⟨rfl, HRc, HTc⟩ := hcut
              obtain ⟨w2, hw2⟩ : ∃ w2, w2 = wc := ⟨_, rfl⟩
              subst hw2
              have hI1 : 1 ≤ I2 := by omega
              go_upto_block 8 with fail
              go_cut [11] (fun s10 wx => s10 = .int .i64 J2 ∧ Hid (SR wx g n c e) ∧ Hid (Tn (fun k => k = g) W wx))
              case first =>
                go_wp2_with fail
                go_loopw [11] (fun jv wr => ∃ j' : Nat, jv = .int .i64 j' ∧ j' ≤ j ∧ Hid (SR wr g n c e) ∧ Hid (Tn (fun k => k = g) W wr) ∧ Hid (Sort.scanDown (fun x => !ltZ x P) e I2 j' = J2)) (fun jv _ => (intOf jv).toNat)
                case atStart => exact ⟨j, by go_num, by omega, HRc, HTc, HJ2⟩
                case round =>
                  obtain ⟨j', rfl, h1, HRi, HTi, HIi⟩ := hrel
                  have hst := HIi.out
                  unfold Sort.scanDown at hst
                  have HS1 := Lib.hid (fun u : Nat => HRi.out.below (pw_below_drewN (Below.refl _ _) u))
                  have HT1 := Lib.hid (fun u : Nat => HTi.out.bel (pw_below_drewN (Below.refl _ _) u))
                  cases j' with
                  | zero =>
                    have HIN := Lib.hid (show 0 = J2 from hst)
                    have hg : decide ((I2 : Int) ≤ ((0 : Nat) : Int)) = false := decide_eq_false (by omega)
                    have hg2 : decide ((I2 : Int) ≤ 0) = false := decide_eq_false (by omega)
                    have hg3 : decide (I2 = 0) = false := decide_eq_false (by omega)
                    have hg4 : ¬ I2 = 0 := by omega
                    clear hst
                    go_wp2_with fail
                    go_quiet (fail)
                    go_wp2_with fail
                    go_meet
                    exact ⟨by rw [← HIN.out], Lib.hid (HS1.out _), Lib.hid (HT1.out _)⟩
                  | succ k =>
                    dsimp only at hst
                    have hwk : IntKind.i64.wrap (((k : Int) + 1) - 1) = (k : Int) := by unfold IntKind.wrap; simp [IntKind.bits, IntKind.signed]; omega
                    by_cases hij' : I2 ≤ k + 1
                    · obtain ⟨ca, -⟩ := HRi.out.at_ a (by omega)
                      obtain ⟨ci, -⟩ := HRi.out.at_ (k + 1) (by omega)
                      rw [HPP.out] at ca
                      obtain ⟨v, hv⟩ : ∃ v, e[k + 1]! = v := ⟨_, rfl⟩
                      rw [hv] at ci hst
                      have hg : decide ((I2 : Int) ≤ (k : Int) + 1) = true := decide_eq_true (by omega)
                      have HLs := Lib.hid (fun w : World => less_any v P w)
                      cases hl : ltZ v P with
                      | false =>
                        rw [hl] at hst HLs
                        rw [if_pos (by simp; omega)] at hst
                        have HIN := Lib.hid hst
                        clear hst hl hv
                        go_wp2_with fail
                        go_quiet ((go_at_call 93; exact Calls.quiet_of_same (HLs.out _)))
                        go_wp2_with fail
                        go_roundw
                        case rel => exact ⟨k, by go_num, by omega, Lib.hid (HS1.out _), Lib.hid (HT1.out _), HIN⟩
                        case measure => simp [intOf]
                      | true =>
                        rw [hl] at hst HLs
                        rw [if_neg (by simp)] at hst
                        have HIN := Lib.hid hst
                        clear hst hl hv
                        go_wp2_with fail
                        go_quiet ((go_at_call 93; exact Calls.quiet_of_same (HLs.out _)))
                        go_wp2_with fail
                        go_meet
                        exact ⟨by first | (rw [← HIN.out]; done) | (rw [← HIN.out]; rfl), Lib.hid (HS1.out _), Lib.hid (HT1.out _)⟩
                    · have hg : decide ((I2 : Int) ≤ (k : Int) + 1) = false := decide_eq_false (by omega)
                      rw [if_neg (by simp; omega)] at hst
                      have HIN := Lib.hid hst
                      clear hst
                      go_wp2_with fail
                      go_quiet (fail)
                      go_wp2_with fail
                      go_meet
                      exact ⟨by first | (rw [← HIN.out]; done) | (rw [← HIN.out]; rfl), Lib.hid (HS1.out _), Lib.hid (HT1.out _)⟩
              case rest =>
                obtain ⟨rfl, HRd, HTd⟩ := hcut
                by_cases hgt : I2 > J2
                · have HF2 := Lib.hid (show J2 = Q1 ∧ e = Q2 from by have h := HO2.out; rw [if_pos hgt] at h; simpa using h)
                  have hjj : J2 ≤ b := by omega
                  go_wp2_with fail
                  go_meet
                  exact ⟨⟨_, rfl⟩, by rw [HF2.out.1], by rw [← HF2.out.1]; exact hjj, by rw [← HF2.out.2]; exact HRd, HTd⟩
                · have hjj : J2 ≤ j := hb2.1
                  have hii : i ≤ I2 := hb1.1
                  have hne2 : I2 ≠ J2 := HNE.out (by omega)
                  have HNX := Lib.hid (show Sort.partLoop ltZ a (I2 + 1) (J2 - 1) (Sort.swp e I2 J2) = (Q1, Q2) from by have h := HO2.out; rw [if_neg hgt, dif_pos (by omega)] at h; exact h)
                  have hj1 : ((J2 - 1 : Nat) : Int) = (J2 : Int) - 1 := by omega
                  obtain ⟨cq_, fq_⟩ := HRd.out.at_ J2 (by omega)
                  obtain ⟨cp_, fp_⟩ := HRd.out.at_ I2 (by omega)
                  have HSQ2 := Lib.hid ((HRd.out.swap I2 J2).below (below_drew (Below.refl _ _)))
                  obtain ⟨u, hx_⟩ : ∃ x, e[J2]! = x := ⟨_, rfl⟩
                  obtain ⟨v, hy_⟩ : ∃ y, e[I2]! = y := ⟨_, rfl⟩
                  rw [hx_, hy_] at HSQ2
                  rw [hx_] at cq_
                  rw [hy_] at cp_
                  have HTQ2 := Lib.hid (((HTd.out.put g I2 (.int .u64 u) (.inl rfl)).put g J2 (.int .u64 v) (.inl rfl)).drew)
                  clear hx_ hy_
                  go_upto_region 18 with fail
                  go_region
                  go_wp2_with fail
                  go_roundw
                  case rel => exact ⟨I2 + 1, J2 - 1, Sort.swp e I2 J2, by go_num, by rw [hj1], by omega, by omega, by omega, HSQ2, HTQ2, HNX⟩
                  case measure => simp [intOf]; omega
        case rest =>
          obtain ⟨⟨z, rfl⟩, rfl, hQb, HRe, HTe⟩ := hcut
          obtain ⟨w5, hw5⟩ : ∃ w5, w5 = wc := ⟨_, rfl⟩
          subst hw5
          clear HSQ2 HTQ2
          obtain ⟨cq_, fq_⟩ := HRe.out.at_ a (by omega)
          obtain ⟨cp_, fp_⟩ := HRe.out.at_ Q1 (by omega)
          have HSQ2 := Lib.hid ((HRe.out.swap Q1 a).below (below_drew (Below.refl _ _)))
          obtain ⟨u1, hx_⟩ : ∃ x, Q2[a]! = x := ⟨_, rfl⟩
          obtain ⟨v1, hy_⟩ : ∃ y, Q2[Q1]! = y := ⟨_, rfl⟩
          rw [hx_, hy_] at HSQ2
          rw [hx_] at cq_
          rw [hy_] at cp_
          have HTQ2 := Lib.hid (((HTe.out.put g Q1 (.int .u64 u1) (.inl rfl)).put g a (.int .u64 v1) (.inl rfl)).drew)
          by_cases heq : Q1 = a
          · subst heq
            obtain rfl : u1 = v1 := by rw [← hx_, ← hy_]
            clear hx_ hy_
            go_upto_region 21 with fail
            go_region
            go_wp2
            go_ret2
            exact ⟨by first | (rw [← HF.out]; done) | (rw [← HF.out]; rfl), by rw [← HF.out]; exact HSQ2.out, HTQ2.out⟩
          · clear hx_ hy_
            go_upto_region 21 with fail
            go_region
            go_wp2
            go_ret2
            exact ⟨by first | (rw [← HF.out]; done) | (rw [← HF.out]; rfl), by rw [← HF.out]; exact HSQ2.out, HTQ2.out⟩
end
end Go.Proofs.Ytmbhicjjbgbneaa
