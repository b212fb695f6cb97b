/- Sorting whole numbers of 64 bits: partialInsertionSort. -/
import Derived.Test.YtmbhicjjbgbneaaSuI
namespace Go.Proofs.Ytmbhicjjbgbneaa
open Go.RowKit Go.Shelf Go.Proofs.YtmbhicjjbgbneaaW.PrintWords Go.Proofs.YtmbhicjjbgbneaaW.PrintLast Go.Proofs.YtmbhicjjbgbneaaW.PrintMore
set_option linter.unusedVariables false
set_option linter.unusedSimpArgs false
set_option maxRecDepth 100000
theorem scanSorted_step (d : Array Int) (b i : Nat) : Sort.scanSorted ltZ d b i = if i < b ∧ ltZ d[i]! d[i - 1]! = false then Sort.scanSorted ltZ d b (i + 1) else i := by
  rw [Sort.scanSorted]
  by_cases h : i < b ∧ ltZ d[i]! d[i - 1]! = false
  · rw [if_pos (by simp [h.1, h.2]), if_pos h]
  · rw [if_neg (by simpa using h), if_neg h]
theorem scanSorted_in (d : Array Int) (b i : Nat) : i ≤ Sort.scanSorted ltZ d b i ∧ (i ≤ b → Sort.scanSorted ltZ d b i ≤ b) := by
  fun_induction Sort.scanSorted ltZ d b i with
  | case1 i h ih => simp at h; omega
  | case2 i h => exact ⟨Nat.le_refl _, id⟩
theorem shiftUp_step (d : Array Int) (b j : Nat) : Sort.shiftUp ltZ b j d = if j < b ∧ ltZ d[j]! d[j - 1]! = true then Sort.shiftUp ltZ b (j + 1) (Sort.swp d j (j - 1)) else d := by
  rw [Sort.shiftUp]
  by_cases h : j < b
  · rw [if_pos h]
    cases hl : ltZ d[j]! d[j - 1]! with
    | true => rw [if_neg (by simp), if_pos ⟨h, rfl⟩]
    | false => rw [if_pos (by simp), if_neg (by simp)]
  · rw [if_neg h, if_neg (fun e => h e.1)]
section
variable {W W' : World} {g n c : Nat} {d : Array Int}
set_option maxHeartbeats 4000000 in
theorem su_partial (h : SR W g n c d) (a b : Nat) (hab : a + 1 ≤ b) (hb : b ≤ n) (hn : n ≤ 1000) : Calls Try.prog 92 #[.slice (some ⟨g, 0, none⟩) n c, .int .i64 a, .int .i64 b] W fun e w' => e = .returned (.bool (Sort.partialInsertionSort ltZ d a b).2) ∧ SR w' g n c (Sort.partialInsertionSort ltZ d a b).1 ∧ Tn (fun k => k = g) W w' := by
  obtain ⟨R, hR⟩ : ∃ R, Sort.partialInsertionSort ltZ d a b = R := ⟨_, rfl⟩
  rw [hR]
  unfold Sort.partialInsertionSort at hR
  have HR0 := Lib.hid hR
  have H := Lib.hid h
  clear h hR
  go_enter Try.func92, Try.ntmps92
  go_wp2
  go_loopw [7, 8, 9, 10] (fun iv sv v9 v10 wr => ∃ (i s : Nat) (e : Array Int) (u9 u10 : Value), u9 = v9 ∧ u10 = v10 ∧ iv = .int .i64 (i + 1 : Nat) ∧ sv = .int .i64 (5 - (s : Int)) ∧ s ≤ 5 ∧ a ≤ i ∧ i + 1 ≤ b ∧ Hid (SR wr g n c e) ∧ Hid (Tn (fun k => k = g) W wr) ∧ Hid (Sort.partialIns ltZ a b s (i + 1) e = R)) (fun _ sv _ _ _ => (5 - intOf sv).toNat)
  case atStart => exact ⟨a, 5, d, _, _, rfl, rfl, by go_num, by go_num, by omega, by omega, by omega, H, Lib.hid (Tn.refl _ _), HR0⟩
  case round =>
    obtain ⟨i, s, e, u9, u10, rfl, rfl, rfl, rfl, hs5, hai, hib, HR, HT, HO⟩ := hrel
    cases s with
    | zero =>
      have HF := Lib.hid (show (e, false) = R from HO.out)
      go_wp2
      go_ret
      exact ⟨by first | (rw [← HF.out]; done) | (rw [← HF.out]; rfl), by rw [← HF.out]; exact HR.out, HT.out⟩
    | succ s =>
      have ho := HO.out
      unfold Sort.partialIns at ho
      dsimp only at ho
      obtain ⟨I2, hI2⟩ : ∃ I, Sort.scanSorted ltZ e b (i + 1) = I := ⟨_, rfl⟩
      rw [hI2] at ho
      have HI2 := Lib.hid hI2
      have hb1 := scanSorted_in e b (i + 1)
      rw [hI2] at hb1
      obtain ⟨hb2, hb3⟩ := hb1
      have hb4 := hb3 hib
      have HO2 := Lib.hid ho
      obtain ⟨wo, hwo⟩ : ∃ w, w = wr := ⟨_, rfl⟩
      subst hwo
      clear ho HO hI2 hb3
      have hsc : (5 : Int) - ((s + 1 : Nat) : Int) = 4 - (s : Int) := by omega
      rw [hsc]
      go_upto_block 2 with fail
      go_cut [7] (fun s7 wx => s7 = .int .i64 I2 ∧ Hid (SR wx g n c e) ∧ Hid (Tn (fun k => k = g) W wx))
      case first =>
        go_wp2_with fail
        go_loopw [7] (fun iv wr => ∃ i' : Nat, iv = .int .i64 (i' + 1 : Nat) ∧ a ≤ i' ∧ (i' + 1 ≤ b) ∧ Hid (SR wr g n c e) ∧ Hid (Tn (fun k => k = g) W wr) ∧ Hid (Sort.scanSorted ltZ e b (i' + 1) = I2)) (fun iv _ => b + 1 - (intOf iv).toNat)
        case atStart => exact ⟨i, rfl, by omega, by omega, HR, HT, HI2⟩
        case round =>
          obtain ⟨i', rfl, h1, h2, HRi, HTi, HIi⟩ := hrel
          have hst := HIi.out
          rw [scanSorted_step, Nat.add_sub_cancel] at hst
          have HS1 := Lib.hid (fun u : Nat => HRi.out.below (pw_below_drewN (Below.refl _ _) u))
          have HT1 := Lib.hid (fun u : Nat => HTi.out.bel (pw_below_drewN (Below.refl _ _) u))
          have hcast : ((i' + 1 : Nat) : Int) = (i' : Int) + 1 := by omega
          rw [hcast]
          have hwk : IntKind.i64.wrap (((i' : Int) + 1) - 1) = (i' : Int) := by unfold IntKind.wrap; simp [IntKind.bits, IntKind.signed]; omega
          by_cases hij' : i' + 1 < b
          · obtain ⟨ca, -⟩ := HRi.out.at_ i' (by omega)
            obtain ⟨ci, -⟩ := HRi.out.at_ (i' + 1) (by omega)
            obtain ⟨v, hv⟩ : ∃ v, e[i' + 1]! = v := ⟨_, rfl⟩
            obtain ⟨u, hu⟩ : ∃ u, e[i']! = u := ⟨_, rfl⟩
            rw [hv] at ci hst
            rw [hu] at ca hst
            have hg : decide ((i' : Int) + 1 < (b : Int)) = true := decide_eq_true (by omega)
            have HLs := Lib.hid (fun w : World => less_any v u w)
            cases hl : ltZ v u with
            | false =>
              rw [hl] at hst HLs
              rw [if_pos ⟨hij', rfl⟩] at hst
              have HIN := Lib.hid hst
              clear hst hl hv hu hcast
              go_wp2_with fail
              go_quiet ((go_at_call 93; exact Calls.quiet_of_same (HLs.out _)))
              go_wp2_with fail
              go_roundw
              case rel => exact ⟨i' + 1, by go_num, by omega, by omega, Lib.hid (HS1.out _), Lib.hid (HT1.out _), HIN⟩
              case measure => simp [intOf]; omega
            | true =>
              rw [hl] at hst HLs
              rw [if_neg (by simp)] at hst
              have HIN := Lib.hid hst
              clear hst hl hv hu hcast
              go_wp2_with fail
              go_quiet ((go_at_call 93; exact Calls.quiet_of_same (HLs.out _)))
              go_wp2_with fail
              go_meet
              exact ⟨by first | (rw [← HIN.out]; done) | (rw [← HIN.out]; rfl) | (rw [← HIN.out]; go_num), Lib.hid (HS1.out _), Lib.hid (HT1.out _)⟩
          · have hg : decide ((i' : Int) + 1 < (b : Int)) = false := decide_eq_false (by omega)
            rw [if_neg (fun h => hij' h.1)] at hst
            have HIN := Lib.hid hst
            clear hst hcast
            go_wp2_with fail
            go_quiet (fail)
            go_wp2_with fail
            go_meet
            exact ⟨by first | (rw [← HIN.out]; done) | (rw [← HIN.out]; rfl) | (rw [← HIN.out]; go_num), Lib.hid (HS1.out _), Lib.hid (HT1.out _)⟩
      case rest =>
        obtain ⟨rfl, HRc, HTc⟩ := hcut
        by_cases heb : I2 = b
        · have HF := Lib.hid (show (e, true) = R from by have h := HO2.out; rw [if_pos heb] at h; exact h)
          go_wp2
          go_ret
          exact ⟨by first | (rw [← HF.out]; done) | (rw [← HF.out]; rfl), by rw [← HF.out]; exact HRc.out, HTc.out⟩
        · by_cases h50 : b - a < 50
          · have HF := Lib.hid (show (e, false) = R from by have h := HO2.out; rw [if_neg heb, if_pos h50] at h; exact h)
            have h50z : (b : Int) - (a : Int) < 50 := by omega
            go_wp2
            go_ret
            exact ⟨by first | (rw [← HF.out]; done) | (rw [← HF.out]; rfl), by rw [← HF.out]; exact HRc.out, HTc.out⟩
          · have ho := HO2.out
            rw [if_neg heb, if_neg h50] at ho
            have h50z : ¬ (b : Int) - (a : Int) < 50 := by omega
            obtain ⟨K, rfl⟩ : ∃ K, I2 = K + 1 := ⟨I2 - 1, by omega⟩
            obtain ⟨w3, hw3⟩ : ∃ w3, w3 = wc := ⟨_, rfl⟩
            subst hw3
            rw [Nat.add_sub_cancel] at ho
            obtain ⟨cq_, fq_⟩ := HRc.out.at_ K (by omega)
            obtain ⟨cp_, fp_⟩ := HRc.out.at_ (K + 1) (by omega)
            have HSQ := Lib.hid ((HRc.out.swap (K + 1) K).below (below_drew (Below.refl _ _)))
            obtain ⟨x, hx_⟩ : ∃ x, e[K]! = x := ⟨_, rfl⟩
            obtain ⟨y, hy_⟩ : ∃ y, e[(K + 1)]! = y := ⟨_, rfl⟩
            rw [hx_, hy_] at HSQ
            rw [hx_] at cq_
            rw [hy_] at cp_
            have HTQ := Lib.hid (((HTc.out.put g (K + 1) (.int .u64 x) (.inl rfl)).put g K (.int .u64 y) (.inl rfl)).drew)
            obtain ⟨e1, he1⟩ : ∃ e1, Sort.swp e (K + 1) K = e1 := ⟨_, rfl⟩
            rw [he1] at ho HSQ
            obtain ⟨E1, hE1⟩ : ∃ E1, (if K + 1 - a ≥ 2 then Sort.shiftDown ltZ K e1 else e1) = E1 := ⟨_, rfl⟩
            rw [hE1] at ho
            obtain ⟨E2, hE2⟩ : ∃ E2, (if b - (K + 1) ≥ 2 then Sort.shiftUp ltZ b (K + 1 + 1) E1 else E1) = E2 := ⟨_, rfl⟩
            rw [hE2] at ho
            have HN := Lib.hid ho
            have HE1 := Lib.hid hE1
            have HE2 := Lib.hid hE2
            have HR1 := HSQ
            have hKc : ((K + 1 : Nat) : Int) = (K : Int) + 1 := by omega
            clear ho hE1 hE2 he1 hx_ hy_ HO2 HI2
            rw [hKc]
            have hwK : IntKind.i64.wrap (((K : Int) + 1) - 1) = (K : Int) := by unfold IntKind.wrap; simp [IntKind.bits, IntKind.signed]; omega
            go_upto_region 11 with fail
            go_region
            obtain ⟨w4, hw4⟩ : ∃ w4, ((w3.setCell ⟨g, K + 1, none⟩ (.int .u64 x)).setCell ⟨g, K, none⟩ (.int .u64 y)).drew = w4 := ⟨_, rfl⟩
            rw [hw4] at HR1 HTQ ⊢
            clear hw4 cq_ cp_ fq_ fp_ HRc HTc HSQ
            go_upto_if 61 with fail
            go_cut [9] (fun s9 wx => Hid (SR wx g n c E1) ∧ Hid (Tn (fun k => k = g) W wx))
            case first =>
              by_cases h2 : K + 1 - a ≥ 2
              · have HE1 := Lib.hid (show Sort.shiftDown ltZ K e1 = E1 from by have h := HE1.out; rw [if_pos h2] at h; exact h)
                have h2z : (K : Int) + 1 - (a : Int) ≥ 2 := by omega
                go_wp2_with fail
                go_loopw [9] (fun jv wr => ∃ (j' : Nat) (f : Array Int), jv = .int .i64 j' ∧ j' ≤ K ∧ Hid (SR wr g n c f) ∧ Hid (Tn (fun k => k = g) W wr) ∧ Hid (Sort.shiftDown ltZ j' f = E1)) (fun jv _ => (intOf jv).toNat)
                case atStart => exact ⟨K, e1, by go_num, by omega, HR1, HTQ, HE1⟩
                case round =>
                  obtain ⟨j', f, rfl, hj, HRi, HTi, HIi⟩ := hrel
                  have HS1 := Lib.hid (fun u : Nat => HRi.out.below (pw_below_drewN (Below.refl _ _) u))
                  have HT1 := Lib.hid (fun u : Nat => HTi.out.bel (pw_below_drewN (Below.refl _ _) u))
                  cases j' with
                  | zero =>
                    have HIN := Lib.hid (show f = E1 from HIi.out)
                    go_wp2_with fail
                    go_meet
                    exact ⟨by rw [← HIN.out]; exact HRi, HTi⟩
                  | succ k =>
                    have hst := HIi.out
                    unfold Sort.shiftDown at hst
                    have hcast : ((k + 1 : Nat) : Int) = (k : Int) + 1 := by omega
                    rw [hcast]
                    have hwk : IntKind.i64.wrap (((k : Int) + 1) - 1) = (k : Int) := by unfold IntKind.wrap; simp [IntKind.bits, IntKind.signed]; omega
                    obtain ⟨cq, fq⟩ := HRi.out.at_ (k + 1) (by omega)
                    obtain ⟨cp, fp⟩ := HRi.out.at_ k (by omega)
                    obtain ⟨x, hx⟩ : ∃ x, f[k + 1]! = x := ⟨_, rfl⟩
                    obtain ⟨y, hy⟩ : ∃ y, f[k]! = y := ⟨_, rfl⟩
                    rw [hx, hy] at hst
                    rw [hx] at cq
                    rw [hy] at cp
                    have HLs := Lib.hid (fun w : World => less_any x y w)
                    cases hl : ltZ x y with
                    | true =>
                      rw [hl, if_neg (by simp)] at hst
                      rw [hl] at HLs
                      have HIN := Lib.hid hst
                      have HX := Lib.hid (And.intro hx hy)
                      clear hst hl hx hy hcast fq fp
                      go_wp2_with fail
                      go_quiet ((go_at_call 93; exact Calls.quiet_of_same (HLs.out _)))
                      obtain ⟨wq, hwq⟩ : ∃ wq, wr.drewN nq = wq := ⟨_, rfl⟩
                      have HSQ2 := Lib.hid (HS1.out nq)
                      have HTQ2 := Lib.hid (HT1.out nq)
                      rw [hwq] at HSQ2 HTQ2 ⊢
                      clear hwq HS1 HT1 cq cp
                      obtain ⟨cq, fq⟩ := HSQ2.out.at_ (k + 1) (by omega)
                      obtain ⟨cp, fp⟩ := HSQ2.out.at_ k (by omega)
                      have HSW := Lib.hid ((HSQ2.out.swap (k + 1) k).below (below_drew (Below.refl _ _)))
                      rw [HX.out.1] at cq HSW
                      rw [HX.out.2] at cp HSW
                      have HTW := Lib.hid (((HTQ2.out.put g (k + 1) (.int .u64 y) (.inl rfl)).put g k (.int .u64 x) (.inl rfl)).drew)
                      go_upto_region 17 with fail
                      go_region
                      go_wp2
                      go_roundw
                      case rel => exact ⟨k, Sort.swp f (k + 1) k, by go_num, by omega, HSW, HTW, HIN⟩
                      case measure => simp [intOf]
                    | false =>
                      rw [hl, if_pos (by simp)] at hst
                      rw [hl] at HLs
                      have HIN := Lib.hid hst
                      clear hst hl hx hy hcast
                      go_wp2_with fail
                      go_quiet ((go_at_call 93; exact Calls.quiet_of_same (HLs.out _)))
                      go_wp2_with fail
                      go_meet
                      exact ⟨by rw [← HIN.out]; exact Lib.hid (HS1.out _), Lib.hid (HT1.out _)⟩
              · have HE1 := Lib.hid (show e1 = E1 from by have h := HE1.out; rw [if_neg h2] at h; exact h)
                have h2z : ¬ (K : Int) + 1 - (a : Int) ≥ 2 := by omega
                go_wp2_with fail
                go_meet
                exact ⟨by rw [← HE1.out]; exact HR1, HTQ⟩
            case rest =>
              obtain ⟨HRc, HTc⟩ := hcut
              obtain ⟨I2, hI2⟩ : ∃ I2, K + 1 = I2 := ⟨_, rfl⟩
              rw [hI2] at HE2 HN
              obtain ⟨w5, hw5⟩ : ∃ w5, w5 = wc := ⟨_, rfl⟩
              subst hw5
              rw [show (K : Int) + 1 = (I2 : Int) by omega]
              have HI2E := Lib.hid hI2
              have hKI : K < I2 := by omega
              have hIb : I2 ≤ b := by omega
              by_cases h2 : b - I2 ≥ 2
              · have HE2 := Lib.hid (show Sort.shiftUp ltZ b (I2 + 1) E1 = E2 from by have h := HE2.out; rw [if_pos h2] at h; exact h)
                have h2z : (b : Int) - (I2 : Int) ≥ 2 := by omega
                clear hI2
                go_wp2_with fail
                go_loopw [10] (fun jv wr => ∃ (j' : Nat) (f : Array Int), jv = .int .i64 (j' + 1 : Nat) ∧ I2 ≤ j' ∧ j' < b ∧ Hid (SR wr g n c f) ∧ Hid (Tn (fun k => k = g) W wr) ∧ Hid (Sort.shiftUp ltZ b (j' + 1) f = E2)) (fun jv _ => b + 1 - (intOf jv).toNat)
                case atStart => exact ⟨I2, E1, by go_num, by omega, by omega, HRc, HTc, HE2⟩
                case round =>
                  obtain ⟨j', f, rfl, hj, hjb, HRi, HTi, HIi⟩ := hrel
                  have HS1 := Lib.hid (fun u : Nat => HRi.out.below (pw_below_drewN (Below.refl _ _) u))
                  have HT1 := Lib.hid (fun u : Nat => HTi.out.bel (pw_below_drewN (Below.refl _ _) u))
                  have hst := HIi.out
                  rw [shiftUp_step, Nat.add_sub_cancel] at hst
                  have hcast : ((j' + 1 : Nat) : Int) = (j' : Int) + 1 := by omega
                  rw [hcast]
                  have hwk : IntKind.i64.wrap (((j' : Int) + 1) - 1) = (j' : Int) := by unfold IntKind.wrap; simp [IntKind.bits, IntKind.signed]; omega
                  by_cases hlt : j' + 1 < b
                  · obtain ⟨cq, fq⟩ := HRi.out.at_ (j' + 1) (by omega)
                    obtain ⟨cp, fp⟩ := HRi.out.at_ j' (by omega)
                    obtain ⟨x, hx⟩ : ∃ x, f[j' + 1]! = x := ⟨_, rfl⟩
                    obtain ⟨y, hy⟩ : ∃ y, f[j']! = y := ⟨_, rfl⟩
                    rw [hx, hy] at hst
                    rw [hx] at cq
                    rw [hy] at cp
                    have HLs := Lib.hid (fun w : World => less_any x y w)
                    cases hl : ltZ x y with
                    | true =>
                      rw [hl, if_pos ⟨hlt, rfl⟩] at hst
                      rw [hl] at HLs
                      have HIN := Lib.hid hst
                      have HX := Lib.hid (And.intro hx hy)
                      clear hst hl hx hy hcast fq fp
                      go_wp2_with fail
                      go_quiet ((go_at_call 93; exact Calls.quiet_of_same (HLs.out _)))
                      obtain ⟨wq, hwq⟩ : ∃ wq, wr.drewN nq = wq := ⟨_, rfl⟩
                      have HSQ2 := Lib.hid (HS1.out nq)
                      have HTQ2 := Lib.hid (HT1.out nq)
                      rw [hwq] at HSQ2 HTQ2 ⊢
                      clear hwq HS1 HT1 cq cp
                      obtain ⟨cq, fq⟩ := HSQ2.out.at_ (j' + 1) (by omega)
                      obtain ⟨cp, fp⟩ := HSQ2.out.at_ j' (by omega)
                      have HSW := Lib.hid ((HSQ2.out.swap (j' + 1) j').below (below_drew (Below.refl _ _)))
                      rw [HX.out.1] at cq HSW
                      rw [HX.out.2] at cp HSW
                      have HTW := Lib.hid (((HTQ2.out.put g (j' + 1) (.int .u64 y) (.inl rfl)).put g j' (.int .u64 x) (.inl rfl)).drew)
                      go_upto_region 23 with fail
                      go_region
                      go_wp2
                      go_roundw
                      case rel => exact ⟨j' + 1, Sort.swp f (j' + 1) j', by go_num, by omega, by omega, HSW, HTW, HIN⟩
                      case measure => simp [intOf]; omega
                    | false =>
                      rw [hl, if_neg (by simp)] at hst
                      rw [hl] at HLs
                      have HIN := Lib.hid hst
                      clear hst hl hx hy hcast
                      go_wp2_with fail
                      go_quiet ((go_at_call 93; exact Calls.quiet_of_same (HLs.out _)))
                      go_wp2_with fail
                      go_roundw
                      case rel => exact ⟨K, s, E2, _, _, rfl, rfl, by have h := HI2E.out; go_num, by go_num, by omega, by omega, by omega, by rw [← HIN.out]; exact Lib.hid (HS1.out _), Lib.hid (HT1.out _), by rw [HI2E.out]; exact HN⟩
                      case measure => simp [intOf]; omega
                  · rw [if_neg (fun h => hlt h.1)] at hst
                    have HIN := Lib.hid hst
                    clear hst hcast
                    go_wp2_with fail
                    go_roundw
                    case rel => exact ⟨K, s, E2, _, _, rfl, rfl, by have h := HI2E.out; go_num, by go_num, by omega, by omega, by omega, by rw [← HIN.out]; exact HRi, HTi, by rw [HI2E.out]; exact HN⟩
                    case measure => simp [intOf]; omega
              · have HE2 := Lib.hid (show E1 = E2 from by have h := HE2.out; rw [if_neg h2] at h; exact h)
                have h2z : ¬ (b : Int) - (I2 : Int) ≥ 2 := by omega
                clear hI2
                go_wp2_with fail
                go_roundw
                case rel => exact ⟨K, s, E2, _, _, rfl, rfl, by have h := HI2E.out; go_num, by go_num, by omega, by omega, by omega, by rw [← HE2.out]; exact HRc, HTc, by rw [HI2E.out]; exact HN⟩
                case measure => simp [intOf]; omega
end
end Go.Proofs.Ytmbhicjjbgbneaa
