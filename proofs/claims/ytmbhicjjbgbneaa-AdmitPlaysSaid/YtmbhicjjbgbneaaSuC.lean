/- Sorting whole numbers of 64 bits: siftDown. -/
import Derived.Test.YtmbhicjjbgbneaaSuB
namespace Go.Proofs.Ytmbhicjjbgbneaa
open Go.RowKit Go.Shelf Go.Proofs.YtmbhicjjbgbneaaW.PrintWords Go.Proofs.YtmbhicjjbgbneaaW.PrintLast Go.Proofs.YtmbhicjjbgbneaaW.PrintMore
set_option linter.unusedVariables false
set_option linter.unusedSimpArgs false
set_option maxRecDepth 100000
section
variable {W W' : World} {g n c : Nat} {d : Array Int}
set_option maxHeartbeats 4000000 in
theorem su_sift (h : SR W g n c d) (lo hi first : Nat) (hb : first + hi ≤ n) (hn : n ≤ 1000) (hl : lo ≤ 1000) : Calls Try.prog 106 #[.slice (some ⟨g, 0, none⟩) n c, .int .i64 lo, .int .i64 hi, .int .i64 first] W fun e w' => e = .returned (.tuple #[]) ∧ SR w' g n c (Sort.siftDown ltZ hi first lo d) ∧ Tn (fun k => k = g) W w' := by
  have H := Lib.hid h
  obtain ⟨D, hD⟩ : ∃ D, Sort.siftDown ltZ hi first lo d = D := ⟨_, rfl⟩
  rw [hD]
  have HD := Lib.hid hD
  clear h hD
  go_enter Try.func106, Try.ntmps106
  go_wp2
  go_loopw [8] (fun rv wr => ∃ (r : Nat) (e : Array Int), rv = .int .i64 r ∧ r ≤ 1000 ∧ Hid (SR wr g n c e) ∧ Hid (Tn (fun k => k = g) W wr) ∧ Hid (Sort.siftDown ltZ hi first r e = D)) (fun rv _ => 2001 - (intOf rv).toNat)
  case atStart => exact ⟨lo, d, rfl, hl, H, Lib.hid (Tn.refl _ _), HD⟩
  case round =>
    obtain ⟨r, e, rfl, hr, HR, HT, HO⟩ := hrel
    obtain ⟨ch, hch⟩ : ∃ ch, 2 * r + 1 = ch := ⟨_, rfl⟩
    have hz : (2 : Int) * (r : Int) + 1 = (ch : Int) := by omega
    have ho := HO.out
    rw [Sort.siftDown] at ho
    rw [show 2 * r + 2 = ch + 1 by omega, hch] at ho
    have HCH := Lib.hid hch
    by_cases hge : ch ≥ hi
    · rw [dif_pos hge] at ho
      have HF := Lib.hid ho
      clear ho hch
      go_wp2
      go_end0
      exact ⟨rfl, HF.out ▸ HR.out, HT.out⟩
    · rw [dif_neg hge] at ho
      obtain ⟨p, hp⟩ : ∃ p, first + ch = p := ⟨_, rfl⟩
      obtain ⟨s, hs⟩ : ∃ s, first + r = s := ⟨_, rfl⟩
      rw [show first + (ch + 1) = p + 1 by omega, hp, hs] at ho
      obtain ⟨cp, -⟩ := HR.out.at_ p (by omega)
      obtain ⟨cs, -⟩ := HR.out.at_ s (by omega)
      obtain ⟨x, hx⟩ : ∃ x, e[p]! = x := ⟨_, rfl⟩
      obtain ⟨z, hzz⟩ : ∃ z, e[s]! = z := ⟨_, rfl⟩
      rw [hx] at cp ho
      rw [hzz] at cs ho
      have hp1 : (first : Int) + (ch : Int) = (p : Int) := by omega
      have hs1 : (first : Int) + (r : Int) = (s : Int) := by omega
      have hlt : ch < hi := by omega
      have HS1 := Lib.hid (fun u : Nat => HR.out.below (pw_below_drewN (Below.refl _ _) u))
      by_cases h1 : ch + 1 < hi
      · obtain ⟨cy, -⟩ := HR.out.at_ (p + 1) (by omega)
        obtain ⟨y, hy⟩ : ∃ y, e[p + 1]! = y := ⟨_, rfl⟩
        rw [hy] at cy ho
        have hg : decide ((ch : Int) + 1 < (hi : Int)) = true := decide_eq_true (by omega)
        have HLx := Lib.hid (fun w : World => less_any x y w)
        cases hxy : ltZ x y with
        | true =>
          rw [hxy] at ho HLx
          rw [if_pos (by simp; omega)] at ho
          rw [dif_pos h1] at ho
          clear hxy HO
          go_wp2_with fail
          go_quiet ((go_at_call 93; exact Calls.quiet_of_same (HLx.out _)))
          obtain ⟨w2, hw2⟩ : ∃ w2, wr.drewN nq = w2 := ⟨_, rfl⟩
          have HS2 := Lib.hid (HS1.out nq)
          have HT2 := Lib.hid (HT.out.bel (pw_below_drewN (Below.refl wr.heap.size wr) nq))
          rw [hw2] at HS2 HT2 ⊢
          clear hw2 HS1 HR HT
          have HU := Lib.hid (fun u : Nat => HS2.out.below (pw_below_drewN (Below.refl _ _) u))
          have HTU := Lib.hid (fun u : Nat => HT2.out.bel (pw_below_drewN (Below.refl w2.heap.size w2) u))
          obtain ⟨cq, fq⟩ := HS2.out.at_ (p + 1) (by omega)
          obtain ⟨cs2, fs2⟩ := HS2.out.at_ s (by omega)
          rw [hy] at cq
          rw [hzz] at cs2
          have hz3 : (first : Int) + ((ch : Int) + 1) = ((p : Int) + 1 : Int) := by omega
          have HLs := Lib.hid (fun w : World => less_any z y w)
          cases hzv : ltZ z y with
          | false =>
            rw [hzv] at ho HLs
            have HF := Lib.hid (show e = D from ho)
            clear ho hzv
            go_wp2_with fail
            go_quiet ((go_at_call 93; exact Calls.quiet_of_same (HLs.out _)))
            go_wp2_with fail
            (try simp only [Exit.inBlock, Exit.then]); refine bodyPost_ret (results_none rfl _ _ _) rfl ?_
            exact ⟨rfl, HF.out ▸ HU.out _, HTU.out _⟩
          | true =>
            rw [hzv] at ho HLs
            have HN2 := Lib.hid (show Sort.siftDown ltZ hi first (ch + 1) (Sort.swp e s (p + 1)) = D from ho)
            clear ho hzv
            go_wp2_with fail
            go_quiet ((go_at_call 93; exact Calls.quiet_of_same (HLs.out _)))
            obtain ⟨w4, hw4⟩ : ∃ w4, w2.drewN nq = w4 := ⟨_, rfl⟩
            have HS4 := Lib.hid (HU.out nq)
            have HT4 := Lib.hid (HTU.out nq)
            rw [hw4] at HS4 HT4 ⊢
            clear hw4 HU HTU HS2 HT2 cq fq cs2 fs2
            obtain ⟨cq, fq⟩ := HS4.out.at_ (p + 1) (by omega)
            obtain ⟨cs2, fs2⟩ := HS4.out.at_ s (by omega)
            rw [hy] at cq
            rw [hzz] at cs2
            have HSQ := Lib.hid (((HS4.out).swap s (p + 1)).below (below_drew (Below.refl _ _)))
            rw [hy, hzz] at HSQ
            have HTQ := Lib.hid (((HT4.out.put g s (.int .u64 y) (.inl rfl)).put g (p + 1) (.int .u64 z) (.inl rfl)).drew)
            have hsq : s ≠ p + 1 := by omega
            clear hx hzz
            go_upto_region 6 with fail
            go_region
            go_wp2
            go_roundw
            case rel => exact ⟨ch + 1, Sort.swp e s (p + 1), by go_num, by omega, HSQ, HTQ, HN2⟩
            case measure => simp [intOf]; omega
        | false =>
          rw [hxy] at ho HLx
          rw [if_neg (by simp)] at ho
          clear hxy HO
          go_wp2_with fail
          go_quiet ((go_at_call 93; exact Calls.quiet_of_same (HLx.out _)))
          obtain ⟨w2, hw2⟩ : ∃ w2, wr.drewN nq = w2 := ⟨_, rfl⟩
          have HS2 := Lib.hid (HS1.out nq)
          have HT2 := Lib.hid (HT.out.bel (pw_below_drewN (Below.refl wr.heap.size wr) nq))
          rw [hw2] at HS2 HT2 ⊢
          clear hw2 HS1 HR HT
          have HU := Lib.hid (fun u : Nat => HS2.out.below (pw_below_drewN (Below.refl _ _) u))
          have HTU := Lib.hid (fun u : Nat => HT2.out.bel (pw_below_drewN (Below.refl w2.heap.size w2) u))
          obtain ⟨cq, fq⟩ := HS2.out.at_ (p) (by omega)
          obtain ⟨cs2, fs2⟩ := HS2.out.at_ s (by omega)
          rw [hx] at cq
          rw [hzz] at cs2
          have hz3 : (first : Int) + ((ch : Int)) = ((p : Int) : Int) := by omega
          have HLs := Lib.hid (fun w : World => less_any z x w)
          cases hzv : ltZ z x with
          | false =>
            rw [hzv] at ho HLs
            have HF := Lib.hid (show e = D from ho)
            clear ho hzv
            go_wp2_with fail
            go_quiet ((go_at_call 93; exact Calls.quiet_of_same (HLs.out _)))
            go_wp2_with fail
            (try simp only [Exit.inBlock, Exit.then]); refine bodyPost_ret (results_none rfl _ _ _) rfl ?_
            exact ⟨rfl, HF.out ▸ HU.out _, HTU.out _⟩
          | true =>
            rw [hzv] at ho HLs
            have HN2 := Lib.hid (show Sort.siftDown ltZ hi first (ch) (Sort.swp e s (p)) = D from ho)
            clear ho hzv
            go_wp2_with fail
            go_quiet ((go_at_call 93; exact Calls.quiet_of_same (HLs.out _)))
            obtain ⟨w4, hw4⟩ : ∃ w4, w2.drewN nq = w4 := ⟨_, rfl⟩
            have HS4 := Lib.hid (HU.out nq)
            have HT4 := Lib.hid (HTU.out nq)
            rw [hw4] at HS4 HT4 ⊢
            clear hw4 HU HTU HS2 HT2 cq fq cs2 fs2
            obtain ⟨cq, fq⟩ := HS4.out.at_ (p) (by omega)
            obtain ⟨cs2, fs2⟩ := HS4.out.at_ s (by omega)
            rw [hx] at cq
            rw [hzz] at cs2
            have HSQ := Lib.hid (((HS4.out).swap s (p)).below (below_drew (Below.refl _ _)))
            rw [hx, hzz] at HSQ
            have HTQ := Lib.hid (((HT4.out.put g s (.int .u64 x) (.inl rfl)).put g (p) (.int .u64 z) (.inl rfl)).drew)
            have hsq : s ≠ p := by omega
            clear hx hzz
            go_upto_region 6 with fail
            go_region
            go_wp2
            go_roundw
            case rel => exact ⟨ch, Sort.swp e s (p), by go_num, by omega, HSQ, HTQ, HN2⟩
            case measure => simp [intOf]; omega
      · have hg : decide ((ch : Int) + 1 < (hi : Int)) = false := decide_eq_false (by omega)
        rw [if_neg (by simp; omega)] at ho
        clear HO
        go_wp2_with fail
        go_quiet (fail)
        obtain ⟨w2, hw2⟩ : ∃ w2, wr.drewN nq = w2 := ⟨_, rfl⟩
        have HS2 := Lib.hid (HS1.out nq)
        have HT2 := Lib.hid (HT.out.bel (pw_below_drewN (Below.refl wr.heap.size wr) nq))
        rw [hw2] at HS2 HT2 ⊢
        clear hw2 HS1 HR HT
        have HU := Lib.hid (fun u : Nat => HS2.out.below (pw_below_drewN (Below.refl _ _) u))
        have HTU := Lib.hid (fun u : Nat => HT2.out.bel (pw_below_drewN (Below.refl w2.heap.size w2) u))
        obtain ⟨cq, fq⟩ := HS2.out.at_ (p) (by omega)
        obtain ⟨cs2, fs2⟩ := HS2.out.at_ s (by omega)
        rw [hx] at cq
        rw [hzz] at cs2
        have hz3 : (first : Int) + ((ch : Int)) = ((p : Int) : Int) := by omega
        have HLs := Lib.hid (fun w : World => less_any z x w)
        cases hzv : ltZ z x with
        | false =>
          rw [hzv] at ho HLs
          have HF := Lib.hid (show e = D from ho)
          clear ho hzv
          go_wp2_with fail
          go_quiet ((go_at_call 93; exact Calls.quiet_of_same (HLs.out _)))
          go_wp2_with fail
          (try simp only [Exit.inBlock, Exit.then]); refine bodyPost_ret (results_none rfl _ _ _) rfl ?_
          exact ⟨rfl, HF.out ▸ HU.out _, HTU.out _⟩
        | true =>
          rw [hzv] at ho HLs
          have HN2 := Lib.hid (show Sort.siftDown ltZ hi first (ch) (Sort.swp e s (p)) = D from ho)
          clear ho hzv
          go_wp2_with fail
          go_quiet ((go_at_call 93; exact Calls.quiet_of_same (HLs.out _)))
          obtain ⟨w4, hw4⟩ : ∃ w4, w2.drewN nq = w4 := ⟨_, rfl⟩
          have HS4 := Lib.hid (HU.out nq)
          have HT4 := Lib.hid (HTU.out nq)
          rw [hw4] at HS4 HT4 ⊢
          clear hw4 HU HTU HS2 HT2 cq fq cs2 fs2
          obtain ⟨cq, fq⟩ := HS4.out.at_ (p) (by omega)
          obtain ⟨cs2, fs2⟩ := HS4.out.at_ s (by omega)
          rw [hx] at cq
          rw [hzz] at cs2
          have HSQ := Lib.hid (((HS4.out).swap s (p)).below (below_drew (Below.refl _ _)))
          rw [hx, hzz] at HSQ
          have HTQ := Lib.hid (((HT4.out.put g s (.int .u64 x) (.inl rfl)).put g (p) (.int .u64 z) (.inl rfl)).drew)
          have hsq : s ≠ p := by omega
          clear hx hzz
          go_upto_region 6 with fail
          go_region
          go_wp2
          go_roundw
          case rel => exact ⟨ch, Sort.swp e s (p), by go_num, by omega, HSQ, HTQ, HN2⟩
          case measure => simp [intOf]; omega
end
end Go.Proofs.Ytmbhicjjbgbneaa
