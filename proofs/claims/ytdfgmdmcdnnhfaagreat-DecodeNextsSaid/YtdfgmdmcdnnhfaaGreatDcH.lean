/- decode's Ref; law 12's far, same, alive. -/
import Derived.Test.YtdfgmdmcdnnhfaaGreatDcG
namespace Go.Proofs.YtdfgmdmcdnnhfaaGreat
open Go.RowKit Go.Shelf Go.Proofs.YtdfgmdmcdnnhfaaGreatW.PrintWords Go.Proofs.YtdfgmdmcdnnhfaaGreatW.PrintLast Go.Proofs.YtdfgmdmcdnnhfaaGreatW.PrintMore
set_option linter.unusedVariables false
set_option linter.unusedSimpArgs false
set_option maxRecDepth 100000
attribute [local go_sem] gb_max2 gb_min2 gb_max_two gb_min_two gb_max_three gb_min_three run_cfg1 run_cfg2 run_cfg3

set_option maxHeartbeats 1000000 in
theorem isame_any (A B : Option Addr) (c d : Nat) (xs ys : List Int) (W : World) (hx : (Kd.int .i64).C W A xs.length xs) (hy : (Kd.int .i64).C W B ys.length ys) (hc : xs.length ≤ c) (hd : ys.length ≤ d) (hn : xs.length ≤ 1000000) (hm : ys.length ≤ 1000000) :
    Calls Tryz.prog 11 #[.slice A xs.length c, .slice B ys.length d] W fun e w' => e = .returned (.bool (decide (xs = ys))) ∧ Drawn0 W w' := by
  by_cases hl : xs.length = ys.length
  · obtain ⟨n, hnn⟩ : ∃ n, xs.length = n := ⟨_, rfl⟩
    obtain ⟨r, hr⟩ : ∃ r, decide (xs = ys) = r := ⟨_, rfl⟩
    have HX := Lib.hid hx
    have HY := Lib.hid hy
    have HNX := Lib.hid hnn
    have HNY := Lib.hid (show ys.length = n by omega)
    have HR := Lib.hid hr
    rw [hr, ← hl, hnn]
    rw [← hl, hnn] at hd
    rw [hnn] at hc hn
    clear hx hy hl hnn hm hr
    go_enter Tryz.func11, Tryz.ntmps11
    go_wp2_with fail
    go_loopw [13] (fun s wr => ∃ i : Nat, s = .int .i64 i ∧ i ≤ n ∧ Hid (xs.take i = ys.take i) ∧ Drawn0 W wr) (fun s _ => n - (intOf s).toNat)
    case atStart => exact ⟨0, rfl, by omega, Lib.hid (by simp), Drawn0.refl _⟩
    case round =>
      obtain ⟨i, rfl, hi, hT, hdr⟩ := hrel
      have HDR := Lib.hid hdr
      clear hdr
      by_cases him : i < n
      · obtain ⟨b1, e1, q1⟩ := at_nat (Kd.C_below HX.out HDR.out.below) i (by rw [HNX.out]; exact him)
        obtain ⟨b2, e2, q2⟩ := at_nat (Kd.C_below HY.out HDR.out.below) i (by rw [HNY.out]; exact him)
        subst e1 e2
        obtain ⟨x, hxx⟩ : ∃ x, xs.getD i 0 = x := ⟨_, rfl⟩
        obtain ⟨y, hyy⟩ : ∃ y, ys.getD i 0 = y := ⟨_, rfl⟩
        rw [hxx] at q1
        rw [hyy] at q2
        have HXX := Lib.hid hxx
        have HYY := Lib.hid hyy
        clear hxx hyy
        by_cases hxy : x = y
        · subst hxy
          have z : (x != x) = false := by simp
          have HT2 := Lib.hid (take_snoc_eq xs ys i (by rw [HNX.out]; exact him) (by rw [HNY.out]; exact him) hT.out (by rw [HXX.out, HYY.out]))
          go_wp2_with fail
          go_quiet (fail)
          go_wp2_with fail
          go_roundw
          case rel => exact ⟨i + 1, by go_num, by omega, HT2, Drawn0.step HDR.out _⟩
          case measure => simp [intOf]; omega
        · have z : (x != y) = true := by simp [hxy]
          have HF := Lib.hid (show r = false by
            rw [← HR.out]; refine decide_eq_false ?_; intro h; subst h; exact hxy (by rw [← HXX.out, ← HYY.out]))
          clear hxy
          go_wp2_with fail
          go_quiet (fail)
          go_wp2_with fail
          go_ret
          exact ⟨by rw [HF.out]; rfl, Drawn0.step HDR.out _⟩
      · have HF := Lib.hid (show r = true by
          rw [← HR.out]; refine decide_eq_true ?_
          have h := hT.out
          rwa [List.take_of_length_le (by rw [HNX.out]; omega), List.take_of_length_le (by rw [HNY.out]; omega)] at h)
        go_wp2_with fail
        go_ret
        exact ⟨by rw [HF.out]; rfl, HDR.out⟩
  · have hf : decide (xs = ys) = false := decide_eq_false (fun h => hl (by rw [h]))
    rw [hf]
    obtain ⟨n, hnn⟩ : ∃ n, xs.length = n := ⟨_, rfl⟩
    obtain ⟨m, hmm⟩ : ∃ m, ys.length = m := ⟨_, rfl⟩
    rw [hnn] at hl hc hn ⊢
    rw [hmm] at hl hd hm ⊢
    have z : ((n : Int) != (m : Int)) = true := by simp; omega
    clear hx hy hnn hmm hf
    go_enter Tryz.func11, Tryz.ntmps11
    go_wp2_with fail
    go_ret
    exact ⟨rfl, Drawn0.refl _⟩
/-- What follows a prompt. -/
def dRef (c : Cfg) (sd : Int) (xs : List Int) (most : Int) : List Int := dOut c sd most.toNat (0 :: xs)
theorem dOut_take (c : Cfg) (sd : Int) (r k : Nat) (toks : List Int) (h : k ≤ r) : dOut c sd k toks = (dOut c sd r toks).take k := by
  induction k generalizing r toks with
  | zero => rfl
  | succ k ih =>
    obtain ⟨r, rfl⟩ : ∃ q, r = q + 1 := ⟨r - 1, by omega⟩
    rw [dOut_succ, dOut_succ]
    split
    · rfl
    · split
      · rfl
      · rw [List.take_succ_cons, ih r _ (by omega)]
theorem dRef_256 (c : Cfg) (sd : Int) (xs : List Int) (most : Int) (h : xs.length < 256) : (dOut c sd (most - 0).toNat (0 :: xs)).take (256 : Int).toNat = dRef c sd xs most := by
  unfold dRef
  rw [Int.sub_zero]
  have h1 := dOut_room c sd most.toNat (0 :: xs) (by rw [List.length_cons]; omega)
  exact List.take_of_length_le (by show _ ≤ 256; omega)
def RefY (W : World) (out : List Int) (e : Ending) (w' : World) : Prop := ∃ A k, e = .returned (.tuple #[.slice A out.length k, .int .i64 0]) ∧ Own w' W.heap.size 3 (.slice A out.length k) out ∧ Below W.heap.size W w'
def RefN (W : World) (e : Ending) (w' : World) : Prop := e = .returned (.tuple #[.slice none 0 0, .int .i64 1]) ∧ Below W.heap.size W w'
theorem startY_of {W : World} {p : Nat} {c : Cfg} {xs : List Int} {most : Int} {e : Ending} {w' : World} (hj : Jok c xs most) (h : StartR W p c xs [] most e w') : StartY W p c (0 :: xs) e w' := by
  unfold StartR at h
  have h1 := hj.1
  have h2 := hj.2.2.1
  rw [if_pos hj, if_neg (by simp; omega), if_neg (by simp), List.append_nil] at h
  exact h
theorem startN_of {W : World} {p : Nat} {c : Cfg} {xs ys : List Int} {most : Int} {e : Ending} {w' : World} (hj : ¬ Jok c xs most) (h : StartR W p c xs ys most e w') : FeedN 1 W e w' := by
  unfold StartR at h
  rw [if_neg hj] at h
  exact h
theorem C_nil0 (W : World) : (Kd.int .i64).C W none ([] : List Int).length [] := ⟨rfl, by simp, fun h => absurd h (by simp)⟩
theorem dref_no (W : World) (p : Nat) (c : Cfg) (hok : c.ok) (hMo : Mo W p c) (sd most : Int) (A : Option Addr) (ca : Nat) (xs : List Int) (hx : (Kd.int .i64).C W A xs.length xs) (hj : ¬ Jok c xs most) :
    Calls Tryz.prog 7 #[.pointer (some ⟨p, 0, none⟩), .agg #[.int .u64 sd, .slice A xs.length ca, .int .i64 most]] W (RefN W) := by
  have HJK := Lib.hid hj
  have HST := Lib.hid (fun (W' : World) (hb : Below W.heap.size W W') => (dstart_any W' p c hok (hMo.below hb) sd most A none ca 0 xs [] (Kd.C_below hx hb) (C_nil0 W')).mono (fun e w' h => startN_of hj h))
  obtain ⟨n, hn⟩ : ∃ n, xs.length = n := ⟨_, rfl⟩
  rw [hn] at HST ⊢
  have HB0 := Lib.hid (below_alloc (Below.refl W.heap.size W) (.cells #[.int .u64 sd, .slice A n ca, .int .i64 most] 27))
  unfold FeedN at HST
  unfold RefN
  clear hok hMo hx hj hn
  go_enter Tryz.func7, Tryz.ntmps7
  go_wp2_with fail
  refine (HST.out _ HB0.out).mono ?_
  rintro e w1 ⟨rfl, hb⟩
  have HB1 := Lib.hid (below_then HB0.out HB0.out.size hb)
  clear hb
  go_wp2_with fail
  go_ret2
  exact ⟨rfl, HB1.out⟩
theorem dref_yes (W : World) (p : Nat) (c : Cfg) (hok : c.ok) (hMo : Mo W p c) (sd most : Int) (A : Option Addr) (ca : Nat) (xs : List Int) (hx : (Kd.int .i64).C W A xs.length xs) (hj : Jok c xs most) :
    Calls Tryz.prog 7 #[.pointer (some ⟨p, 0, none⟩), .agg #[.int .u64 sd, .slice A xs.length ca, .int .i64 most]] W (RefY W (dRef c sd xs most)) := by
  have HJK := Lib.hid hj
  have HOK := Lib.hid hok
  have HMo := Lib.hid (fun (W' : World) (hb : Below W.heap.size W W') => hMo.below hb)
  have HST := Lib.hid (fun (W' : World) (hb : Below W.heap.size W W') => (dstart_any W' p c hok (hMo.below hb) sd most A none ca 0 xs [] (Kd.C_below hx hb) (C_nil0 W')).mono (fun e w' h => startY_of hj h))
  obtain ⟨n, hn⟩ : ∃ n, xs.length = n := ⟨_, rfl⟩
  have HN := Lib.hid hn
  rw [hn] at HST ⊢
  obtain ⟨W0, hW0⟩ : ∃ W0, W.alloc (.cells #[.int .u64 sd, .slice A n ca, .int .i64 most] 27) = W0 := ⟨_, rfl⟩
  obtain ⟨g, hg⟩ : ∃ g, W.heap.size = g := ⟨_, rfl⟩
  have hJ : JB g sd (.slice A n ca) most W W0 := by
    have h := heap_alloc_new W (.cells #[.int .u64 sd, .slice A n ca, .int .i64 most] 27)
    rw [hW0, hg] at h
    exact ⟨blk_cell h 0, blk_cell h 1, blk_cell h 2, Lib.hid (by rw [← hW0]; exact below_alloc (Below.refl _ W) _)⟩
  have HJ := Lib.hid hJ
  have HW := Lib.hid hW0
  have HG := Lib.hid hg
  obtain ⟨j0, j1, j2, -⟩ := id hJ
  unfold StartY at HST
  clear hok hMo hx hj hn hJ hW0 hg
  unfold RefY
  go_enter Tryz.func7, Tryz.ntmps7
  go_wp2_with fail
  rw [HW.out]
  try rw [HG.out]
  refine (HST.out W0 HJ.out.b).mono ?_
  rintro e w1 ⟨s, rfl, hst, hb⟩
  have HJ1 := Lib.hid (HJ.out.step hb)
  have HFM := Lib.hid (dfrom_any _ w1 s p c HOK.out (HMo.out _ HJ1.out.b) (.pointer (some ⟨p, 0, none⟩)) sd most A n ca (0 :: xs) hst (by simp) (by have h := HJK.out.2.2.1; rw [List.length_cons]; omega) 0 256 (by omega) (by omega) (by have := HJK.out.2.1; omega))
  rw [dRef_256 c sd xs most HJK.out.2.2.1] at HFM
  unfold FromR at HFM
  clear hst hb HST j0 j1 j2
  obtain ⟨j0, j1, j2, -⟩ := id HJ1.out
  obtain ⟨out, hout⟩ : ∃ o, dRef c sd xs most = o := ⟨_, rfl⟩
  rw [hout] at HFM
  have HOU := Lib.hid hout
  clear hout
  go_wp2_with fail
  refine HFM.out.mono ?_
  rintro e w2 ⟨A2, k2, s2, rfl, ho, -, hb⟩
  have HO := Lib.hid (ho.lower HJ1.out.b.size)
  have HBE := Lib.hid (below_then HJ1.out.b HJ1.out.b.size hb)
  clear ho hb
  go_wp2_with fail
  go_ret2
  rw [HOU.out]
  exact ⟨A2, k2, rfl, HO.out, HBE.out⟩

/-- law 12's far. -/
def FarJ (n : Nat) (most : Int) : Prop := (10 < n ∧ n < 255) ∨ (12 < most ∧ most ≤ 256) ∨ 1000 < n
instance (n : Nat) (most : Int) : Decidable (FarJ n most) := by unfold FarJ; infer_instance
set_option maxHeartbeats 2000000 in
theorem far12_any (W : World) (sd most : Int) (A : Option Addr) (n ca : Nat) : Calls Tryz.prog 6 #[.agg #[.int .u64 sd, .slice A n ca, .int .i64 most]] W fun e w' => e = .returned (.bool (decide (FarJ n most))) ∧ Below W.heap.size W w' := by
  have HB := Lib.hid (below_alloc (Below.refl W.heap.size W) (.cells #[.int .u64 sd, .slice A n ca, .int .i64 most] 27))
  obtain ⟨r, hr⟩ : ∃ r, decide (FarJ n most) = r := ⟨_, rfl⟩
  have HR := Lib.hid hr
  rw [hr]
  clear hr
  by_cases h1 : 10 < n <;> by_cases h2 : n < 255 <;> by_cases h3 : 12 < most <;> by_cases h4 : most ≤ 256 <;> by_cases h5 : 1000 < n
  all_goals
    have HE := Lib.hid (show decide (FarJ n most) = (decide (10 < n) && decide (n < 255) || (decide (12 < most) && decide (most ≤ 256) || decide (1000 < n))) by
      unfold FarJ; simp [h1, h2, h3, h4, h5])
    have HV := Lib.hid (HR.out.symm.trans HE.out)
    first
      | omega
      | (go_enter Tryz.func6, Tryz.ntmps6
         go_wp2_with fail
         go_ret
         exact ⟨by rw [HV.out]; simp [h1, h2, h3, h4, h5] <;> first | omega | (constructor <;> omega) | (rw [Bool.eq_iff_iff]; simp; omega), HB.out⟩)

end Go.Proofs.YtdfgmdmcdnnhfaaGreat
