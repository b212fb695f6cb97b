/- Rows and tables compared. -/
import Derived.Test.YtdfgmdmcdnnhfaaAtM
import Derived.Test.YtdfgmdmcdnnhfaaSaN
namespace Go.Proofs.Ytdfgmdmcdnnhfaa
open Go.RowKit Go.Shelf Go.Proofs.YtdfgmdmcdnnhfaaW.PrintWords Go.Proofs.YtdfgmdmcdnnhfaaW.PrintLast Go.Proofs.YtdfgmdmcdnnhfaaW.PrintMore
set_option linter.unusedVariables false
set_option linter.unusedSimpArgs false
set_option maxRecDepth 100000

theorem take_snoc_eq (xs ys : List Int) (i : Nat) (hx : i < xs.length) (hy : i < ys.length) (h : xs.take i = ys.take i) (hv : xs.getD i 0 = ys.getD i 0) : xs.take (i + 1) = ys.take (i + 1) := by
  rw [List.take_succ_eq_append_getElem hx, List.take_succ_eq_append_getElem hy, h]
  rw [List.getD_eq_getElem?_getD, List.getElem?_eq_getElem hx, List.getD_eq_getElem?_getD, List.getElem?_eq_getElem hy] at hv
  have hv' : xs[i] = ys[i] := hv
  rw [hv']
theorem take_row_eq (xs ys : List (List Int)) (i : Nat) (hx : i < xs.length) (hy : i < ys.length) (h : xs.take i = ys.take i) (hv : xs.getD i [] = ys.getD i []) : xs.take (i + 1) = ys.take (i + 1) := by
  rw [List.take_succ_eq_append_getElem hx, List.take_succ_eq_append_getElem hy, h]
  rw [List.getD_eq_getElem?_getD, List.getElem?_eq_getElem hx, List.getD_eq_getElem?_getD, List.getElem?_eq_getElem hy] at hv
  have hv' : xs[i] = ys[i] := hv
  rw [hv']
theorem take_pl_eq (xs ys : List Pl) (i : Nat) (hx : i < xs.length) (hy : i < ys.length) (h : xs.take i = ys.take i) (hv : xs.getD i ([], []) = ys.getD i ([], [])) : xs.take (i + 1) = ys.take (i + 1) := by
  rw [List.take_succ_eq_append_getElem hx, List.take_succ_eq_append_getElem hy, h]
  rw [List.getD_eq_getElem?_getD, List.getElem?_eq_getElem hx, List.getD_eq_getElem?_getD, List.getElem?_eq_getElem hy] at hv
  have hv' : xs[i] = ys[i] := hv
  rw [hv']

set_option maxHeartbeats 1000000 in
theorem equal_any (A B : Option Addr) (c d : Nat) (xs ys : List Int) (W : World) (hx : (Kd.int .i64).C W A xs.length xs) (hy : (Kd.int .i64).C W B ys.length ys) (hc : xs.length ≤ c) (hd : ys.length ≤ d) (hn : xs.length ≤ 1000000) (hm : ys.length ≤ 1000000) :
    Calls Try.prog 121 #[.slice A xs.length c, .slice B ys.length d] W fun e w' => e = .returned (.bool (decide (xs = ys))) ∧ Drawn0 W w' := by
  by_cases hl : xs.length = ys.length
  · obtain ⟨n, hnn⟩ : ∃ n, xs.length = n := ⟨_, rfl⟩
    obtain ⟨r, hr⟩ : ∃ r, decide (xs = ys) = r := ⟨_, rfl⟩
    have HX := Lib.hid hx
    have HY := Lib.hid hy
    have HNX := Lib.hid hnn
    have HNY := Lib.hid (show ys.length = n by omega)
    have HR := Lib.hid hr
    rw [hr, ← hl, hnn]
    rw [← hl, hnn] at hd
    rw [hnn] at hc hn
    clear hx hy hl hnn hm hr
    go_enter Try.func121, Try.ntmps121
    go_wp2_with fail
    go_loopw [13] (fun s wr => ∃ i : Nat, s = .int .i64 i ∧ i ≤ n ∧ Hid (xs.take i = ys.take i) ∧ Drawn0 W wr) (fun s _ => n - (intOf s).toNat)
    case atStart => exact ⟨0, rfl, by omega, Lib.hid (by simp), Drawn0.refl _⟩
    case round =>
      obtain ⟨i, rfl, hi, hT, hdr⟩ := hrel
      have HDR := Lib.hid hdr
      clear hdr
      by_cases him : i < n
      · obtain ⟨b1, e1, q1⟩ := at_nat (Kd.C_below HX.out HDR.out.below) i (by rw [HNX.out]; exact him)
        obtain ⟨b2, e2, q2⟩ := at_nat (Kd.C_below HY.out HDR.out.below) i (by rw [HNY.out]; exact him)
        subst e1 e2
        obtain ⟨x, hxx⟩ : ∃ x, xs.getD i 0 = x := ⟨_, rfl⟩
        obtain ⟨y, hyy⟩ : ∃ y, ys.getD i 0 = y := ⟨_, rfl⟩
        rw [hxx] at q1
        rw [hyy] at q2
        have HXX := Lib.hid hxx
        have HYY := Lib.hid hyy
        clear hxx hyy
        by_cases hxy : x = y
        · subst hxy
          have z : (x != x) = false := by simp
          have HT2 := Lib.hid (take_snoc_eq xs ys i (by rw [HNX.out]; exact him) (by rw [HNY.out]; exact him) hT.out (by rw [HXX.out, HYY.out]))
          go_wp2_with fail
          go_quiet (fail)
          go_wp2_with fail
          go_roundw
          case rel => exact ⟨i + 1, by go_num, by omega, HT2, Drawn0.step HDR.out _⟩
          case measure => simp [intOf]; omega
        · have z : (x != y) = true := by simp [hxy]
          have HF := Lib.hid (show r = false by
            rw [← HR.out]; refine decide_eq_false ?_; intro h; subst h; exact hxy (by rw [← HXX.out, ← HYY.out]))
          clear hxy
          go_wp2_with fail
          go_quiet (fail)
          go_wp2_with fail
          go_ret
          exact ⟨by rw [HF.out]; rfl, Drawn0.step HDR.out _⟩
      · have HF := Lib.hid (show r = true by
          rw [← HR.out]; refine decide_eq_true ?_
          have h := hT.out
          rwa [List.take_of_length_le (by rw [HNX.out]; omega), List.take_of_length_le (by rw [HNY.out]; omega)] at h)
        go_wp2_with fail
        go_ret
        exact ⟨by rw [HF.out]; rfl, HDR.out⟩
  · have hf : decide (xs = ys) = false := decide_eq_false (fun h => hl (by rw [h]))
    rw [hf]
    obtain ⟨n, hnn⟩ : ∃ n, xs.length = n := ⟨_, rfl⟩
    obtain ⟨m, hmm⟩ : ∃ m, ys.length = m := ⟨_, rfl⟩
    rw [hnn] at hl hc hn ⊢
    rw [hmm] at hl hd hm ⊢
    have z : ((n : Int) != (m : Int)) = true := by simp; omega
    clear hx hy hnn hmm hf
    go_enter Try.func121, Try.ntmps121
    go_wp2_with fail
    go_ret
    exact ⟨rfl, Drawn0.refl _⟩

set_option maxHeartbeats 1000000 in
theorem same_any (A B : Option Addr) (c d : Nat) (xs ys : List Int) (W : World) (hx : (Kd.int .i64).C W A xs.length xs) (hy : (Kd.int .i64).C W B ys.length ys) (hc : xs.length ≤ c) (hd : ys.length ≤ d) (hn : xs.length ≤ 1000000) (hm : ys.length ≤ 1000000) :
    Calls Try.prog 22 #[.slice A xs.length c, .slice B ys.length d] W fun e w' => e = .returned (.bool (decide (xs = ys))) ∧ Drawn0 W w' := by
  by_cases hl : xs.length = ys.length
  · obtain ⟨n, hnn⟩ : ∃ n, xs.length = n := ⟨_, rfl⟩
    obtain ⟨r, hr⟩ : ∃ r, decide (xs = ys) = r := ⟨_, rfl⟩
    have HX := Lib.hid hx
    have HY := Lib.hid hy
    have HNX := Lib.hid hnn
    have HNY := Lib.hid (show ys.length = n by omega)
    have HR := Lib.hid hr
    rw [hr, ← hl, hnn]
    rw [← hl, hnn] at hd
    rw [hnn] at hc hn
    clear hx hy hl hnn hm hr
    go_enter Try.func22, Try.ntmps22
    go_wp2_with fail
    go_loopw [13] (fun s wr => ∃ i : Nat, s = .int .i64 i ∧ i ≤ n ∧ Hid (xs.take i = ys.take i) ∧ Drawn0 W wr) (fun s _ => n - (intOf s).toNat)
    case atStart => exact ⟨0, rfl, by omega, Lib.hid (by simp), Drawn0.refl _⟩
    case round =>
      obtain ⟨i, rfl, hi, hT, hdr⟩ := hrel
      have HDR := Lib.hid hdr
      clear hdr
      by_cases him : i < n
      · obtain ⟨b1, e1, q1⟩ := at_nat (Kd.C_below HX.out HDR.out.below) i (by rw [HNX.out]; exact him)
        obtain ⟨b2, e2, q2⟩ := at_nat (Kd.C_below HY.out HDR.out.below) i (by rw [HNY.out]; exact him)
        subst e1 e2
        obtain ⟨x, hxx⟩ : ∃ x, xs.getD i 0 = x := ⟨_, rfl⟩
        obtain ⟨y, hyy⟩ : ∃ y, ys.getD i 0 = y := ⟨_, rfl⟩
        rw [hxx] at q1
        rw [hyy] at q2
        have HXX := Lib.hid hxx
        have HYY := Lib.hid hyy
        clear hxx hyy
        by_cases hxy : x = y
        · subst hxy
          have z : (x != x) = false := by simp
          have HT2 := Lib.hid (take_snoc_eq xs ys i (by rw [HNX.out]; exact him) (by rw [HNY.out]; exact him) hT.out (by rw [HXX.out, HYY.out]))
          go_wp2_with fail
          go_quiet (fail)
          go_wp2_with fail
          go_roundw
          case rel => exact ⟨i + 1, by go_num, by omega, HT2, Drawn0.step HDR.out _⟩
          case measure => simp [intOf]; omega
        · have z : (x != y) = true := by simp [hxy]
          have HF := Lib.hid (show r = false by
            rw [← HR.out]; refine decide_eq_false ?_; intro h; subst h; exact hxy (by rw [← HXX.out, ← HYY.out]))
          clear hxy
          go_wp2_with fail
          go_quiet (fail)
          go_wp2_with fail
          go_ret
          exact ⟨by rw [HF.out]; rfl, Drawn0.step HDR.out _⟩
      · have HF := Lib.hid (show r = true by
          rw [← HR.out]; refine decide_eq_true ?_
          have h := hT.out
          rwa [List.take_of_length_le (by rw [HNX.out]; omega), List.take_of_length_le (by rw [HNY.out]; omega)] at h)
        go_wp2_with fail
        go_ret
        exact ⟨by rw [HF.out]; rfl, HDR.out⟩
  · have hf : decide (xs = ys) = false := decide_eq_false (fun h => hl (by rw [h]))
    rw [hf]
    obtain ⟨n, hnn⟩ : ∃ n, xs.length = n := ⟨_, rfl⟩
    obtain ⟨m, hmm⟩ : ∃ m, ys.length = m := ⟨_, rfl⟩
    rw [hnn] at hl hc hn ⊢
    rw [hmm] at hl hd hm ⊢
    have z : ((n : Int) != (m : Int)) = true := by simp; omega
    clear hx hy hnn hmm hf
    go_enter Try.func22, Try.ntmps22
    go_wp2_with fail
    go_ret
    exact ⟨rfl, Drawn0.refl _⟩

end Go.Proofs.Ytdfgmdmcdnnhfaa
