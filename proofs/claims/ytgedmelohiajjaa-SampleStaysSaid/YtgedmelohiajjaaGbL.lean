/- Contracts of the law's own helpers: same, far, alive. -/
import Derived.Test.YtgedmelohiajjaaGbX
import Derived.Test.YtgedmelohiajjaaProg
import Derived.Test.YtgedmelohiajjaaGbB
import Derived.Test.YtgedmelohiajjaaGbW
import Derived.Test.YtgedmelohiajjaaWMore
import Derived.WalkKit
import Derived.KernelRfl
import Derived.Tactics
import Derived.OwnWalk
import Derived.BigQuiet
import Derived.Deep.QuietTactic
import Derived.Lib.Hide
import Derived.Outline
import Derived.Shelf.Abstract
import Derived.WalkSpells
namespace Go.Proofs.Ytgedmelohiajjaa
open Go.RowKit Go.Shelf Go.Proofs.YtgedmelohiajjaaW.PrintWords Go.Proofs.YtgedmelohiajjaaW.PrintLast Go.Proofs.YtgedmelohiajjaaW.PrintMore
set_option linter.unusedVariables false
set_option linter.unusedSimpArgs false
attribute [local go_sem] gb_max2 gb_min2 gb_max_two gb_min_two gb_max_three gb_min_three

/-- Two vectors are the same. -/
def SameR (xs ys : List Int) (w : World) (e : Ending) (w' : World) : Prop := e = .returned (.bool (decide (xs = ys))) ∧ Drawn0 w w'

theorem same_any (A B : Option Addr) (c d : Nat) (xs ys : List Int) (w : World) (hx : (Kd.int .i64).C w A xs.length xs) (hy : (Kd.int .i64).C w B ys.length ys) (hn : xs.length ≤ 1000000) (hm : ys.length ≤ 1000000) :
    Calls Try.prog 22 #[.slice A xs.length c, .slice B ys.length d] w (SameR xs ys w) := by
  have HX := Lib.hid hx
  have HY := Lib.hid hy
  obtain ⟨b, hb⟩ : ∃ b, decide (xs = ys) = b := ⟨_, rfl⟩
  have HB := Lib.hid hb
  unfold SameR
  rw [hb]
  obtain ⟨n, hnn⟩ : ∃ n, xs.length = n := ⟨_, rfl⟩
  obtain ⟨m, hmm⟩ : ∃ m, ys.length = m := ⟨_, rfl⟩
  rw [hnn] at hn ⊢
  rw [hmm] at hm ⊢
  have HN := Lib.hid hnn
  have HM := Lib.hid hmm
  clear hx hy hb hnn hmm
  by_cases hne : n = m
  · subst hne
    have z : ((n : Int) != (n : Int)) = false := by simp
    go_enter Try.func22, Try.ntmps22
    go_wp2_with fail
    go_loopw [13] (fun s wr => ∃ k : Nat, s = .int .i64 k ∧ k ≤ n ∧ Hid (∀ j, j < k → xs.getD j 0 = ys.getD j 0) ∧ Drawn0 w wr) (fun s _ => n - (intOf s).toNat)
    case atStart => exact ⟨0, rfl, by omega, Lib.hid (fun j hj => absurd hj (Nat.not_lt_zero _)), Drawn0.refl _⟩
    case round =>
      obtain ⟨k, rfl, hk, hall, ⟨q, rfl⟩⟩ := hrel
      by_cases hkn : k < n
      · obtain ⟨a1, ea, c1⟩ := at_nat HX.out k (by rw [HN.out]; exact hkn)
        obtain ⟨a2, eb, c2⟩ := at_nat HY.out k (by rw [HM.out]; exact hkn)
        subst ea eb
        obtain ⟨x, hxx⟩ : ∃ x, xs.getD k 0 = x := ⟨_, rfl⟩
        obtain ⟨y, hyy⟩ : ∃ y, ys.getD k 0 = y := ⟨_, rfl⟩
        rw [hxx] at c1
        rw [hyy] at c2
        have HXX := Lib.hid hxx
        have HYY := Lib.hid hyy
        clear hxx hyy
        have b1 : (0 : Int) ≤ (k : Int) := by omega
        have b2 : (k : Int) < (n : Int) := by omega
        by_cases hxy : x = y
        · have z2 : (x != y) = false := by simp [hxy]
          have HXY := Lib.hid hxy
          clear hxy
          go_wp2_with fail
          go_quiet (fail)
          go_wp2_with fail
          go_roundw
          case rel => exact ⟨k + 1, by go_num, by omega, Lib.hid (fun j hj => by
            by_cases e : j = k
            · subst e; rw [HXX.out, HYY.out, HXY.out]
            · exact hall.out j (by omega)), (by first | exact ⟨⟨_, rfl⟩⟩ | exact Drawn0.step ⟨q, rfl⟩ _)⟩
          case measure => simp [intOf]; omega
        · have z2 : (x != y) = true := by simp [hxy]
          have HF := Lib.hid (show false = b by
            rw [← HB.out]
            refine (decide_eq_false fun e => hxy ?_).symm
            rw [← HXX.out, ← HYY.out, e])
          clear hxy
          go_wp2_with fail
          go_quiet (fail)
          go_wp2_with fail
          go_ret
          exact ⟨ret_b HF.out, (by first | exact ⟨⟨_, rfl⟩⟩ | exact Drawn0.step ⟨q, rfl⟩ _)⟩
      · have HF := Lib.hid (show true = b by
          rw [← HB.out]
          refine (decide_eq_true ?_).symm
          apply List.ext_getElem
          · rw [HN.out, HM.out]
          · intro j h1 h2
            have := hall.out j (by rw [HN.out] at h1; omega)
            simpa [List.getD_eq_getElem?_getD, h1, h2] using this)
        go_wp2_with fail
        go_ret
        exact ⟨ret_b HF.out, ⟨_, rfl⟩⟩
  · have z : ((n : Int) != (m : Int)) = true := by simp; omega
    have HF := Lib.hid (show false = b by
      rw [← HB.out]
      refine (decide_eq_false fun e => hne ?_).symm
      rw [← HN.out, ← HM.out, e])
    go_enter Try.func22, Try.ntmps22
    go_wp2_with fail
    go_ret
    exact ⟨ret_b HF.out, ⟨0, rfl⟩⟩

/-- A literal of whole numbers is read. -/
theorem lit_C (W : World) (k : IntKind) (e : TypeId) (xs : List Int) (hm : xs.length ≤ 9223372036854775807) : (Kd.int k).C (W.alloc (.cells (nums k xs).toArray e)) (some ⟨W.heap.size, 0, none⟩) xs.length xs := by
  refine ⟨rfl, hm, fun _ => ⟨_, rfl, fun j p hj => ⟨[.int k p], rfl, rfl, fun i u hu => ?_⟩⟩⟩
  have h1 := heap_alloc_new W (.cells (nums k xs).toArray e)
  rw [show (Kd.int k).sz = 1 from rfl, add_plain, blk_cell h1]
  cases i with
  | zero =>
    have : Value.int k p = u := by simpa using hu
    subst this
    simp [nums, hj]
  | succ i => simp at hu

theorem vdecide1 : vtop [3, 9, 9, 1] 2 = [1, 2] := by decide +kernel
theorem vdecide2 : vsoft [5, 5] = [32768, 32768] := by decide +kernel
theorem vdecide3 : vdot [65536, 2] [3, 0] = 3 := by decide +kernel

set_option maxRecDepth 100000 in
theorem alive_any (w : World) :
    Calls Try.prog 16 #[] w fun e w' => e = .returned (.bool true) ∧ Below w.heap.size w w' := by
  go_enter Try.func16, Try.ntmps16
  go_wp2_with fail
  have hl1 := lit_C w .i64 2 [3, 9, 9, 1] (by simp)
  refine (top_any _ _ [3, 9, 9, 1] 2 _ hl1 (by simp) (by simp)).mono ?_
  rintro e w1 ⟨v1, rfl, ho1, hb1⟩
  rw [vdecide1] at ho1
  obtain ⟨A1, k1, rfl, hk1, hC1⟩ := ho1.reads_n (n := 2) rfl
  have HB1 := Lib.hid (show Below w.heap.size w w1 from below_then (below_alloc (Below.refl _ w) _) (by simp) hb1)
  have HC1 := Lib.hid hC1
  clear hl1 ho1 hb1 hC1
  go_wp2_with fail
  have hl2 := lit_C w1 .i64 2 [5, 5] (by simp)
  refine (soft_some _ _ [5, 5] _ hl2 (by simp) (by simp) (by simp)).mono ?_
  rintro e w2 ⟨v2, rfl, ho2, hb2⟩
  rw [vdecide2] at ho2
  obtain ⟨A2, k2, rfl, hk2, hC2⟩ := ho2.reads_n (n := 2) rfl
  have hb12 := (show Below w1.heap.size w1 w2 from below_then (below_alloc (Below.refl _ w1) _) (by simp) hb2)
  have HB2 := Lib.hid (show Below w.heap.size w w2 from below_then HB1.out HB1.out.size hb12)
  have HC1' := Lib.hid (Kd.C_below HC1.out hb12)
  have HC2 := Lib.hid hC2
  clear hl2 ho2 hb2 hC2 hb12 HC1 HB1
  obtain ⟨a1, ea1, p0⟩ := at_nat HC1'.out 0 (by simp)
  obtain ⟨a1', ea1', -, p1⟩ := at_nat2 HC1'.out 1 (by simp)
  subst ea1
  obtain rfl := Option.some.inj ea1'
  replace p1 := p1 (by simp)
  simp only [gb_add0] at p0
  change w2.cell? a1 = some (.int .i64 1) at p0
  change w2.cell? _ = some (.int .i64 2) at p1
  have hl3 : (Kd.int .i64).C ((w2.alloc (.cells #[.int .i64 65536, .int .i64 2] 2)).alloc (.cells #[.int .i64 3, .int .i64 0] 2)) (some ⟨w2.heap.size, 0, none⟩) 2 [65536, 2] := Kd.C_below (lit_C w2 .i64 2 [65536, 2] (by simp)) ((Below.refl _ _).alloc (Nat.le_refl _) _)
  have hl4 : (Kd.int .i64).C ((w2.alloc (.cells #[.int .i64 65536, .int .i64 2] 2)).alloc (.cells #[.int .i64 3, .int .i64 0] 2)) (some ⟨w2.heap.size + 1, 0, none⟩) 2 [3, 0] := by
    have := lit_C (w2.alloc (.cells #[.int .i64 65536, .int .i64 2] 2)) .i64 2 [3, 0] (by simp)
    simpa [nums] using this
  have HL3 := Lib.hid hl3
  have HL4 := Lib.hid hl4
  clear hl3 hl4
  go_wp2_with fail
  refine (dot_any _ _ _ _ [65536, 2] [3, 0] _ HL3.out HL4.out (by simp) (by simp) (by simp) (by simp)).mono ?_
  rw [vdecide3]
  rintro e w3 ⟨rfl, hd3⟩
  have hb23 := (show Below w2.heap.size w2 w3 from below_then ((below_alloc (below_alloc (Below.refl _ w2) _) _)) (by simp; omega) hd3.below)
  have HB3 := Lib.hid (show Below w.heap.size w w3 from below_then HB2.out HB2.out.size hb23)
  obtain ⟨a2, ea2, q0⟩ := at_nat (Kd.C_below HC2.out hb23) 0 (by simp)
  subst ea2
  simp only [gb_add0] at q0
  change w3.cell? a2 = some (.int .i64 32768) at q0
  clear hd3 hb23
  go_wp2_with fail
  go_ret
  exact ⟨rfl, HB3.out⟩

end Go.Proofs.Ytgedmelohiajjaa
