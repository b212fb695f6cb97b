/- A fair queue: two flows come by turns (alive). -/
import Derived.Test.YtcelhendfjiicaaFqZ
namespace Go.Proofs.Ytcelhendfjiicaa
open Go.RowKit Go.Shelf Go.Proofs.YtcelhendfjiicaaW.PrintWords Go.Proofs.YtcelhendfjiicaaW.PrintLast Go.Proofs.YtcelhendfjiicaaW.PrintMore
set_option linter.unusedVariables false
set_option linter.unusedSimpArgs false
set_option maxRecDepth 100000
attribute [local go_sem] gb_max2 gb_min2 gb_max_two gb_min_two gb_max_three gb_min_three
theorem alv_tot (i : Nat) (hi : i ≤ 4) : totF (alvL i) = i ∧ (alvL i).length ≤ 2 := by
  have : i = 0 ∨ i = 1 ∨ i = 2 ∨ i = 3 ∨ i = 4 := by omega
  rcases this with rfl | rfl | rfl | rfl | rfl <;> decide
theorem WtJ.nil : WtJ [] := fun e he => by cases he
theorem alv_J : FqJ false (alvL 4) := by
  refine FqJ.of_all (fun f hf => ?_)
  have h : f = (0, 0, [(0, 1, 0), (0, 1, 1)]) ∨ f = (1, 0, [(1, 1, 2), (1, 1, 3)]) := by simpa [alvL] using hf
  rcases h with rfl | rfl
  all_goals
    refine ⟨⟨by simp, ?_, by decide⟩, by decide⟩
    intro x hx
    simp at hx
    rcases hx with rfl | rfl <;> decide
theorem alv_pop1 : popRun [] 1 ((alvL 4).length + (alvL 4).length) 0 false (alvL 4) = some ((0, 1, 0), true, [(0, 0, [(0, 1, 1)]), (1, 0, [(1, 1, 2), (1, 1, 3)])]) := by rfl
theorem alv_pop2 : popRun [] 1 (2 + 2) 0 true [(0, 0, [(0, 1, 1)]), (1, 0, [(1, 1, 2), (1, 1, 3)])] = some ((1, 1, 2), true, [(1, 0, [(1, 1, 3)]), (0, 0, [(0, 1, 1)])]) := by rfl
theorem alv_J2 : FqJ true [(0, 0, [(0, 1, 1)]), (1, 0, [(1, 1, 2), (1, 1, 3)])] := by
  have h := popRun_J WtJ.nil (by omega) (by omega) alv_J alv_pop1
  exact h
set_option maxHeartbeats 1000000 in
theorem alive35_any (W : World) : Calls Try.prog 15 #[] W fun e w' => e = .returned (.bool true) ∧ Below W.heap.size W w' := by
  go_enter Try.func15, Try.ntmps15
  go_wp2_with fail
  refine (qnew_any W W.heap.size (Nat.le_refl _) 5 1 (by omega) (by omega) (by omega) (by omega)).mono ?_
  rintro e w1 ⟨p, F, rfl, hq, hF, hb⟩
  have HQ := Lib.hid hq
  have HF := Lib.hid hF
  have HB := Lib.hid hb
  clear hq hF hb
  go_wp2_with fail
  go_loopg [18] 4 (fun k v wr => ∃ (i : Nat) (F' : Nat → Prop), i + k = 4 ∧ v = .int .i64 i ∧ Hid (QV wr W.heap.size F' p 5 1 false (alvL i) [] ∧ Below W.heap.size W wr))
  case atStart => exact ⟨0, F, by omega, rfl, Lib.hid ⟨HQ.out, HB.out⟩⟩
  case round =>
    obtain ⟨i, F', hik, rfl, HI⟩ := hrel
    by_cases hi : i < 4
    · obtain ⟨ht, hl⟩ := alv_tot i (by omega)
      have hd2 : ((i : Int) / 2) = ((i / 2 : Nat) : Int) := by omega
      have HC := Lib.hid (qpush_ok HI.out.1 (((i / 2 : Nat) : Int), 1, (i : Int)) (show (1 : Int) ≤ 1 by omega) (show (1 : Int) ≤ 1048576 by omega) (by rw [ht]; omega) (by rw [ht]; omega) (by omega))
      rw [alv_push i hi] at HC
      dsimp only at HC
      obtain ⟨a, ha⟩ : ∃ a, i / 2 = a := ⟨_, rfl⟩
      rw [ha] at HC hd2
      have ha2 : a < 2 := by omega
      clear ht hl ha
      go_wp2_with fail
      refine HC.out.mono ?_
      rintro e w2 ⟨rfl, F2, hq2, hF2, hT2⟩
      have HI2 := Lib.hid (And.intro hq2 (show Below W.heap.size W w2 from HI.out.2.trans (hT2.below (fun k hk => (HI.out.1.flt k hk).1) HI.out.2.size)))
      clear hq2 hF2 hT2
      go_wp2_with fail
      go_roundg (4 - (i + 1))
      case measure => omega
      case rel => exact ⟨i + 1, F2, by omega, by go_num, HI2⟩
    · obtain rfl : i = 4 := by omega
      have HC := Lib.hid (qpop_ok HI.out.1 WtJ.nil (by omega) (by omega) alv_J (by decide) (by decide) _ alv_pop1)
      unfold popAns at HC
      dsimp only at HC
      go_wp2_with fail
      refine HC.out.mono ?_
      rintro e w2 ⟨rfl, F2, hq2, hF2, hT2⟩
      have HB2 := Lib.hid (show Below W.heap.size W w2 from HI.out.2.trans (hT2.below (fun k hk => (HI.out.1.flt k hk).1) HI.out.2.size))
      have HQ2 := Lib.hid hq2
      clear hq2 hF2 hT2
      go_wp2_with fail
      obtain ⟨W3, hW3⟩ : ∃ W3, w2.alloc (.cells #[.int .u64 0, .int .i64 1, .int .u64 0] 43) = W3 := ⟨_, rfl⟩
      have hb3 : Below w2.heap.size w2 W3 := by rw [← hW3]; exact below_alloc (Below.refl _ _) _
      have hx3 := heap_alloc_new w2 (.cells #[.int .u64 0, .int .i64 1, .int .u64 0] 43)
      rw [hW3] at hx3 ⊢
      have HX3 := Lib.hid hx3
      have HQ3 := Lib.hid (HQ2.out.below hb3)
      have HB3 := Lib.hid (below_then HB2.out HB2.out.size hb3)
      have HC2 := Lib.hid (qpop_ok HQ3.out WtJ.nil (by omega) (by omega) alv_J2 (by decide) (by decide) _ alv_pop2)
      unfold popAns at HC2
      dsimp only at HC2
      obtain ⟨xb, hxb⟩ : ∃ b, w2.heap.size = b := ⟨_, rfl⟩
      try rw [hxb]
      have HXB := Lib.hid hxb
      clear hW3 hb3 hx3 hxb
      refine HC2.out.mono ?_
      rintro e w4 ⟨rfl, F4, hq4, hF4, hT4⟩
      have hx4 := (hT4.block w2.heap.size (blk_lt HX3.out) (fun h => by have := (HQ2.out.flt _ h).2; omega)).trans HX3.out
      rw [HXB.out] at hx4
      have HX4 := Lib.hid hx4
      have HB4 := Lib.hid (show Below W.heap.size W w4 from HB3.out.trans (hT4.below (fun k hk => (HQ3.out.flt k hk).1) HB3.out.size))
      have HQ4 := Lib.hid hq4
      clear hq4 hF4 hT4 hx4
      have hb5 := below_alloc (Below.refl w4.heap.size w4) (.cells #[.int .u64 1, .int .i64 1, .int .u64 2] 43)
      have z2 : (w4.alloc (.cells #[.int .u64 1, .int .i64 1, .int .u64 2] 43)).cell? ⟨xb, 2, none⟩ = some (.int .u64 0) := blk_cell (blk_below HX4.out hb5) 2
      have HLN := Lib.hid (qlen_any (HQ4.out.below hb5) 2 (by decide))
      have HB5 := Lib.hid (below_then HB4.out HB4.out.size hb5)
      clear hb5
      go_wp2_with fail
      refine HLN.out.mono ?_
      rintro e w' ⟨rfl, rfl⟩
      go_wp2_with fail
      go_ret
      exact ⟨rfl, HB5.out⟩
end Go.Proofs.Ytcelhendfjiicaa
