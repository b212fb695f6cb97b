/- The law's far and alive of the layer sample; a box of four numbers. -/
import Derived.Test.YtgedmelohiajjaaGbSamB
import Derived.Test.YtgedmelohiajjaaGbSamC
import Derived.Test.YtgedmelohiajjaaGbL
import Derived.Deep.RegionHeld3
namespace Go.Proofs.Ytgedmelohiajjaa
open Go.RowKit Go.Shelf Go.Proofs.YtgedmelohiajjaaW.PrintWords Go.Proofs.YtgedmelohiajjaaW.PrintLast Go.Proofs.YtgedmelohiajjaaW.PrintMore
set_option linter.unusedVariables false
set_option linter.unusedSimpArgs false

def Far11 (n : Nat) (w : World) (e : Ending) (w' : World) : Prop := e = .returned (.bool (decide (200 < n))) ∧ w = w'
theorem far11_any (A : Option Addr) (n c : Nat) (w : World) :
    Calls Try.prog 37 #[.slice A n c] w (Far11 n w) := by
  unfold Far11
  go_enter Try.func37, Try.ntmps37
  go_wp2_with fail
  go_ret
  exact ⟨ret_b (by simp; omega), rfl⟩

/-- A variable of four numbers, and that nothing older has turned. -/
def Box4 (B : Nat) (w0 : World) (t h s p : Int) (W : World) : Prop :=
  W.cell? ⟨B, 0, none⟩ = some (.int .i64 t) ∧ W.cell? ⟨B, 1, none⟩ = some (.int .i64 h) ∧ W.cell? ⟨B, 2, none⟩ = some (.int .u64 s) ∧ W.cell? ⟨B, 3, none⟩ = some (.int .u64 p) ∧ Hid (Below w0.heap.size w0 W)
theorem Box4.step {B : Nat} {w0 W W' : World} {t h s p : Int} (hS : Box4 B w0 t h s p W) (hb : Below W.heap.size W W') : Box4 B w0 t h s p W' := by
  obtain ⟨h1, h2, h3, h4, h5⟩ := hS
  have hl := World.block_lt_of_cell? W _ h1
  exact ⟨(hb.cell (p := ⟨B, 0, none⟩) hl).trans h1, (hb.cell (p := ⟨B, 1, none⟩) hl).trans h2, (hb.cell (p := ⟨B, 2, none⟩) hl).trans h3, (hb.cell (p := ⟨B, 3, none⟩) hl).trans h4, Lib.hid (below_then h5.out h5.out.size hb)⟩
theorem Box4.below {B : Nat} {w0 W : World} {t h s p : Int} (hS : Box4 B w0 t h s p W) : Below w0.heap.size w0 W := hS.2.2.2.2.out

theorem sdecide1 : vbest [3, 9, 9] = 1 := by decide +kernel
theorem sdecide2 : vdraw [3, 9, 9] 3 0 1 1 = 1 := by decide +kernel
theorem sdecide3 : vdraw [3, 9, 9] 1 5 1 1 = 1 := by decide +kernel
theorem sdecide4 : vbest [] = -1 := by decide +kernel

theorem alive11_any (w : World) :
    Calls Try.prog 38 #[] w fun e w' => e = .returned (.bool true) ∧ Below w.heap.size w w' := by
  go_enter Try.func38, Try.ntmps38
  go_wp2_with fail
  obtain ⟨W0, hW0⟩ : ∃ W0, w.alloc (.cells #[.int .i64 3, .int .i64 9, .int .i64 9] 2) = W0 := ⟨_, rfl⟩
  have hl1 : (Kd.int .i64).C W0 (some ⟨w.heap.size, 0, none⟩) ([3, 9, 9] : List Int).length [3, 9, 9] := by rw [← hW0]; exact lit_C w .i64 2 [3, 9, 9] (by simp)
  have HB0 := Lib.hid (show Below w.heap.size w W0 by rw [← hW0]; exact below_alloc (Below.refl _ w) _)
  have HX := Lib.hid (fun (W : World) (hb : Below W0.heap.size W0 W) => Kd.C_below hl1 hb)
  rw [hW0]
  clear hW0 hl1
  refine (sbest_any _ _ [3, 9, 9] W0 (HX.out _ (Below.refl _ _)) (by simp) (by simp)).mono ?_
  rw [sdecide1]
  rintro e W1 ⟨rfl, hb1⟩
  have HE1 := Lib.hid hb1
  clear hb1
  go_wp2_with fail
  refine (draw_any _ _ [3, 9, 9] 3 0 1 1 W1 (HX.out _ HE1.out) (by simp) (by simp) (by simp)).mono ?_
  rw [sdecide2]
  rintro e W2 ⟨rfl, hb2⟩
  have HE2 := Lib.hid (below_then HE1.out HE1.out.size hb2)
  clear hb2
  go_wp2_with fail
  refine (draw_any _ _ [3, 9, 9] 1 5 1 1 W2 (HX.out _ HE2.out) (by simp) (by simp) (by simp)).mono ?_
  rw [sdecide3]
  rintro e W3 ⟨rfl, hb3⟩
  have HE3 := Lib.hid (below_then HE2.out HE2.out.size hb3)
  clear hb3
  go_wp2_with fail
  refine (sbest_any none 0 [] W3 ⟨rfl, by simp, fun h => absurd h (Nat.lt_irrefl 0)⟩ (by simp) (by simp)).mono ?_
  rw [sdecide4]
  rintro e W4 ⟨rfl, hb4⟩
  have HB4 := Lib.hid (below_then HB0.out HB0.out.size (below_then HE3.out HE3.out.size hb4))
  clear hb4
  go_wp2_with fail
  go_ret
  exact ⟨rfl, HB4.out⟩

end Go.Proofs.Ytgedmelohiajjaa
