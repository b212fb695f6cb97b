/- Contracts of vec.Add, vec.each. -/
import Derived.Test.YtgedmelohiajjaaGbC
import Derived.Test.YtgedmelohiajjaaProg
import Derived.Test.YtgedmelohiajjaaGbB
import Derived.Test.YtgedmelohiajjaaGbW
import Derived.Test.YtgedmelohiajjaaWMore
import Derived.WalkKit
import Derived.KernelRfl
import Derived.Tactics
import Derived.OwnWalk
import Derived.BigQuiet
import Derived.Deep.QuietTactic
import Derived.Lib.Hide
import Derived.Outline
import Derived.Shelf.Abstract
import Derived.WalkSpells
namespace Go.Proofs.Ytgedmelohiajjaa
open Go.RowKit Go.Shelf Go.Proofs.YtgedmelohiajjaaW.PrintWords Go.Proofs.YtgedmelohiajjaaW.PrintLast Go.Proofs.YtgedmelohiajjaaW.PrintMore
set_option linter.unusedVariables false
set_option linter.unusedSimpArgs false
attribute [local go_sem] gb_max2 gb_min2 gb_max_two gb_min_two gb_max_three gb_min_three

theorem clone_n (A : Option Addr) (n c : Nat) (xs : List Int) (w : World) (hxn : xs.length = n) (hx : (Kd.int .i64).C w A xs.length xs) (hc : n ≤ c) (hn : n ≤ 1000000) :
    Calls Try.prog 63 #[.slice A n c] w fun e w' => ∃ v, e = .returned v ∧ Own w' w.heap.size 2 v xs ∧ Below w.heap.size w w' := by
  subst hxn
  exact clone_any A c xs w hx hc hn

theorem vadd_any (A B : Option Addr) (c d : Nat) (xs ys : List Int) (w : World) (hx : (Kd.int .i64).C w A xs.length xs) (hy : (Kd.int .i64).C w B ys.length ys) (hc : xs.length ≤ c) (hd : ys.length ≤ d) (hn : xs.length ≤ 4096) (hm : ys.length ≤ 4096) :
    Calls Try.prog 23 #[.slice A xs.length c, .slice B ys.length d] w fun e w' => ∃ v, e = .returned v ∧ Own w' w.heap.size 2 v (vadd xs ys) ∧ Below w.heap.size w w' := by
  obtain ⟨n, hnn⟩ : ∃ n, min xs.length ys.length = n := ⟨_, rfl⟩
  have hn1 : n ≤ xs.length := by omega
  have hn2 : n ≤ ys.length := by omega
  have HT := Lib.hid (show (xs.take n).length = n by rw [List.length_take]; omega)
  have HX := Lib.hid (fun q => Kd.C_below (Kd.C_take (m := n) hx hn1) (pw_below_drewN (Below.refl _ w) q))
  have HY := Lib.hid hy
  have HN := Lib.hid hnn
  have HV := Lib.hid (show vadd xs ys = tab n fun j => fadd (xs.getD j 0) (ys.getD j 0) by unfold vadd; rw [hnn])
  have HZ := Lib.hid (show xs.take n = mixl n (fun j => fadd (xs.getD j 0) (ys.getD j 0)) (fun j => xs.getD j 0) 0 by rw [mixl_zero, tab_take _ _ hn1])
  clear hx hy hnn
  go_enter Try.func23, Try.ntmps23
  go_wp2_with fail
  refine (pair_any _ _ _ _ _ _ _ hc hd hn hm).mono ?_
  rw [HN.out]
  rintro e w' ⟨rfl, ⟨q, rfl⟩⟩
  go_wp2_with fail
  refine (clone_n _ _ _ _ _ HT.out (HX.out q) (by omega) (by omega)).mono ?_
  rintro e w1 ⟨v, rfl, ho, hb⟩
  have HO := Lib.hid (HZ.out ▸ ho)
  have HB := Lib.hid (show Below w.heap.size w w1 from below_then (pw_below_drewN (Below.refl _ w) q) (by simp) hb)
  clear ho hb
  go_wp2_with fail
  go_loopw [18] (fun i wr => ∃ k : Nat, k ≤ n ∧ i = .int .i64 k ∧ Own wr w.heap.size 2 v (mixl n (fun j => fadd (xs.getD j 0) (ys.getD j 0)) (fun j => xs.getD j 0) k) ∧ Below w.heap.size w wr) (fun i _ => n - (intOf i).toNat)
  case atStart => exact ⟨0, by omega, rfl, HO.out.lower (by simp), HB.out⟩
  case round =>
    obtain ⟨k, k0, rfl, ho, hb⟩ := hrel
    by_cases hk : k < n
    · obtain ⟨g, cap, rfl, hg0, hg1⟩ := ho.form_n (mixl_len _ _ _ _) (by omega)
      obtain ⟨c1, f1⟩ := ho.at_n (mixl_len _ _ _ _) k hk
      rw [mixl_get _ _ _ _ hk] at c1
      obtain ⟨b, eb, c2⟩ := at_nat (Kd.C_below HY.out hb) k (by omega)
      subst eb
      have HS := Lib.hid (mixl_set n (fun j => fadd (xs.getD j 0) (ys.getD j 0)) (fun j => xs.getD j 0) k)
      have HO1 := Lib.hid ho
      have HB1 := Lib.hid hb
      clear ho hb HO HB
      go_wp2_with (go_at_call 58; refine (add_any _ _ _).mono ?_; rintro e w' ⟨rfl, rfl⟩)
      go_roundw
      case rel => exact ⟨k + 1, by omega, by go_num, by rw [← HS.out]; exact HO1.out.store_n (mixl_len _ _ _ _) k _, HB1.out.setCell (p := ⟨g, k, none⟩) hg0 _⟩
      case measure => simp [intOf]; omega
    · have HF := Lib.hid (show mixl n (fun j => fadd (xs.getD j 0) (ys.getD j 0)) (fun j => xs.getD j 0) k = vadd xs ys by rw [mixl_full _ _ _ _ (by omega), HV.out])
      have HO1 := Lib.hid ho
      have HB1 := Lib.hid hb
      clear ho hb
      go_wp2
      go_ret
      exact ⟨v, rfl, HF.out ▸ HO1.out, HB1.out⟩

/-- From block B on, all stays. -/
def Keeps (B : Nat) (W W' : World) : Prop := W.heap.size ≤ W'.heap.size ∧ ∀ k, B ≤ k → k < W.heap.size → W'.heap[k]? = W.heap[k]?

theorem each_any (A : Option Addr) (c : Nat) (xs : List Int) (w : World) (hx : (Kd.int .i64).C w A xs.length xs) (hc : xs.length ≤ c) (hn : xs.length ≤ 4096)
    (g : Nat) (lb : Array Value) (eg : ∀ args w, (callFunc g args).run Try.prog w = .ok (.enter g args) w) (y : Nat → Int) (I : Nat → World → Prop) (h0 : I 0 w)
    (hI : ∀ i W W', I i W → Below w.heap.size W W' → I i W')
    (hf : ∀ i W, i < xs.length → I i W → Calls Try.prog g (#[.int .i64 (xs.getD i 0)] ++ lb) W fun e W' => e = .returned (.int .i64 (y i)) ∧ I (i + 1) W' ∧ Keeps w.heap.size W W') :
    Calls Try.prog 55 #[.slice A xs.length c, .func (.func g) #[] lb] w fun e w' => ∃ v, e = .returned v ∧ Own w' w.heap.size 2 v (tab xs.length y) ∧ I xs.length w' ∧ w.heap.size ≤ w'.heap.size := by
  obtain ⟨n, hnn⟩ : ∃ n, xs.length = n := ⟨_, rfl⟩
  have HX := Lib.hid hx
  have HZ := Lib.hid (show xs = mixl n y (fun j => xs.getD j 0) 0 by rw [mixl_zero, ← hnn, tab_self])
  have HI0 := Lib.hid h0
  have HI := Lib.hid hI
  have HF := Lib.hid hf
  rw [hnn] at hc hn HF ⊢
  have HN := Lib.hid hnn
  clear hx hnn h0 hI hf
  go_enter Try.func55, Try.ntmps55
  go_wp2_with fail
  refine (cut_any _ _ _ _ hc hn).mono ?_
  rintro e w' ⟨rfl, rfl⟩
  go_wp2_with fail
  refine (clone_n _ _ _ _ _ HN.out HX.out (by omega) (by omega)).mono ?_
  rintro e w1 ⟨v, rfl, ho, hb⟩
  obtain ⟨A1, c1, hv, hc1, _⟩ := ho.reads_n HN.out
  have HO := Lib.hid (show Own w1 w.heap.size 2 v (mixl n y (fun j => xs.getD j 0) 0) by rw [← HZ.out]; exact ho)
  have HI1 := Lib.hid (HI.out 0 w w1 HI0.out hb)
  have hsz := hb.size
  have HV := Lib.hid hv
  rw [hv]
  clear ho hb hc1 hv
  go_wp2_with fail
  go_loopw [13] (fun i wr => ∃ k : Nat, k ≤ n ∧ i = .int .i64 k ∧ Own wr w.heap.size 2 v (mixl n y (fun j => xs.getD j 0) k) ∧ I k wr ∧ w.heap.size ≤ wr.heap.size) (fun i _ => n - (intOf i).toNat)
  case atStart => exact ⟨0, by omega, rfl, HO.out, HI1.out, hsz⟩
  case round =>
    obtain ⟨k, k0, rfl, ho, hi, hs⟩ := hrel
    by_cases hk : k < n
    · obtain ⟨g1, cap, hvv, hg0, hg1⟩ := ho.form_n (mixl_len _ _ _ _) (by omega)
      have e1 := HV.out.symm.trans hvv
      simp only [Value.slice.injEq] at e1
      obtain ⟨rfl, -, rfl⟩ := e1
      rw [hvv] at ho
      obtain ⟨q1, -⟩ := ho.at_n (mixl_len _ _ _ _) k hk
      rw [mixl_get _ _ _ _ hk] at q1
      have HS := Lib.hid (mixl_set n y (fun j => xs.getD j 0) k)
      have HO1 := Lib.hid ho
      have HW := Lib.hid hvv
      have hcall := Lib.hid (HF.out k wr hk hi)
      clear ho hi HO hvv
      go_wp2_with fail
      refine hcall.out.mono ?_
      rintro e w2 ⟨rfl, hi2, hk2⟩
      have ho2 := HO1.out.kept hk2.2
      obtain ⟨q2, f2⟩ := ho2.at_n (mixl_len _ _ _ _) k hk
      have HI2 := Lib.hid hi2
      have HO2 := Lib.hid ho2
      have hs2 : w.heap.size ≤ w2.heap.size := Nat.le_trans hs hk2.1
      clear hi2 ho2 hk2 q1
      go_wp2_with fail
      go_roundw
      case rel => exact ⟨k + 1, by omega, by go_num, by rw [← HS.out, HW.out]; exact HO2.out.store_n (mixl_len _ _ _ _) k _, HI.out _ _ _ HI2.out ((Below.refl _ _).setCell (p := ⟨g1, k, none⟩) hg0 _), by simpa using hs2⟩
      case measure => simp [intOf]; omega
    · have HF := Lib.hid (show mixl n y (fun j => xs.getD j 0) k = tab n y from mixl_full _ _ _ _ (by omega))
      have HO1 := Lib.hid ho
      have HI2 := Lib.hid (show I n wr by rw [show n = k by omega]; exact hi)
      clear ho hi
      go_wp2
      go_ret
      exact ⟨Value.slice A1 n c1, rfl, by rw [← HV.out, ← HF.out]; exact HO1.out, HI2.out, hs⟩

theorem Keeps.refl (B : Nat) (W : World) : Keeps B W W := ⟨Nat.le_refl _, fun _ _ _ => rfl⟩

theorem relu1_any (x : Int) (w : World) :
    Calls Try.prog 68 #[.int .i64 x] w fun e w' => e = .returned (.int .i64 (max (wi x) 0)) ∧ w = w' := by
  go_enter Try.func68, Try.ntmps68
  go_wp2_with (go_at_call 50; refine (within_any _ _).mono ?_; rintro e w' ⟨rfl, rfl⟩)
  go_ret
  exact ⟨rfl, rfl⟩

theorem relu_any (A : Option Addr) (c : Nat) (xs : List Int) (w : World) (hx : (Kd.int .i64).C w A xs.length xs) (hc : xs.length ≤ c) (hn : xs.length ≤ 4096) :
    Calls Try.prog 28 #[.slice A xs.length c] w fun e w' => ∃ v, e = .returned v ∧ Own w' w.heap.size 2 v (vrelu xs) ∧ Below w.heap.size w w' := by
  have HE := Lib.hid (each_any A c xs w hx hc hn 68 #[] (enters_of Try.func68 (by kernel_rfl) rfl) (fun j => max (wi (xs.getD j 0)) 0) (fun _ W => Below w.heap.size w W)
    (Below.refl _ _) (fun i W W' h h' => h.trans h') (fun i W hi h => (relu1_any _ _).mono fun e W' ⟨h1, h2⟩ => by subst h2; exact ⟨h1, h, Keeps.refl _ _⟩))
  clear hx
  go_enter Try.func28, Try.ntmps28
  go_wp2_with fail
  refine HE.out.mono ?_
  rintro e w' ⟨v, rfl, ho, hb, hs⟩
  have HO := Lib.hid ho
  have HB := Lib.hid hb
  clear ho hb
  go_wp2_with fail
  go_ret
  exact ⟨v, rfl, HO.out, HB.out⟩

theorem scale1_any (x y : Int) (b : Nat) (w : World) (hb : w.cell? ⟨b, 0, none⟩ = some (.int .i64 y)) :
    Calls Try.prog 67 #[.int .i64 x, .pointer (some ⟨b, 0, none⟩)] w fun e w' => e = .returned (.int .i64 (fmul x y)) ∧ w = w' := by
  go_enter Try.func67, Try.ntmps67
  go_wp2_with (go_at_call 62; refine (mul_any _ _ _).mono ?_; rintro e w' ⟨rfl, rfl⟩)
  go_ret
  exact ⟨rfl, rfl⟩

theorem norm1_any (x y : Int) (b : Nat) (w : World) (hb : w.cell? ⟨b, 0, none⟩ = some (.int .i64 y)) :
    Calls Try.prog 71 #[.int .i64 x, .pointer (some ⟨b, 0, none⟩)] w fun e w' => e = .returned (.int .i64 (fdiv x y)) ∧ w = w' := by
  go_enter Try.func71, Try.ntmps71
  go_wp2_with (go_at_call 60; refine (div_any _ _ _).mono ?_; rintro e w' ⟨rfl, rfl⟩)
  go_ret
  exact ⟨rfl, rfl⟩

theorem soft2_any (x y : Int) (b : Nat) (w : World) (hb : w.cell? ⟨b, 0, none⟩ = some (.int .i64 y)) :
    Calls Try.prog 59 #[.int .i64 x, .pointer (some ⟨b, 0, none⟩)] w fun e w' => e = .returned (.int .i64 (fdiv x y)) ∧ w = w' := by
  go_enter Try.func59, Try.ntmps59
  go_wp2_with (go_at_call 60; refine (div_any _ _ _).mono ?_; rintro e w' ⟨rfl, rfl⟩)
  go_ret
  exact ⟨rfl, rfl⟩

/-- vec.each over a closure that reads one box. -/
theorem each_box (A : Option Addr) (c : Nat) (xs : List Int) (w w0 : World) (hx : (Kd.int .i64).C w A xs.length xs) (hc : xs.length ≤ c) (hn : xs.length ≤ 4096) (hw : Below w0.heap.size w0 w)
    (g : Nat) (eg : ∀ args w, (callFunc g args).run Try.prog w = .ok (.enter g args) w) (y : Int) (b : Nat) (hb : w.cell? ⟨b, 0, none⟩ = some (.int .i64 y)) (f : Int → Int → Int)
    (hf : ∀ (x : Int) (w : World), w.cell? ⟨b, 0, none⟩ = some (.int .i64 y) → Calls Try.prog g #[.int .i64 x, .pointer (some ⟨b, 0, none⟩)] w fun e w' => e = .returned (.int .i64 (f x y)) ∧ w = w') :
    Calls Try.prog 55 #[.slice A xs.length c, .func (.func g) #[] #[.pointer (some ⟨b, 0, none⟩)]] w fun e w' => ∃ v, e = .returned v ∧ Own w' w0.heap.size 2 v (vmap (fun x => f x y) xs) ∧ Below w0.heap.size w0 w' := by
  have hlt : b < w.heap.size := World.block_lt_of_cell? w _ hb
  refine (each_any A c xs w hx hc hn g #[.pointer (some ⟨b, 0, none⟩)] eg (fun j => f (xs.getD j 0) y) (fun _ W => Below w.heap.size w W) (Below.refl _ _) (fun i W W' h h' => h.trans h') ?_).mono ?_
  · intro i W hi h
    refine (hf _ W ((h.cell (p := ⟨b, 0, none⟩) hlt).trans hb)).mono fun e W' ⟨h1, h2⟩ => ?_
    subst h2
    exact ⟨h1, h, Keeps.refl _ _⟩
  · rintro e w' ⟨v, rfl, ho, hb, hs⟩
    exact ⟨v, rfl, ho.lower hw.size, below_then hw hw.size hb⟩

theorem scale_any (A : Option Addr) (c : Nat) (xs : List Int) (y : Int) (w : World) (hx : (Kd.int .i64).C w A xs.length xs) (hc : xs.length ≤ c) (hn : xs.length ≤ 4096) :
    Calls Try.prog 26 #[.slice A xs.length c, .int .i64 y] w fun e w' => ∃ v, e = .returned v ∧ Own w' w.heap.size 2 v (vscale xs y) ∧ Below w.heap.size w w' := by
  have HX := Lib.hid (fun o => Kd.C_below hx ((Below.refl _ w).alloc (Nat.le_refl _) o))
  clear hx
  go_enter Try.func26, Try.ntmps26
  go_wp2_with fail
  refine (each_box A c xs _ w (HX.out _) hc hn ((Below.refl _ w).alloc (Nat.le_refl _) _) 67 (enters_of Try.func67 (by kernel_rfl) rfl) y w.heap.size (by simp) fmul (fun x w h => scale1_any x y _ w h)).mono ?_
  rintro e w' ⟨v, rfl, ho, hb⟩
  have HO := Lib.hid ho
  have HB := Lib.hid hb
  clear ho hb
  go_wp2_with fail
  go_ret
  exact ⟨v, rfl, HO.out, HB.out⟩

theorem norm_any (A : Option Addr) (c : Nat) (xs : List Int) (w : World) (hx : (Kd.int .i64).C w A xs.length xs) (hc : xs.length ≤ c) (hn : xs.length ≤ 4096) :
    Calls Try.prog 34 #[.slice A xs.length c] w fun e w' => ∃ v, e = .returned v ∧ Own w' w.heap.size 2 v (vnorm xs) ∧ Below w.heap.size w w' := by
  have HX := Lib.hid hx
  have HXB := Lib.hid (fun (W : World) (h : Below w.heap.size w W) => Kd.C_below hx h)
  have HN := Lib.hid (show vnorm xs = vmap (fun x => fdiv x (vroot xs)) xs from rfl)
  have HR := Lib.hid (show vroot xs = froot (fadd (fdiv (vdot xs xs) (fint (xs.length : Int))) 1) from rfl)
  clear hx
  go_enter Try.func34, Try.ntmps34
  go_wp2_with fail
  refine (dot_any A A c c xs xs w HX.out HX.out hc hc hn hn).mono ?_
  rintro e w1 ⟨rfl, hd⟩
  have HB := Lib.hid hd.below
  clear hd
  have HX1 := Lib.hid (fun o => Kd.C_below (HXB.out _ HB.out) ((Below.refl _ w1).alloc (Nat.le_refl _) o))
  go_wp2_with (first
    | (go_at_call 48; refine (cut_any _ _ _ _ hc hn).mono ?_; rintro e w' ⟨rfl, rfl⟩)
    | (go_at_call 69; refine (fint_any _ _ (by omega) (by omega)).mono ?_; rintro e w' ⟨rfl, rfl⟩)
    | (go_at_call 60; refine (div_any _ _ _).mono ?_; rintro e w' ⟨rfl, rfl⟩)
    | (go_at_call 58; refine (add_any _ _ _).mono ?_; rintro e w' ⟨rfl, rfl⟩)
    | (go_at_call 70; refine (sqrt_any _ _).mono ?_; rintro e w' ⟨rfl, rfl⟩; rw [← HR.out]))
  refine (each_box A c xs _ w1 (HX1.out _) hc hn ((Below.refl _ w1).alloc (Nat.le_refl _) _) 71 (enters_of Try.func71 (by kernel_rfl) rfl) (vroot xs) w1.heap.size (by simp) fdiv (fun x w h => norm1_any x _ _ w h)).mono ?_
  rintro e w' ⟨v, rfl, ho, hb⟩
  have HO := Lib.hid (ho.lower HB.out.size)
  have HB2 := Lib.hid (below_then HB.out HB.out.size hb)
  clear ho hb
  go_wp2_with fail
  go_ret
  exact ⟨v, rfl, HO.out, HB2.out⟩

theorem soft1_any (x t s : Int) (b1 b2 : Nat) (w : World) (t0 : -2147483648 ≤ t) (t1 : t ≤ 2147483647) (h1 : w.cell? ⟨b1, 0, none⟩ = some (.int .i64 t)) (h2 : w.cell? ⟨b2, 0, none⟩ = some (.int .i64 s)) (h3 : w.frozen? ⟨b2, 0, none⟩ = false) :
    Calls Try.prog 56 #[.int .i64 x, .pointer (some ⟨b1, 0, none⟩), .pointer (some ⟨b2, 0, none⟩)] w fun e w' => e = .returned (.int .i64 (fexp (fadd x (-t)))) ∧ w' = w.setCell ⟨b2, 0, none⟩ (.int .i64 (fadd s (fexp (fadd x (-t))))) := by
  go_enter Try.func56, Try.ntmps56
  go_wp2_with (first
    | (go_at_call 58; refine (add_any _ _ _).mono ?_; rintro e w' ⟨rfl, rfl⟩)
    | (go_at_call 57; refine (exp_any _ _).mono ?_; rintro e w' ⟨rfl, rfl⟩))
  go_ret
  exact ⟨rfl, rfl⟩

/-- What holds while the weights are summed up. -/
def SoftI (w : World) (b1 b2 : Nat) (t : Int) (xs : List Int) (i : Nat) (W : World) : Prop :=
  Below w.heap.size w W ∧ w.heap.size ≤ b2 ∧ b1 ≠ b2 ∧ W.cell? ⟨b1, 0, none⟩ = some (.int .i64 t) ∧ W.cell? ⟨b2, 0, none⟩ = some (.int .i64 (sumTo (fun j => fexp (fadd (xs.getD j 0) (-t))) i)) ∧ W.frozen? ⟨b2, 0, none⟩ = false

theorem softI_below {w W W' : World} {b1 b2 B : Nat} {t : Int} {xs : List Int} {i : Nat} (h : SoftI w b1 b2 t xs i W) (hB : w.heap.size ≤ B) (h1 : b1 < B) (h2 : b2 < B) (hb : Below B W W') : SoftI w b1 b2 t xs i W' := by
  obtain ⟨g1, g2, g3, g4, g5, g6⟩ := h
  exact ⟨g1.trans (hb.mono hB), g2, g3, (hb.cell (p := ⟨b1, 0, none⟩) h1).trans g4, (hb.cell (p := ⟨b2, 0, none⟩) h2).trans g5, (hb.frozen (p := ⟨b2, 0, none⟩) h2).trans g6⟩

theorem softI_step {w W : World} {b1 b2 : Nat} {t : Int} {xs : List Int} {i : Nat} (h : SoftI w b1 b2 t xs i W) : SoftI w b1 b2 t xs (i + 1) (W.setCell ⟨b2, 0, none⟩ (.int .i64 (fadd (sumTo (fun j => fexp (fadd (xs.getD j 0) (-t))) i) (fexp (fadd (xs.getD i 0) (-t)))))) := by
  obtain ⟨g1, g2, g3, g4, g5, g6⟩ := h
  refine ⟨g1.setCell (p := ⟨b2, 0, none⟩) g2 _, g2, g3, ?_, ?_, ?_⟩
  · rw [World.cell?_setCell_other]
    · exact g4
    · intro hh; injection hh with hh; exact g3 hh.symm
  · exact World.cell?_setCell_same' _ _ _ (by rw [g5]; rfl)
  · rw [World.frozen?_setCell]; exact g6

theorem soft_nil (A : Option Addr) (c : Nat) (w : World) :
    Calls Try.prog 19 #[.slice A 0 c] w fun e w' => e = .returned (.slice none 0 0) ∧ w = w' := by
  go_enter Try.func19, Try.ntmps19
  go_wp2
  go_ret
  exact ⟨rfl, rfl⟩

theorem soft_some (A : Option Addr) (c : Nat) (xs : List Int) (w : World) (hx : (Kd.int .i64).C w A xs.length xs) (hc : xs.length ≤ c) (hn : xs.length ≤ 4096) (hp : 0 < xs.length) :
    Calls Try.prog 19 #[.slice A xs.length c] w fun e w' => ∃ v, e = .returned v ∧ Own w' w.heap.size 2 v (vsoft xs) ∧ Below w.heap.size w w' := by
  have HX := Lib.hid hx
  have HX1 := Lib.hid (fun o o' => Kd.C_below hx (((Below.refl _ w).alloc (Nat.le_refl _) o).alloc (by simp) o'))
  obtain ⟨t, ht⟩ : ∃ t, wi (vmax xs) = t := ⟨_, rfl⟩
  have t0 : -2147483648 ≤ t := by rw [← ht]; exact wi_lo _
  have t1 : t ≤ 2147483647 := by rw [← ht]; exact wi_hi _
  have HT := Lib.hid ht
  have HV := Lib.hid (show vsoft xs = tab xs.length (fun j => fdiv (fexp (fadd (xs.getD j 0) (-t))) (sumTo (fun j => fexp (fadd (xs.getD j 0) (-t))) xs.length)) by unfold vsoft; unfold vexp; rw [ht])
  have z : ((xs.length : Int) == 0) = false := by simp; intro h; subst h; simp at hp
  clear hx ht
  go_enter Try.func19, Try.ntmps19
  go_wp2_with (first
    | (go_at_call 48; refine (cut_any _ _ _ _ hc hn).mono ?_; rintro e w' ⟨rfl, rfl⟩)
    | (go_at_call 54; refine (max_any _ _ _ _ HX.out hp hn).mono ?_; rintro e w' ⟨rfl, rfl⟩)
    | (go_at_call 50; refine (within_any _ _).mono ?_; rintro e w' ⟨rfl, rfl⟩; rw [HT.out]))
  refine (each_any A c xs _ (HX1.out _ _) hc hn 56 #[.pointer (some ⟨w.heap.size, 0, none⟩), .pointer (some ⟨w.heap.size + 1, 0, none⟩)] (enters_of Try.func56 (by kernel_rfl) rfl) (fun j => fexp (fadd (xs.getD j 0) (-t)))
    (SoftI w w.heap.size (w.heap.size + 1) t xs) ⟨((Below.refl _ w).alloc (Nat.le_refl _) _).alloc (by simp) _, by omega, by omega, by simp, by simp [sumTo], by simp⟩
    (fun i W W' h hb => softI_below h (by simp; omega) (by simp; omega) (by simp) hb)
    (fun i W hi h => (soft1_any _ _ _ _ _ W t0 t1 h.2.2.2.1 h.2.2.2.2.1 h.2.2.2.2.2).mono fun e W' ⟨q1, q2⟩ => by
      subst q2
      exact ⟨q1, softI_step h, by simp, fun k hk1 hk2 => Below.heap_setCell W _ _ k (by simp at hk1 ⊢; omega)⟩)).mono ?_
  rintro e w2 ⟨v, rfl, ho, hi, hs⟩
  obtain ⟨hb, -, -, -, hsum, -⟩ := hi
  obtain ⟨A2, c2, rfl, hc2, hC⟩ := ho.reads_n (tab_len _ _)
  have HC := Lib.hid hC
  have HB := Lib.hid hb
  have HSUM := Lib.hid hsum
  have HL := Lib.hid (tab_len xs.length (fun j => fexp (fadd (xs.getD j 0) (-t))))
  clear ho hb hC hsum hs
  go_wp2_with fail
  rw [← HL.out]
  refine (each_box A2 c2 (tab xs.length (fun j => fexp (fadd (xs.getD j 0) (-t)))) w2 w HC.out (by rw [HL.out]; exact hc2) (by rw [HL.out]; exact hn) HB.out 59 (enters_of Try.func59 (by kernel_rfl) rfl) _ (w.heap.size + 1) HSUM.out fdiv (fun x w h => soft2_any x _ _ w h)).mono ?_
  rintro e w' ⟨v, rfl, ho, hb⟩
  have HO := Lib.hid ho
  have HB2 := Lib.hid hb
  clear ho hb
  go_wp2_with fail
  go_ret
  refine ⟨v, rfl, ?_, HB2.out⟩
  have e9 : vmap (fun x => fdiv x (sumTo (fun j => fexp (fadd (xs.getD j 0) (-t))) xs.length)) (tab xs.length (fun j => fexp (fadd (xs.getD j 0) (-t)))) = vsoft xs := by
    rw [HV.out]
    unfold vmap
    rw [HL.out]
    exact tab_congr _ _ _ fun i hi => by rw [tab_get _ _ _ hi]
  rw [← e9]
  exact HO.out

end Go.Proofs.Ytgedmelohiajjaa
