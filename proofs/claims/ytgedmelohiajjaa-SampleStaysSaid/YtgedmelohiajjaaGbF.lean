/- Contracts of the document's vectors: Scale, Relu, Norm. -/
import Derived.Test.YtgedmelohiajjaaGbE
import Derived.Test.YtgedmelohiajjaaGbS
import Derived.Test.YtgedmelohiajjaaProg
import Derived.Test.YtgedmelohiajjaaGbB
import Derived.Test.YtgedmelohiajjaaGbW
import Derived.Test.YtgedmelohiajjaaWMore
import Derived.WalkKit
import Derived.KernelRfl
import Derived.Tactics
import Derived.OwnWalk
import Derived.BigQuiet
import Derived.Deep.QuietTactic
import Derived.Lib.Hide
import Derived.Outline
import Derived.StillTailTactics
import Derived.Deep.RegionLaw
import Derived.Shelf.Abstract
import Derived.WalkSpells
namespace Go.Proofs.Ytgedmelohiajjaa
open Go.RowKit Go.Shelf Go.Proofs.YtgedmelohiajjaaW.PrintWords Go.Proofs.YtgedmelohiajjaaW.PrintLast Go.Proofs.YtgedmelohiajjaaW.PrintMore
set_option linter.unusedVariables false
set_option linter.unusedSimpArgs false
attribute [local go_sem] gb_max2 gb_min2 gb_max_two gb_min_two gb_max_three gb_min_three

set_option maxRecDepth 100000 in
theorem rscale_vec (A : Option Addr) (c : Nat) (xs : List Int) (y : Int) (w : World) (hx : (Kd.int .i64).C w A xs.length xs) (hc : xs.length ≤ c) (hn : xs.length ≤ 4096) :
    Calls Try.prog 27 #[.slice A xs.length c, .int .i64 y] w fun e w' => ∃ v, e = .returned v ∧ Own w' w.heap.size 2 v (vscale xs y) ∧ Below w.heap.size w w' := by
  obtain ⟨n, hnn⟩ : ∃ n, xs.length = n := ⟨_, rfl⟩
  have HX := Lib.hid (fun (W : World) (hb : Below w.heap.size w W) => Kd.C_below hx hb)
  have HV := Lib.hid (show vscale xs y = tab n fun j => fmul (xs.getD j 0) y by unfold vscale vmap; rw [← hnn])
  rw [hnn] at hc hn ⊢
  have HN := Lib.hid hnn
  clear hx hnn
  go_enter Try.func27, Try.ntmps27
  go_wp2_with fail
  go_loopw [5, 6] (fun v s wr => ∃ k : Nat, s = .int .i64 k ∧ k ≤ n ∧ Own wr w.heap.size 2 v (tab k fun j => fmul (xs.getD j 0) y) ∧ Below w.heap.size w wr) (fun _ s _ => n - (intOf s).toNat)
  case atStart => exact ⟨0, rfl, by omega, Kd.R_nil _ _ _ _ _, Below.refl _ _⟩
  case round =>
    obtain ⟨k, rfl, hk, ho, hb⟩ := hrel
    have HO := Lib.hid ho
    have HB := Lib.hid hb
    have hsz := hb.size
    clear ho hb
    by_cases hkn : k < n
    · obtain ⟨a1, ea, c1⟩ := at_nat (HX.out _ HB.out) k (by rw [HN.out]; omega)
      subst ea
      have HT := Lib.hid (tab_succ k (fun j => fmul (xs.getD j 0) y))
      obtain ⟨x, hxx⟩ : ∃ x, xs.getD k 0 = x := ⟨_, rfl⟩
      rw [hxx] at c1
      have HXX := Lib.hid hxx
      clear hxx
      go_wp2_with fail
      refine (rcut_any _ _ _ _ hc hn).mono ?_
      rintro e w' ⟨rfl, rfl⟩
      go_wp2_with (first
        | (at_builtin; refine own_append (w0 := w) wr _ w.heap.size rfl _ _ 22 2 rfl Try.underlying22 infoI64 _ _ (fmul x y) wr.heap.size rfl rfl rfl rfl HO.out HB.out hsz (by rw [tab_len]; omega) ?_; intro v1 w1 ho1 hb1)
        | (go_at_call 66; refine (rmul_any _ _ _).mono ?_; rintro e w' ⟨rfl, rfl⟩))
      have HO1 := Lib.hid ho1
      have HB1 := Lib.hid hb1
      clear ho1 hb1
      go_wp2_with fail
      go_roundw
      case rel => exact ⟨k + 1, by go_num, by omega, by rw [HT.out, HXX.out]; exact HO1.out, HB1.out⟩
      case measure => simp [intOf]; omega
    · have HF := Lib.hid (show vscale xs y = tab k fun j => fmul (xs.getD j 0) y by rw [HV.out, show n = k by omega])
      go_wp2_with fail
      refine (rcut_any _ _ _ _ hc hn).mono ?_
      rintro e w' ⟨rfl, rfl⟩
      go_wp2_with fail
      go_ret
      exact ⟨_, rfl, by rw [HF.out]; exact HO.out, HB.out⟩

set_option maxRecDepth 100000 in
theorem rrelu_vec (A : Option Addr) (c : Nat) (xs : List Int) (w : World) (hx : (Kd.int .i64).C w A xs.length xs) (hc : xs.length ≤ c) (hn : xs.length ≤ 4096) :
    Calls Try.prog 29 #[.slice A xs.length c] w fun e w' => ∃ v, e = .returned v ∧ Own w' w.heap.size 2 v (vrelu xs) ∧ Below w.heap.size w w' := by
  obtain ⟨n, hnn⟩ : ∃ n, xs.length = n := ⟨_, rfl⟩
  have HX := Lib.hid (fun (W : World) (hb : Below w.heap.size w W) => Kd.C_below hx hb)
  have HV := Lib.hid (show vrelu xs = tab n fun j => max (wi (xs.getD j 0)) 0 by unfold vrelu vmap; rw [← hnn])
  rw [hnn] at hc hn ⊢
  have HN := Lib.hid hnn
  clear hx hnn
  go_enter Try.func29, Try.ntmps29
  go_wp2_with fail
  go_loopw [3, 4] (fun v s wr => ∃ k : Nat, s = .int .i64 k ∧ k ≤ n ∧ Own wr w.heap.size 2 v (tab k fun j => max (wi (xs.getD j 0)) 0) ∧ Below w.heap.size w wr) (fun _ s _ => n - (intOf s).toNat)
  case atStart => exact ⟨0, rfl, by omega, Kd.R_nil _ _ _ _ _, Below.refl _ _⟩
  case round =>
    obtain ⟨k, rfl, hk, ho, hb⟩ := hrel
    have HO := Lib.hid ho
    have HB := Lib.hid hb
    have hsz := hb.size
    clear ho hb
    by_cases hkn : k < n
    · obtain ⟨a1, ea, c1⟩ := at_nat (HX.out _ HB.out) k (by rw [HN.out]; omega)
      subst ea
      have HT := Lib.hid (tab_succ k (fun j => max (wi (xs.getD j 0)) 0))
      obtain ⟨x, hxx⟩ : ∃ x, xs.getD k 0 = x := ⟨_, rfl⟩
      rw [hxx] at c1
      have HXX := Lib.hid hxx
      clear hxx
      go_wp2_with fail
      refine (rcut_any _ _ _ _ hc hn).mono ?_
      rintro e w' ⟨rfl, rfl⟩
      go_wp2_with (first
        | (at_builtin; refine own_append (w0 := w) wr _ w.heap.size rfl _ _ 22 2 rfl Try.underlying22 infoI64 _ _ (max (wi x) 0) wr.heap.size rfl rfl rfl rfl HO.out HB.out hsz (by rw [tab_len]; omega) ?_; intro v1 w1 ho1 hb1)
        | (go_at_call 20; refine (rwithin_any _ _).mono ?_; rintro e w' ⟨rfl, rfl⟩))
      have HO1 := Lib.hid ho1
      have HB1 := Lib.hid hb1
      clear ho1 hb1
      go_wp2_with fail
      go_roundw
      case rel => exact ⟨k + 1, by go_num, by omega, by rw [HT.out, HXX.out]; exact HO1.out, HB1.out⟩
      case measure => simp [intOf]; omega
    · have HF := Lib.hid (show vrelu xs = tab k fun j => max (wi (xs.getD j 0)) 0 by rw [HV.out, show n = k by omega])
      go_wp2_with fail
      refine (rcut_any _ _ _ _ hc hn).mono ?_
      rintro e w' ⟨rfl, rfl⟩
      go_wp2_with fail
      go_ret
      exact ⟨_, rfl, by rw [HF.out]; exact HO.out, HB.out⟩

set_option maxRecDepth 100000 in
theorem rnorm_vec (A : Option Addr) (c : Nat) (xs : List Int) (w : World) (hx : (Kd.int .i64).C w A xs.length xs) (hc : xs.length ≤ c) (hn : xs.length ≤ 4096) :
    Calls Try.prog 35 #[.slice A xs.length c] w fun e w' => ∃ v, e = .returned v ∧ Own w' w.heap.size 2 v (vnorm xs) ∧ Below w.heap.size w w' := by
  have HX0 := Lib.hid hx
  have HX := Lib.hid (fun (W : World) (hb : Below w.heap.size w W) => Kd.C_below hx hb)
  obtain ⟨m, hm⟩ : ∃ m, fadd (fdiv (vdot xs xs) (fint (xs.length : Int))) 1 = m := ⟨_, rfl⟩
  have HV := Lib.hid (show vnorm xs = tab xs.length fun j => fdiv (xs.getD j 0) (froot m) by unfold vnorm vmap vroot; rw [hm])
  have HM := Lib.hid hm
  clear hx hm
  go_enter Try.func35, Try.ntmps35
  go_wp2_with fail
  refine (rdot_any A A c c xs xs w HX0.out HX0.out hc hc hn hn).mono ?_
  rintro e w1 ⟨rfl, hd⟩
  have HB0 := Lib.hid hd.below
  clear hd
  obtain ⟨n, hnn⟩ : ∃ n, xs.length = n := ⟨_, rfl⟩
  rw [hnn] at hc hn HM HV ⊢
  have HN := Lib.hid hnn
  clear hnn
  go_wp2_with fail
  refine (rcut_any _ _ _ _ hc hn).mono ?_
  rintro e w' ⟨rfl, rfl⟩
  go_wp2_with (first
    | (go_at_call 73; refine (rfint_any _ _ (by omega) (by omega)).mono ?_; rintro e w' ⟨rfl, rfl⟩)
    | (go_at_call 72; refine (rdiv_any _ _ _).mono ?_; rintro e w' ⟨rfl, rfl⟩)
    | (go_at_call 65; refine (radd_any _ _ _).mono ?_; rintro e w' ⟨rfl, rfl⟩; rw [HM.out]))
  go_loopw [4, 5] (fun v s wr => ∃ k : Nat, s = .int .i64 k ∧ k ≤ n ∧ Own wr w.heap.size 2 v (tab k fun j => fdiv (xs.getD j 0) (froot m)) ∧ Below w.heap.size w wr) (fun _ s _ => n - (intOf s).toNat)
  case atStart => exact ⟨0, rfl, by omega, Kd.R_nil _ _ _ _ _, HB0.out⟩
  case round =>
    obtain ⟨k, rfl, hk, ho, hb⟩ := hrel
    have HO := Lib.hid ho
    have HB := Lib.hid hb
    have hsz := hb.size
    clear ho hb
    by_cases hkn : k < n
    · obtain ⟨a1, ea, c1⟩ := at_nat (HX.out _ HB.out) k (by rw [HN.out]; omega)
      subst ea
      have HT := Lib.hid (tab_succ k (fun j => fdiv (xs.getD j 0) (froot m)))
      obtain ⟨x, hxx⟩ : ∃ x, xs.getD k 0 = x := ⟨_, rfl⟩
      rw [hxx] at c1
      have HXX := Lib.hid hxx
      clear hxx
      go_wp2_with fail
      refine (rcut_any _ _ _ _ hc hn).mono ?_
      rintro e w' ⟨rfl, rfl⟩
      go_wp2_with fail
      go_region_law (first
        | (refine own_append_step (w0 := w) wr.drew _ w.heap.size rfl _ _ 22 2 rfl Try.underlying22 infoI64 _ _ (fdiv x (froot m)) wr.heap.size rfl rfl rfl rfl (HO.out.below (below_drew (Below.refl _ _))) (below_drew HB.out) hsz (by rw [tab_len]; omega) ?_; intro v1 w1 ho1 hb1)
        | (go_simp; go_at_call 74; refine (rsqrt_any m _).mono ?_; rintro e w' ⟨rfl, rfl⟩)
        | (go_simp; go_at_call 72; refine (rdiv_any x (froot m) _).mono ?_; rintro e w' ⟨rfl, rfl⟩))
      all_goals
        have HO1 := Lib.hid ho1
        have HB1 := Lib.hid hb1
        clear ho1 hb1
        go_wp2_with fail
        go_roundw
        case rel => exact ⟨k + 1, by go_num, by omega, by rw [HT.out, HXX.out]; exact HO1.out, HB1.out⟩
        case measure => simp [intOf]; omega
    · have HF := Lib.hid (show vnorm xs = tab k fun j => fdiv (xs.getD j 0) (froot m) by rw [HV.out, show n = k by omega])
      go_wp2_with fail
      refine (rcut_any _ _ _ _ hc hn).mono ?_
      rintro e w' ⟨rfl, rfl⟩
      go_wp2_with fail
      go_ret
      exact ⟨_, rfl, by rw [HF.out]; exact HO.out, HB.out⟩

end Go.Proofs.Ytgedmelohiajjaa
