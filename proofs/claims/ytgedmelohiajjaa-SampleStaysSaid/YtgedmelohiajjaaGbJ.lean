/- Tables: the products, and rows mixed, in the program and in the document. -/
import Derived.Test.YtgedmelohiajjaaGbG
import Derived.Test.YtgedmelohiajjaaProg
import Derived.Test.YtgedmelohiajjaaGbB
import Derived.Test.YtgedmelohiajjaaGbW
import Derived.Test.YtgedmelohiajjaaWMore
import Derived.WalkKit
import Derived.KernelRfl
import Derived.Tactics
import Derived.OwnWalk
import Derived.BigQuiet
import Derived.Deep.QuietTactic
import Derived.Lib.Hide
import Derived.Outline
import Derived.StillTailTactics
import Derived.Deep.RegionLaw
import Derived.Shelf.Abstract
import Derived.WalkSpells
namespace Go.Proofs.Ytgedmelohiajjaa
open Go.RowKit Go.Shelf Go.Proofs.YtgedmelohiajjaaW.PrintWords Go.Proofs.YtgedmelohiajjaaW.PrintLast Go.Proofs.YtgedmelohiajjaaW.PrintMore
set_option linter.unusedVariables false
set_option linter.unusedSimpArgs false
attribute [local go_sem] gb_max2 gb_min2 gb_max_two gb_min_two gb_max_three gb_min_three

def vmul (xss : List (List Int)) (ys : List Int) : List Int := tab xss.length fun j => vdot (xss.getD j []) ys
def mixTo (ws : List Int) (xss : List (List Int)) : Nat → List Int
  | 0 => List.replicate (xss.getD 0 []).length 0
  | i + 1 => vadd (mixTo ws xss i) (vscale (xss.getD i []) (ws.getD i 0))
def vmix (ws : List Int) (xss : List (List Int)) : List Int := if xss.length = 0 then [] else mixTo ws xss (min ws.length xss.length)
theorem vadd_le (xs ys : List Int) : (vadd xs ys).length ≤ xs.length := by unfold vadd; rw [tab_len]; omega
theorem vscale_len (xs : List Int) (y : Int) : (vscale xs y).length = xs.length := by unfold vscale vmap; rw [tab_len]
theorem mixTo_len (ws : List Int) (xss : List (List Int)) (i : Nat) : (mixTo ws xss i).length ≤ (xss.getD 0 []).length := by
  induction i with
  | zero => simp [mixTo]
  | succ i ih => exact Nat.le_trans (vadd_le _ _) ih
/-- Every row is short. -/
def Short (xss : List (List Int)) : Prop := ∀ j, (xss.getD j []).length ≤ 4096
theorem infoRow : (Try.prog.info? 22).map (fun i => (i.zero, i.size, i.bytes)) = some (some (.slice none 0 0), 1, 24) := by kernel_rfl

/-- rows[:n]. -/
theorem cutRows (A : Option Addr) (n c : Nat) (j : Int) (h0 : 0 ≤ j) (h : j ≤ n) (hc : n ≤ c) : ∀ W : World, (Instr.slice 37 (.slice A n c) none (some (.int .i64 j)) none).run Try.prog W = .ok (.slice A j.toNat c) W := by
  obtain ⟨i, hi, _, hs, _⟩ := info_parts infoRow
  exact cut_to (P := Try.prog) 37 22 .i64 Try.underlying37 hi A n c j h0 h hc

set_option maxRecDepth 100000 in
theorem vmul_any (A B : Option Addr) (c d : Nat) (xss : List (List Int)) (ys : List Int) (w : World) (hx : Rows_ w A xss) (hs : Short xss) (hy : (Kd.int .i64).C w B ys.length ys) (hc : xss.length ≤ c) (hd : ys.length ≤ d) (hn : xss.length ≤ 4096) (hm : ys.length ≤ 4096) :
    Calls Try.prog 30 #[.slice A xss.length c, .slice B ys.length d] w fun e w' => ∃ v, e = .returned v ∧ Own w' w.heap.size 2 v (vmul xss ys) ∧ Below w.heap.size w w' := by
  have HX := Lib.hid (fun (W : World) (hb : Below w.heap.size w W) => hx.below hb)
  have HY := Lib.hid (fun (W : World) (hb : Below w.heap.size w W) => Kd.C_below hy hb)
  have HS := Lib.hid hs
  obtain ⟨n, hnn⟩ : ∃ n, xss.length = n := ⟨_, rfl⟩
  have HV := Lib.hid (show vmul xss ys = tab n fun j => vdot (xss.getD j []) ys by unfold vmul; rw [hnn])
  rw [hnn] at hc hn ⊢
  have HN := Lib.hid hnn
  have s1 := cutRows A n c (min (n : Int) 4096) (by omega) (by omega) hc
  have e1 : (min (n : Int) 4096).toNat = n := by omega
  rw [e1] at s1
  clear hx hy hs hnn e1
  go_enter Try.func30, Try.ntmps30
  go_wp2_with fail
  go_loopw [5, 14] (fun v s wr => ∃ k : Nat, s = .int .i64 k ∧ k ≤ n ∧ Own wr w.heap.size 2 v (tab k fun j => vdot (xss.getD j []) ys) ∧ Below w.heap.size w wr) (fun _ s _ => n - (intOf s).toNat)
  case atStart => exact ⟨0, rfl, by omega, Kd.R_nil _ _ _ _ _, Below.refl _ _⟩
  case round =>
    obtain ⟨k, rfl, hk, ho, hb⟩ := hrel
    have HO := Lib.hid ho
    have HB := Lib.hid hb
    have hsz := hb.size
    clear ho hb
    by_cases hkn : k < n
    · obtain ⟨a1, A', c', ea, c1, hc', hC⟩ := (HX.out _ HB.out).at_ k (by rw [HN.out]; exact hkn)
      subst ea
      have HT := Lib.hid (tab_succ k (fun j => vdot (xss.getD j []) ys))
      have hsh := HS.out k
      obtain ⟨xs, hxx⟩ : ∃ xs, xss.getD k [] = xs := ⟨_, rfl⟩
      rw [hxx] at c1 hc' hC hsh
      have HXX := Lib.hid hxx
      have HC := Lib.hid hC
      clear hxx hC
      go_wp2_with fail
      refine (dot_any A' B c' d xs ys wr HC.out (HY.out _ HB.out) hc' hd hsh hm).mono ?_
      rintro e w2 ⟨rfl, hd2⟩
      have hb2 := hd2.below
      have HO2 := Lib.hid (HO.out.below hb2)
      have HB2 := Lib.hid (below_then HB.out hsz hb2)
      have hsz2 := HB2.out.size
      clear hd2 hb2
      go_wp2_with (at_builtin; refine own_append (w0 := w) w2 _ w.heap.size rfl _ _ 22 2 rfl Try.underlying22 infoI64 _ _ (vdot xs ys) w2.heap.size rfl rfl rfl rfl HO2.out HB2.out hsz2 (by rw [tab_len]; omega) ?_; intro v1 w1 ho1 hb1; have HO1 := Lib.hid ho1; have HB1 := Lib.hid hb1; clear ho1 hb1)
      go_roundw
      case rel => exact ⟨k + 1, by go_num, by omega, by rw [HT.out, HXX.out]; exact HO1.out, HB1.out⟩
      case measure => simp [intOf]; omega
    · have HF := Lib.hid (show vmul xss ys = tab k fun j => vdot (xss.getD j []) ys by rw [HV.out, show n = k by omega])
      go_wp2_with fail
      go_ret
      exact ⟨_, rfl, by rw [HF.out]; exact HO.out, HB.out⟩

set_option maxRecDepth 100000 in
theorem rvmul_any (A B : Option Addr) (c d : Nat) (xss : List (List Int)) (ys : List Int) (w : World) (hx : Rows_ w A xss) (hs : Short xss) (hy : (Kd.int .i64).C w B ys.length ys) (hc : xss.length ≤ c) (hd : ys.length ≤ d) (hn : xss.length ≤ 4096) (hm : ys.length ≤ 4096) :
    Calls Try.prog 31 #[.slice A xss.length c, .slice B ys.length d] w fun e w' => ∃ v, e = .returned v ∧ Own w' w.heap.size 2 v (vmul xss ys) ∧ Below w.heap.size w w' := by
  have HX := Lib.hid (fun (W : World) (hb : Below w.heap.size w W) => hx.below hb)
  have HY := Lib.hid (fun (W : World) (hb : Below w.heap.size w W) => Kd.C_below hy hb)
  have HS := Lib.hid hs
  obtain ⟨n, hnn⟩ : ∃ n, xss.length = n := ⟨_, rfl⟩
  have HV := Lib.hid (show vmul xss ys = tab n fun j => vdot (xss.getD j []) ys by unfold vmul; rw [hnn])
  rw [hnn] at hc hn ⊢
  have HN := Lib.hid hnn
  clear hx hy hs hnn
  go_enter Try.func31, Try.ntmps31
  go_wp2_with fail
  go_loopw [5, 6] (fun v s wr => ∃ k : Nat, s = .int .i64 k ∧ k ≤ n ∧ Own wr w.heap.size 2 v (tab k fun j => vdot (xss.getD j []) ys) ∧ Below w.heap.size w wr) (fun _ s _ => n - (intOf s).toNat)
  case atStart => exact ⟨0, rfl, by omega, Kd.R_nil _ _ _ _ _, Below.refl _ _⟩
  case round =>
    obtain ⟨k, rfl, hk, ho, hb⟩ := hrel
    have HO := Lib.hid ho
    have HB := Lib.hid hb
    have hsz := hb.size
    clear ho hb
    by_cases hkn : k < n
    · obtain ⟨a1, A', c', ea, c1, hc', hC⟩ := (HX.out _ HB.out).at_ k (by rw [HN.out]; exact hkn)
      subst ea
      have HT := Lib.hid (tab_succ k (fun j => vdot (xss.getD j []) ys))
      have hsh := HS.out k
      obtain ⟨xs, hxx⟩ : ∃ xs, xss.getD k [] = xs := ⟨_, rfl⟩
      rw [hxx] at c1 hc' hC hsh
      have HXX := Lib.hid hxx
      have HC := Lib.hid hC
      have hk4 : k < 4096 := by omega
      clear hxx hC
      go_wp2_with fail
      refine (rdot_any A' B c' d xs ys wr HC.out (HY.out _ HB.out) hc' hd hsh hm).mono ?_
      rintro e w2 ⟨rfl, hd2⟩
      have hb2 := hd2.below
      have HO2 := Lib.hid (HO.out.below hb2)
      have HB2 := Lib.hid (below_then HB.out hsz hb2)
      have hsz2 := HB2.out.size
      clear hd2 hb2
      go_wp2_with (at_builtin; refine own_append (w0 := w) w2 _ w.heap.size rfl _ _ 22 2 rfl Try.underlying22 infoI64 _ _ (vdot xs ys) w2.heap.size rfl rfl rfl rfl HO2.out HB2.out hsz2 (by rw [tab_len]; omega) ?_; intro v1 w1 ho1 hb1; have HO1 := Lib.hid ho1; have HB1 := Lib.hid hb1; clear ho1 hb1)
      go_roundw
      case rel => exact ⟨k + 1, by go_num, by omega, by rw [HT.out, HXX.out]; exact HO1.out, HB1.out⟩
      case measure => simp [intOf]; omega
    · have HF := Lib.hid (show vmul xss ys = tab k fun j => vdot (xss.getD j []) ys by rw [HV.out, show n = k by omega])
      go_wp2_with fail
      go_ret
      exact ⟨_, rfl, by rw [HF.out]; exact HO.out, HB.out⟩

end Go.Proofs.Ytgedmelohiajjaa
