/- Contracts of the document's vectors: Dot, Add, Scale, Relu. -/
import Derived.Test.YtgedmelohiajjaaGbN
import Derived.Test.YtgedmelohiajjaaGbR
import Derived.Test.YtgedmelohiajjaaProg
import Derived.Test.YtgedmelohiajjaaGbB
import Derived.Test.YtgedmelohiajjaaGbW
import Derived.Test.YtgedmelohiajjaaWMore
import Derived.WalkKit
import Derived.KernelRfl
import Derived.Tactics
import Derived.OwnWalk
import Derived.BigQuiet
import Derived.Deep.QuietTactic
import Derived.Lib.Hide
import Derived.Outline
import Derived.StillTailTactics
import Derived.Deep.RegionLaw
import Derived.Shelf.Abstract
import Derived.WalkSpells
namespace Go.Proofs.Ytgedmelohiajjaa
open Go.RowKit Go.Shelf Go.Proofs.YtgedmelohiajjaaW.PrintWords Go.Proofs.YtgedmelohiajjaaW.PrintLast Go.Proofs.YtgedmelohiajjaaW.PrintMore
set_option linter.unusedVariables false
set_option linter.unusedSimpArgs false
attribute [local go_sem] gb_max2 gb_min2 gb_max_two gb_min_two gb_max_three gb_min_three

/-- append(v, y), behind 'at_builtin', to a row of one's own. -/
theorem own_append {P : Program} {ops : Array Oper} {rest : List Oper} {o : Oper} {a : Act} {Q : Exit → Act → World → Prop} {w0 : World} (W W' : World) (base : Nat) (hgd : o.guard = none) (s x : Operand) (t e : TypeId)
    (ho : o.op = .call { callee := .builtin .append, args := #[s, x], argTypes := #[t, t] })
    (ht : P.underlying t = some (.slice e)) (hinfo : (P.info? e).map (fun i => (i.zero, i.size, i.bytes)) = some (some (.int .i64 0), 1, 8))
    (v : Value) (xs : List Int) (y : Int) (g : Nat) (hs : a.eval s = v) (hx : a.eval x = .slice (some ⟨g, 0, none⟩) 1 1) (hg : g = W.heap.size) (hW : W' = W.alloc (.cells #[.int .i64 y] e))
    (HO : Own W base e v xs) (HB : Below base w0 W) (hbase : base ≤ W.heap.size) (hl : xs.length ≤ 1000000)
    (h : ∀ v1 w1, Own w1 base e v1 (xs ++ [y]) → Below base w0 w1 → wpList P ops Q rest (a.put o.dst v1) w1) :
    wpList P ops Q (o :: rest) a W' := by
  subst hW hg
  refine print_append_num (w0 := w0) base hgd s x t e .i64 8 ho ht hinfo (by decide) v xs y hs hx (Kd.own_of_R (enc := Value.int .i64) (h1 := fun _ => rfl) HO) HB hbase (by omega) ?_
  intro v1 w1 hr hb hg hat
  exact h v1 w1 (Kd.R_of_own (enc := Value.int .i64) (h1 := fun _ => rfl) hr (fun _ _ => trivial)) hb

/-- The same inside a region that draws. -/
theorem own_append_step {P : Program} {ops : Array Oper} {o : Oper} {a : Act} {Q : Exit → Act → World → Prop} {K : Act → World → Prop} {w0 : World} (W W' : World) (base : Nat) (hw : Region.wanted o (yielded ops a.tmps) = true) (s x : Operand) (t e : TypeId)
    (ho : o.op = .call { callee := .builtin .append, args := #[s, x], argTypes := #[t, t] })
    (ht : P.underlying t = some (.slice e)) (hinfo : (P.info? e).map (fun i => (i.zero, i.size, i.bytes)) = some (some (.int .i64 0), 1, 8))
    (v : Value) (xs : List Int) (y : Int) (g : Nat) (hs : a.eval s = v) (hx : a.eval x = .slice (some ⟨g, 0, none⟩) 1 1) (hg : g = W.heap.size) (hW : W' = W.alloc (.cells #[.int .i64 y] e))
    (HO : Own W base e v xs) (HB : Below base w0 W) (hbase : base ≤ W.heap.size) (hl : xs.length ≤ 1000000)
    (h : ∀ v1 w1, Own w1 base e v1 (xs ++ [y]) → Below base w0 w1 → K (a.put o.dst v1) w1) :
    if Region.wanted o (yielded ops a.tmps) = true then Oper.wp P o a W' K Q else K (a.put o.dst undef) W' := by
  subst hW hg
  refine step_append_cells (w0 := w0) base hw s x t e (.int .i64 0) 1 8 ho ht hinfo rfl (by decide) (by decide) v xs.length (nums .i64 xs) [.int .i64 y] hs hx rfl (by simp [Value.oneCell']) (Kd.own_of_R (enc := Value.int .i64) (h1 := fun _ => rfl) HO) HB hbase (by omega) ?_
  intro v1 w1 hr hb hg hat
  refine h v1 w1 (Kd.R_of_own (enc := Value.int .i64) (h1 := fun _ => rfl) ?_ (fun _ _ => trivial)) hb
  rw [List.length_append]
  simpa [encs, nums] using hr

theorem Calls.flip {P : Program} {f : FuncId} {args : Array Value} {w : World} {X : Ending} (h : Calls P f args w fun e w' => e = X ∧ w = w') : Calls P f args w fun e w' => e = X ∧ w' = w :=
  h.mono fun _ _ ⟨h1, h2⟩ => ⟨h1, h2.symm⟩

theorem rcut_any (A : Option Addr) (n c : Nat) (w : World) (hc : n ≤ c) (hn : n ≤ 4096) :
    Calls Try.prog 53 #[.slice A n c] w fun e w' => e = .returned (.slice A n c) ∧ w = w' := by
  have s1 := cutI64 A n c (min (n : Int) 4096) (by omega) (by omega) hc
  have e1 : (min (n : Int) 4096).toNat = n := by omega
  rw [e1] at s1
  clear e1
  go_enter Try.func53, Try.ntmps53
  go_wp2
  go_ret
  exact ⟨rfl, rfl⟩

theorem rboth_any (A B : Option Addr) (n m c d : Nat) (w : World) (hc : n ≤ c) (hd : m ≤ d) (hn : n ≤ 4096) (hm : m ≤ 4096) :
    Calls Try.prog 64 #[.slice A n c, .slice B m d] w fun e w' => e = .returned (.int .i64 (min n m : Nat)) ∧ w = w' := by
  go_enter Try.func64, Try.ntmps64
  go_wp2_with fail
  refine (rcut_any _ _ _ _ hc hn).mono ?_
  rintro e w' ⟨rfl, rfl⟩
  go_wp2_with fail
  refine (rcut_any _ _ _ _ hd hm).mono ?_
  rintro e w' ⟨rfl, rfl⟩
  go_wp2_with fail
  go_ret
  exact ⟨ret_i (by omega), rfl⟩

set_option maxRecDepth 100000 in
theorem rdot_any (A B : Option Addr) (c d : Nat) (xs ys : List Int) (w : World) (hx : (Kd.int .i64).C w A xs.length xs) (hy : (Kd.int .i64).C w B ys.length ys) (hc : xs.length ≤ c) (hd : ys.length ≤ d) (hn : xs.length ≤ 4096) (hm : ys.length ≤ 4096) :
    Calls Try.prog 24 #[.slice A xs.length c, .slice B ys.length d] w fun e w' => e = .returned (.int .i64 (vdot xs ys)) ∧ Drawn0 w w' := by
  have HX := Lib.hid hx
  have HY := Lib.hid hy
  have HD := Lib.hid (show vdot xs ys = dotTo xs ys (min xs.length ys.length) from rfl)
  obtain ⟨n, hnn⟩ : ∃ n, min xs.length ys.length = n := ⟨_, rfl⟩
  have hn1 : n ≤ xs.length := by omega
  have hn2 : n ≤ ys.length := by omega
  rw [hnn] at HD
  have HN := Lib.hid hnn
  clear hx hy hnn
  go_enter Try.func24, Try.ntmps24
  go_wp2_with fail
  go_loopw [5, 6] (fun v s wr => ∃ k : Nat, s = .int .i64 k ∧ k ≤ n ∧ v = .int .i64 (dotTo xs ys k) ∧ Drawn0 w wr) (fun _ s _ => n - (intOf s).toNat)
  case atStart => exact ⟨0, rfl, by omega, rfl, Drawn0.refl _⟩
  case round =>
    obtain ⟨k, rfl, hk, rfl, hd0⟩ := hrel
    have HD0 := Lib.hid hd0
    have hb := hd0.below
    have HB := Lib.hid hb
    clear hd0 hb
    by_cases hkn : k < n
    · obtain ⟨a1, ea, c1⟩ := at_nat (Kd.C_below HX.out HB.out) k (by omega)
      obtain ⟨a2, eb, c2⟩ := at_nat (Kd.C_below HY.out HB.out) k (by omega)
      subst ea eb
      have hk1 : k < xs.length := by omega
      have hk2 : k < ys.length := by omega
      have HS := Lib.hid (show dotTo xs ys (k + 1) = fadd (dotTo xs ys k) (fmul (xs.getD k 0) (ys.getD k 0)) from rfl)
      obtain ⟨x, hxx⟩ : ∃ x, xs.getD k 0 = x := ⟨_, rfl⟩
      obtain ⟨y, hyy⟩ : ∃ y, ys.getD k 0 = y := ⟨_, rfl⟩
      obtain ⟨z, hzz⟩ : ∃ z, dotTo xs ys k = z := ⟨_, rfl⟩
      rw [hxx] at c1
      rw [hyy] at c2
      rw [hxx, hyy, hzz] at HS
      rw [hzz]
      clear hxx hyy hzz
      go_wp2_with fail
      refine (rboth_any _ _ _ _ _ _ _ hc hd hn hm).mono ?_
      rw [HN.out]
      rintro e w' ⟨rfl, rfl⟩
      go_wp2_with fail
      go_quiet ((first | (go_at_call 66; exact Calls.quiet_of_same (Calls.flip (rmul_any x y _))) | (go_at_call 65; exact Calls.quiet_of_same (Calls.flip (radd_any z (fmul x y) _)))))
      go_wp2_with fail
      go_roundw
      case rel => exact ⟨k + 1, by go_num, by omega, by rw [HS.out], by exact Drawn0.step HD0.out _⟩
      case measure => simp [intOf]; omega
    · have HF := Lib.hid (show dotTo xs ys k = vdot xs ys by rw [HD.out]; congr 1; omega)
      go_wp2_with fail
      refine (rboth_any _ _ _ _ _ _ _ hc hd hn hm).mono ?_
      rw [HN.out]
      rintro e w' ⟨rfl, rfl⟩
      go_wp2_with fail
      go_ret
      exact ⟨ret_i HF.out, HD0.out⟩

set_option maxRecDepth 100000 in
theorem radd_vec (A B : Option Addr) (c d : Nat) (xs ys : List Int) (w : World) (hx : (Kd.int .i64).C w A xs.length xs) (hy : (Kd.int .i64).C w B ys.length ys) (hc : xs.length ≤ c) (hd : ys.length ≤ d) (hn : xs.length ≤ 4096) (hm : ys.length ≤ 4096) :
    Calls Try.prog 25 #[.slice A xs.length c, .slice B ys.length d] w fun e w' => ∃ v, e = .returned v ∧ Own w' w.heap.size 2 v (vadd xs ys) ∧ Below w.heap.size w w' := by
  obtain ⟨n, hnn⟩ : ∃ n, min xs.length ys.length = n := ⟨_, rfl⟩
  have hn1 : n ≤ xs.length := by omega
  have hn2 : n ≤ ys.length := by omega
  have HX := Lib.hid (fun (W : World) (hb : Below w.heap.size w W) => Kd.C_below hx hb)
  have HY := Lib.hid (fun (W : World) (hb : Below w.heap.size w W) => Kd.C_below hy hb)
  have HN := Lib.hid hnn
  have HV := Lib.hid (show vadd xs ys = tab n fun j => fadd (xs.getD j 0) (ys.getD j 0) by unfold vadd; rw [hnn])
  clear hx hy hnn
  go_enter Try.func25, Try.ntmps25
  go_wp2_with fail
  go_loopw [5, 6] (fun v s wr => ∃ k : Nat, s = .int .i64 k ∧ k ≤ n ∧ Own wr w.heap.size 2 v (tab k fun j => fadd (xs.getD j 0) (ys.getD j 0)) ∧ Below w.heap.size w wr) (fun _ s _ => n - (intOf s).toNat)
  case atStart => exact ⟨0, rfl, by omega, Kd.R_nil _ _ _ _ _, Below.refl _ _⟩
  case round =>
    obtain ⟨k, rfl, hk, ho, hb⟩ := hrel
    have HO := Lib.hid ho
    have HB := Lib.hid hb
    have hsz := hb.size
    clear ho hb
    by_cases hkn : k < n
    · obtain ⟨a1, ea, c1⟩ := at_nat (HX.out _ HB.out) k (by omega)
      obtain ⟨a2, eb, c2⟩ := at_nat (HY.out _ HB.out) k (by omega)
      subst ea eb
      have hk1 : k < xs.length := by omega
      have hk2 : k < ys.length := by omega
      have HT := Lib.hid (tab_succ k (fun j => fadd (xs.getD j 0) (ys.getD j 0)))
      obtain ⟨x, hxx⟩ : ∃ x, xs.getD k 0 = x := ⟨_, rfl⟩
      obtain ⟨y, hyy⟩ : ∃ y, ys.getD k 0 = y := ⟨_, rfl⟩
      rw [hxx] at c1
      rw [hyy] at c2
      have HXX := Lib.hid hxx
      have HYY := Lib.hid hyy
      clear hxx hyy
      go_wp2_with fail
      refine (rboth_any _ _ _ _ _ _ _ hc hd hn hm).mono ?_
      rw [HN.out]
      rintro e w' ⟨rfl, rfl⟩
      go_wp2_with fail
      go_region_law (first
        | (refine own_append_step (w0 := w) wr.drew _ w.heap.size rfl _ _ 22 2 rfl Try.underlying22 infoI64 _ _ (fadd x y) wr.heap.size rfl rfl rfl rfl (HO.out.below (below_drew (Below.refl _ _))) (below_drew HB.out) hsz (by rw [tab_len]; omega) ?_; intro v1 w1 ho1 hb1)
        | (go_simp; go_at_call 65; refine (radd_any x y _).mono ?_; rintro e w' ⟨rfl, rfl⟩))
      all_goals
        have HO1 := Lib.hid ho1
        have HB1 := Lib.hid hb1
        clear ho1 hb1
        go_wp2_with fail
        go_roundw
        case rel => exact ⟨k + 1, by go_num, by omega, by rw [HT.out, HXX.out, HYY.out]; exact HO1.out, HB1.out⟩
        case measure => simp [intOf]; omega
    · have HF := Lib.hid (show vadd xs ys = tab k fun j => fadd (xs.getD j 0) (ys.getD j 0) by rw [HV.out, show n = k by omega])
      go_wp2_with fail
      refine (rboth_any _ _ _ _ _ _ _ hc hd hn hm).mono ?_
      rw [HN.out]
      rintro e w' ⟨rfl, rfl⟩
      go_wp2_with fail
      go_ret
      exact ⟨_, rfl, by rw [HF.out]; exact HO.out, HB.out⟩

end Go.Proofs.Ytgedmelohiajjaa
