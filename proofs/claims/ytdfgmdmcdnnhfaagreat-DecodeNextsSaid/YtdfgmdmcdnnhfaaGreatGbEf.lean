/- Slices of slices: read; literals; rows that came in; Contracts of the document's vectors: Dot, Add, Scale, Relu; Contracts of the document's vectors: Scale, Relu, Norm; Contract of the document's Soft. -/
import Derived.Test.YtdfgmdmcdnnhfaaGreatGbHp
import Derived.Test.YtdfgmdmcdnnhfaaGreatProg
import Derived.Test.YtdfgmdmcdnnhfaaGreatGbB
import Derived.Test.YtdfgmdmcdnnhfaaGreatGbW
import Derived.Test.YtdfgmdmcdnnhfaaGreatWMore
import Derived.WalkKit
import Derived.KernelRfl
import Derived.Tactics
import Derived.OwnWalk
import Derived.BigQuiet
import Derived.Deep.QuietTactic
import Derived.Lib.Hide
import Derived.Outline
import Derived.Shelf.Abstract
import Derived.WalkSpells
import Derived.Test.YtdfgmdmcdnnhfaaGreatGbR
import Derived.StillTailTactics
import Derived.Deep.RegionLaw
import Derived.Test.YtdfgmdmcdnnhfaaGreatGbS
namespace Go.Proofs.YtdfgmdmcdnnhfaaGreat
open Go.RowKit Go.Shelf Go.Proofs.YtdfgmdmcdnnhfaaGreatW.PrintWords Go.Proofs.YtdfgmdmcdnnhfaaGreatW.PrintLast Go.Proofs.YtdfgmdmcdnnhfaaGreatW.PrintMore
set_option linter.unusedVariables false
set_option linter.unusedSimpArgs false
set_option maxRecDepth 100000
attribute [local go_sem] gb_max2 gb_min2 gb_max_two gb_min_two gb_max_three gb_min_three

/-- A literal of whole numbers is read. -/
theorem lit_C (W : World) (k : IntKind) (e : TypeId) (xs : List Int) (hm : xs.length ≤ 9223372036854775807) : (Kd.int k).C (W.alloc (.cells (nums k xs).toArray e)) (some ⟨W.heap.size, 0, none⟩) xs.length xs := by
  refine ⟨rfl, hm, fun _ => ⟨_, rfl, fun j p hj => ⟨[.int k p], rfl, rfl, fun i u hu => ?_⟩⟩⟩
  have h1 := heap_alloc_new W (.cells (nums k xs).toArray e)
  rw [show (Kd.int k).sz = 1 from rfl, add_plain, blk_cell h1]
  cases i with
  | zero =>
    have : Value.int k p = u := by simpa using hu
    subst this
    simp [nums, hj]
  | succ i => simp at hu

/-- A slice of slices of whole numbers is read. -/
def Rows_ (w : World) (A : Option Addr) (xss : List (List Int)) : Prop := (Kd.slice 2 (Kd.int .i64)).C w A xss.length xss
theorem Rows_.at_ {w : World} {A : Option Addr} {xss : List (List Int)} (h : Rows_ w A xss) (k : Nat) (hk : k < xss.length) :
    ∃ (ad : Addr) (A' : Option Addr) (c' : Nat), A = some ad ∧ w.cell? (ad.add k) = some (.slice A' (xss.getD k []).length c') ∧ (xss.getD k []).length ≤ c' ∧ (Kd.int .i64).C w A' (xss.getD k []).length (xss.getD k []) := by
  obtain ⟨ad, c, e, hl, hK, hcell⟩ := Kd.C_get h [] (k : Int) (by omega) (by omega)
  obtain ⟨A', c', rfl, h1, h2⟩ := hK
  refine ⟨ad, A', c', e, ?_, by simpa using h1, by simpa using h2⟩
  have := hcell 0 _ rfl
  simpa [show (Kd.slice 2 (Kd.int .i64)).sz = 1 from rfl] using this
theorem Rows_.below {w w1 : World} {A : Option Addr} {xss : List (List Int)} (h : Rows_ w A xss) (hb : Below w.heap.size w w1) : Rows_ w1 A xss := Kd.C_below h hb
/-- A literal of two slices. -/
theorem rows2 (W : World) (e : TypeId) (A B : Option Addr) (c d : Nat) (xs ys : List Int) (hx : (Kd.int .i64).C W A xs.length xs) (hy : (Kd.int .i64).C W B ys.length ys) (hc : xs.length ≤ c) (hd : ys.length ≤ d) :
    Rows_ (W.alloc (.cells #[.slice A xs.length c, .slice B ys.length d] e)) (some ⟨W.heap.size, 0, none⟩) [xs, ys] := by
  have hb : Below W.heap.size W (W.alloc (.cells #[.slice A xs.length c, .slice B ys.length d] e)) := (Below.refl _ W).alloc (Nat.le_refl _) _
  refine ⟨rfl, by simp, fun _ => ⟨_, rfl, fun j p hj => ?_⟩⟩
  have h1 := heap_alloc_new W (.cells #[.slice A xs.length c, .slice B ys.length d] e)
  match j, hj with
  | 0, hj =>
    obtain rfl : xs = p := by simpa using hj
    refine ⟨[.slice A xs.length c], rfl, ⟨A, c, rfl, hc, Kd.C_below hx hb⟩, fun i u hu => ?_⟩
    rw [show (Kd.slice 2 (Kd.int .i64)).sz = 1 from rfl, add_plain, blk_cell h1]
    cases i with
    | zero => simpa using hu
    | succ i => simp at hu
  | 1, hj =>
    obtain rfl : ys = p := by simpa using hj
    refine ⟨[.slice B ys.length d], rfl, ⟨B, d, rfl, hd, Kd.C_below hy hb⟩, fun i u hu => ?_⟩
    rw [show (Kd.slice 2 (Kd.int .i64)).sz = 1 from rfl, add_plain, blk_cell h1]
    cases i with
    | zero => simpa using hu
    | succ i => simp at hu
  | j + 2, hj => simp at hj
/-- A literal of one slice. -/
theorem rows1 (W : World) (e : TypeId) (A : Option Addr) (c : Nat) (xs : List Int) (hx : (Kd.int .i64).C W A xs.length xs) (hc : xs.length ≤ c) :
    Rows_ (W.alloc (.cells #[.slice A xs.length c] e)) (some ⟨W.heap.size, 0, none⟩) [xs] := by
  have hb : Below W.heap.size W (W.alloc (.cells #[.slice A xs.length c] e)) := (Below.refl _ W).alloc (Nat.le_refl _) _
  refine ⟨rfl, by simp, fun _ => ⟨_, rfl, fun j p hj => ?_⟩⟩
  have h1 := heap_alloc_new W (.cells #[.slice A xs.length c] e)
  match j, hj with
  | 0, hj =>
    obtain rfl : xs = p := by simpa using hj
    refine ⟨[.slice A xs.length c], rfl, ⟨A, c, rfl, hc, Kd.C_below hx hb⟩, fun i u hu => ?_⟩
    rw [show (Kd.slice 2 (Kd.int .i64)).sz = 1 from rfl, add_plain, blk_cell h1]
    cases i with
    | zero => simpa using hu
    | succ i => simp at hu
  | j + 1, hj => simp at hj

/-- A slice of integers that came in, as the shell of a law tells it. -/
theorem isrow_C {k : IntKind} {w : World} {a : Option Addr} {len cap : Nat} {zs : List Int}
    (h : (a = none ∧ len = 0 ∧ cap = 0 ∧ zs = []) ∨ ∃ x, a = some x ∧ len ≤ cap ∧ cap ≤ maxLen ∧ zs.length = cap ∧ (∀ i, i < zs.length → w.cell? (x.add i) = some (.int k (zs.getD i 0))) ∧ ∀ n ∈ zs, (Lit.int k n).wf = true) :
    ∃ xs : List Int, len = xs.length ∧ (Kd.int k).C w a xs.length xs ∧ xs.length ≤ cap ∧ (∀ n ∈ xs, (Lit.int k n).wf = true) := by
  rcases h with ⟨rfl, rfl, rfl, rfl⟩ | ⟨x, rfl, h1, h2, h3, h4, h5⟩
  · exact ⟨[], rfl, ⟨rfl, by simp, fun h => absurd h (Nat.lt_irrefl 0)⟩, by simp, by simp⟩
  · have hl : (zs.take len).length = len := by rw [List.length_take]; omega
    refine ⟨zs.take len, hl.symm, ⟨rfl, by rw [hl]; unfold maxLen at h2; omega, fun _ => ⟨x, rfl, fun j p hj => ⟨[.int k p], rfl, rfl, fun i u hu => ?_⟩⟩⟩, by omega, fun n hn => h5 n (List.mem_of_mem_take hn)⟩
    obtain ⟨hj1, hj2⟩ := List.getElem?_eq_some_iff.1 hj
    have hj3 : j < zs.length := by omega
    cases i with
    | zero =>
      have : Value.int k p = u := by simpa using hu
      subst this
      rw [show (Kd.int k).sz = 1 from rfl, Nat.mul_one, Nat.add_zero, h4 j hj3]
      rw [List.getD_eq_getElem?_getD, List.getElem?_eq_getElem hj3]
      rw [List.getElem_take] at hj2
      rw [← hj2]; rfl
    | succ i => simp at hu

end Go.Proofs.YtdfgmdmcdnnhfaaGreat

namespace Go.Proofs.YtdfgmdmcdnnhfaaGreat
open Go.RowKit Go.Shelf Go.Proofs.YtdfgmdmcdnnhfaaGreatW.PrintWords Go.Proofs.YtdfgmdmcdnnhfaaGreatW.PrintLast Go.Proofs.YtdfgmdmcdnnhfaaGreatW.PrintMore
set_option linter.unusedVariables false
set_option linter.unusedSimpArgs false
set_option maxRecDepth 100000
attribute [local go_sem] gb_max2 gb_min2 gb_max_two gb_min_two gb_max_three gb_min_three

/-- append(v, y), behind 'at_builtin', to a row of one's own. -/
theorem own_append {P : Program} {ops : Array Oper} {rest : List Oper} {o : Oper} {a : Act} {Q : Exit → Act → World → Prop} {w0 : World} (W W' : World) (base : Nat) (hgd : o.guard = none) (s x : Operand) (t e : TypeId)
    (ho : o.op = .call { callee := .builtin .append, args := #[s, x], argTypes := #[t, t] })
    (ht : P.underlying t = some (.slice e)) (hinfo : (P.info? e).map (fun i => (i.zero, i.size, i.bytes)) = some (some (.int .i64 0), 1, 8))
    (v : Value) (xs : List Int) (y : Int) (g : Nat) (hs : a.eval s = v) (hx : a.eval x = .slice (some ⟨g, 0, none⟩) 1 1) (hg : g = W.heap.size) (hW : W' = W.alloc (.cells #[.int .i64 y] e))
    (HO : Own W base e v xs) (HB : Below base w0 W) (hbase : base ≤ W.heap.size) (hl : xs.length ≤ 1000000)
    (h : ∀ v1 w1, Own w1 base e v1 (xs ++ [y]) → Below base w0 w1 → wpList P ops Q rest (a.put o.dst v1) w1) :
    wpList P ops Q (o :: rest) a W' := by
  subst hW hg
  refine print_append_num (w0 := w0) base hgd s x t e .i64 8 ho ht hinfo (by decide) v xs y hs hx (Kd.own_of_R (enc := Value.int .i64) (h1 := fun _ => rfl) HO) HB hbase (by omega) ?_
  intro v1 w1 hr hb hg hat
  exact h v1 w1 (Kd.R_of_own (enc := Value.int .i64) (h1 := fun _ => rfl) hr (fun _ _ => trivial)) hb

/-- The same inside a region that draws. -/
theorem own_append_step {P : Program} {ops : Array Oper} {o : Oper} {a : Act} {Q : Exit → Act → World → Prop} {K : Act → World → Prop} {w0 : World} (W W' : World) (base : Nat) (hw : Region.wanted o (yielded ops a.tmps) = true) (s x : Operand) (t e : TypeId)
    (ho : o.op = .call { callee := .builtin .append, args := #[s, x], argTypes := #[t, t] })
    (ht : P.underlying t = some (.slice e)) (hinfo : (P.info? e).map (fun i => (i.zero, i.size, i.bytes)) = some (some (.int .i64 0), 1, 8))
    (v : Value) (xs : List Int) (y : Int) (g : Nat) (hs : a.eval s = v) (hx : a.eval x = .slice (some ⟨g, 0, none⟩) 1 1) (hg : g = W.heap.size) (hW : W' = W.alloc (.cells #[.int .i64 y] e))
    (HO : Own W base e v xs) (HB : Below base w0 W) (hbase : base ≤ W.heap.size) (hl : xs.length ≤ 1000000)
    (h : ∀ v1 w1, Own w1 base e v1 (xs ++ [y]) → Below base w0 w1 → K (a.put o.dst v1) w1) :
    if Region.wanted o (yielded ops a.tmps) = true then Oper.wp P o a W' K Q else K (a.put o.dst undef) W' := by
  subst hW hg
  refine step_append_cells (w0 := w0) base hw s x t e (.int .i64 0) 1 8 ho ht hinfo rfl (by decide) (by decide) v xs.length (nums .i64 xs) [.int .i64 y] hs hx rfl (by simp [Value.oneCell']) (Kd.own_of_R (enc := Value.int .i64) (h1 := fun _ => rfl) HO) HB hbase (by omega) ?_
  intro v1 w1 hr hb hg hat
  refine h v1 w1 (Kd.R_of_own (enc := Value.int .i64) (h1 := fun _ => rfl) ?_ (fun _ _ => trivial)) hb
  rw [List.length_append]
  simpa [encs, nums] using hr

theorem Calls.flip {P : Program} {f : FuncId} {args : Array Value} {w : World} {X : Ending} (h : Calls P f args w fun e w' => e = X ∧ w = w') : Calls P f args w fun e w' => e = X ∧ w' = w :=
  h.mono fun _ _ ⟨h1, h2⟩ => ⟨h1, h2.symm⟩

theorem rcut_any (A : Option Addr) (n c : Nat) (w : World) (hc : n ≤ c) (hn : n ≤ 4096) :
    Calls Tryz.prog 85 #[.slice A n c] w fun e w' => e = .returned (.slice A n c) ∧ w = w' := by
  have s1 := cutI64 A n c (min (n : Int) 4096) (by omega) (by omega) hc
  have e1 : (min (n : Int) 4096).toNat = n := by omega
  rw [e1] at s1
  clear e1
  go_enter Tryz.func85, Tryz.ntmps85
  go_wp2
  go_ret
  exact ⟨rfl, rfl⟩

theorem rboth_any (A B : Option Addr) (n m c d : Nat) (w : World) (hc : n ≤ c) (hd : m ≤ d) (hn : n ≤ 4096) (hm : m ≤ 4096) :
    Calls Tryz.prog 50 #[.slice A n c, .slice B m d] w fun e w' => e = .returned (.int .i64 (min n m : Nat)) ∧ w = w' := by
  go_enter Tryz.func50, Tryz.ntmps50
  go_wp2_with fail
  refine (rcut_any _ _ _ _ hc hn).mono ?_
  rintro e w' ⟨rfl, rfl⟩
  go_wp2_with fail
  refine (rcut_any _ _ _ _ hd hm).mono ?_
  rintro e w' ⟨rfl, rfl⟩
  go_wp2_with fail
  go_ret
  exact ⟨ret_i (by omega), rfl⟩

set_option maxRecDepth 100000 in
theorem rdot_any (A B : Option Addr) (c d : Nat) (xs ys : List Int) (w : World) (hx : (Kd.int .i64).C w A xs.length xs) (hy : (Kd.int .i64).C w B ys.length ys) (hc : xs.length ≤ c) (hd : ys.length ≤ d) (hn : xs.length ≤ 4096) (hm : ys.length ≤ 4096) :
    Calls Tryz.prog 81 #[.slice A xs.length c, .slice B ys.length d] w fun e w' => e = .returned (.int .i64 (vdot xs ys)) ∧ Drawn0 w w' := by
  have HX := Lib.hid hx
  have HY := Lib.hid hy
  have HD := Lib.hid (show vdot xs ys = dotTo xs ys (min xs.length ys.length) from rfl)
  obtain ⟨n, hnn⟩ : ∃ n, min xs.length ys.length = n := ⟨_, rfl⟩
  have hn1 : n ≤ xs.length := by omega
  have hn2 : n ≤ ys.length := by omega
  rw [hnn] at HD
  have HN := Lib.hid hnn
  clear hx hy hnn
  go_enter Tryz.func81, Tryz.ntmps81
  go_wp2_with fail
  go_loopw [5, 6] (fun v s wr => ∃ k : Nat, s = .int .i64 k ∧ k ≤ n ∧ v = .int .i64 (dotTo xs ys k) ∧ Drawn0 w wr) (fun _ s _ => n - (intOf s).toNat)
  case atStart => exact ⟨0, rfl, by omega, rfl, Drawn0.refl _⟩
  case round =>
    obtain ⟨k, rfl, hk, rfl, hd0⟩ := hrel
    have HD0 := Lib.hid hd0
    have hb := hd0.below
    have HB := Lib.hid hb
    clear hd0 hb
    by_cases hkn : k < n
    · obtain ⟨a1, ea, c1⟩ := at_nat (Kd.C_below HX.out HB.out) k (by omega)
      obtain ⟨a2, eb, c2⟩ := at_nat (Kd.C_below HY.out HB.out) k (by omega)
      subst ea eb
      have hk1 : k < xs.length := by omega
      have hk2 : k < ys.length := by omega
      have HS := Lib.hid (show dotTo xs ys (k + 1) = fadd (dotTo xs ys k) (fmul (xs.getD k 0) (ys.getD k 0)) from rfl)
      obtain ⟨x, hxx⟩ : ∃ x, xs.getD k 0 = x := ⟨_, rfl⟩
      obtain ⟨y, hyy⟩ : ∃ y, ys.getD k 0 = y := ⟨_, rfl⟩
      obtain ⟨z, hzz⟩ : ∃ z, dotTo xs ys k = z := ⟨_, rfl⟩
      rw [hxx] at c1
      rw [hyy] at c2
      rw [hxx, hyy, hzz] at HS
      rw [hzz]
      clear hxx hyy hzz
      go_wp2_with fail
      refine (rboth_any _ _ _ _ _ _ _ hc hd hn hm).mono ?_
      rw [HN.out]
      rintro e w' ⟨rfl, rfl⟩
      go_wp2_with fail
      go_quiet ((first | (go_at_call 53; exact Calls.quiet_of_same (Calls.flip (rmul_any x y _))) | (go_at_call 51; exact Calls.quiet_of_same (Calls.flip (radd_any z (fmul x y) _)))))
      go_wp2_with fail
      go_roundw
      case rel => exact ⟨k + 1, by go_num, by omega, by rw [HS.out], by exact Drawn0.step HD0.out _⟩
      case measure => simp [intOf]; omega
    · have HF := Lib.hid (show dotTo xs ys k = vdot xs ys by rw [HD.out]; congr 1; omega)
      go_wp2_with fail
      refine (rboth_any _ _ _ _ _ _ _ hc hd hn hm).mono ?_
      rw [HN.out]
      rintro e w' ⟨rfl, rfl⟩
      go_wp2_with fail
      go_ret
      exact ⟨ret_i HF.out, HD0.out⟩

set_option maxRecDepth 100000 in
theorem radd_vec (A B : Option Addr) (c d : Nat) (xs ys : List Int) (w : World) (hx : (Kd.int .i64).C w A xs.length xs) (hy : (Kd.int .i64).C w B ys.length ys) (hc : xs.length ≤ c) (hd : ys.length ≤ d) (hn : xs.length ≤ 4096) (hm : ys.length ≤ 4096) :
    Calls Tryz.prog 32 #[.slice A xs.length c, .slice B ys.length d] w fun e w' => ∃ v, e = .returned v ∧ Own w' w.heap.size 2 v (vadd xs ys) ∧ Below w.heap.size w w' := by
  obtain ⟨n, hnn⟩ : ∃ n, min xs.length ys.length = n := ⟨_, rfl⟩
  have hn1 : n ≤ xs.length := by omega
  have hn2 : n ≤ ys.length := by omega
  have HX := Lib.hid (fun (W : World) (hb : Below w.heap.size w W) => Kd.C_below hx hb)
  have HY := Lib.hid (fun (W : World) (hb : Below w.heap.size w W) => Kd.C_below hy hb)
  have HN := Lib.hid hnn
  have HV := Lib.hid (show vadd xs ys = tab n fun j => fadd (xs.getD j 0) (ys.getD j 0) by unfold vadd; rw [hnn])
  clear hx hy hnn
  go_enter Tryz.func32, Tryz.ntmps32
  go_wp2_with fail
  go_loopw [5, 6] (fun v s wr => ∃ k : Nat, s = .int .i64 k ∧ k ≤ n ∧ Own wr w.heap.size 2 v (tab k fun j => fadd (xs.getD j 0) (ys.getD j 0)) ∧ Below w.heap.size w wr) (fun _ s _ => n - (intOf s).toNat)
  case atStart => exact ⟨0, rfl, by omega, Kd.R_nil _ _ _ _ _, Below.refl _ _⟩
  case round =>
    obtain ⟨k, rfl, hk, ho, hb⟩ := hrel
    have HO := Lib.hid ho
    have HB := Lib.hid hb
    have hsz := hb.size
    clear ho hb
    by_cases hkn : k < n
    · obtain ⟨a1, ea, c1⟩ := at_nat (HX.out _ HB.out) k (by omega)
      obtain ⟨a2, eb, c2⟩ := at_nat (HY.out _ HB.out) k (by omega)
      subst ea eb
      have hk1 : k < xs.length := by omega
      have hk2 : k < ys.length := by omega
      have HT := Lib.hid (tab_succ k (fun j => fadd (xs.getD j 0) (ys.getD j 0)))
      obtain ⟨x, hxx⟩ : ∃ x, xs.getD k 0 = x := ⟨_, rfl⟩
      obtain ⟨y, hyy⟩ : ∃ y, ys.getD k 0 = y := ⟨_, rfl⟩
      rw [hxx] at c1
      rw [hyy] at c2
      have HXX := Lib.hid hxx
      have HYY := Lib.hid hyy
      clear hxx hyy
      go_wp2_with fail
      refine (rboth_any _ _ _ _ _ _ _ hc hd hn hm).mono ?_
      rw [HN.out]
      rintro e w' ⟨rfl, rfl⟩
      go_wp2_with fail
      go_region_law (first
        | (refine own_append_step (w0 := w) wr.drew _ w.heap.size rfl _ _ 55 2 rfl Tryz.underlying55 infoI64 _ _ (fadd x y) wr.heap.size rfl rfl rfl rfl (HO.out.below (below_drew (Below.refl _ _))) (below_drew HB.out) hsz (by rw [tab_len]; omega) ?_; intro v1 w1 ho1 hb1)
        | (go_simp; go_at_call 51; refine (radd_any x y _).mono ?_; rintro e w' ⟨rfl, rfl⟩))
      all_goals
        have HO1 := Lib.hid ho1
        have HB1 := Lib.hid hb1
        clear ho1 hb1
        go_wp2_with fail
        go_roundw
        case rel => exact ⟨k + 1, by go_num, by omega, by rw [HT.out, HXX.out, HYY.out]; exact HO1.out, HB1.out⟩
        case measure => simp [intOf]; omega
    · have HF := Lib.hid (show vadd xs ys = tab k fun j => fadd (xs.getD j 0) (ys.getD j 0) by rw [HV.out, show n = k by omega])
      go_wp2_with fail
      refine (rboth_any _ _ _ _ _ _ _ hc hd hn hm).mono ?_
      rw [HN.out]
      rintro e w' ⟨rfl, rfl⟩
      go_wp2_with fail
      go_ret
      exact ⟨_, rfl, by rw [HF.out]; exact HO.out, HB.out⟩

end Go.Proofs.YtdfgmdmcdnnhfaaGreat

namespace Go.Proofs.YtdfgmdmcdnnhfaaGreat
open Go.RowKit Go.Shelf Go.Proofs.YtdfgmdmcdnnhfaaGreatW.PrintWords Go.Proofs.YtdfgmdmcdnnhfaaGreatW.PrintLast Go.Proofs.YtdfgmdmcdnnhfaaGreatW.PrintMore
set_option linter.unusedVariables false
set_option linter.unusedSimpArgs false
set_option maxRecDepth 100000
attribute [local go_sem] gb_max2 gb_min2 gb_max_two gb_min_two gb_max_three gb_min_three

set_option maxRecDepth 100000 in
theorem rscale_vec (A : Option Addr) (c : Nat) (xs : List Int) (y : Int) (w : World) (hx : (Kd.int .i64).C w A xs.length xs) (hc : xs.length ≤ c) (hn : xs.length ≤ 4096) :
    Calls Tryz.prog 113 #[.slice A xs.length c, .int .i64 y] w fun e w' => ∃ v, e = .returned v ∧ Own w' w.heap.size 2 v (vscale xs y) ∧ Below w.heap.size w w' := by
  obtain ⟨n, hnn⟩ : ∃ n, xs.length = n := ⟨_, rfl⟩
  have HX := Lib.hid (fun (W : World) (hb : Below w.heap.size w W) => Kd.C_below hx hb)
  have HV := Lib.hid (show vscale xs y = tab n fun j => fmul (xs.getD j 0) y by unfold vscale vmap; rw [← hnn])
  rw [hnn] at hc hn ⊢
  have HN := Lib.hid hnn
  clear hx hnn
  go_enter Tryz.func113, Tryz.ntmps113
  go_wp2_with fail
  go_loopw [5, 6] (fun v s wr => ∃ k : Nat, s = .int .i64 k ∧ k ≤ n ∧ Own wr w.heap.size 2 v (tab k fun j => fmul (xs.getD j 0) y) ∧ Below w.heap.size w wr) (fun _ s _ => n - (intOf s).toNat)
  case atStart => exact ⟨0, rfl, by omega, Kd.R_nil _ _ _ _ _, Below.refl _ _⟩
  case round =>
    obtain ⟨k, rfl, hk, ho, hb⟩ := hrel
    have HO := Lib.hid ho
    have HB := Lib.hid hb
    have hsz := hb.size
    clear ho hb
    by_cases hkn : k < n
    · obtain ⟨a1, ea, c1⟩ := at_nat (HX.out _ HB.out) k (by rw [HN.out]; omega)
      subst ea
      have HT := Lib.hid (tab_succ k (fun j => fmul (xs.getD j 0) y))
      obtain ⟨x, hxx⟩ : ∃ x, xs.getD k 0 = x := ⟨_, rfl⟩
      rw [hxx] at c1
      have HXX := Lib.hid hxx
      clear hxx
      go_wp2_with fail
      refine (rcut_any _ _ _ _ hc hn).mono ?_
      rintro e w' ⟨rfl, rfl⟩
      go_wp2_with (first
        | (at_builtin; refine own_append (w0 := w) wr _ w.heap.size rfl _ _ 55 2 rfl Tryz.underlying55 infoI64 _ _ (fmul x y) wr.heap.size rfl rfl rfl rfl HO.out HB.out hsz (by rw [tab_len]; omega) ?_; intro v1 w1 ho1 hb1)
        | (go_at_call 53; refine (rmul_any _ _ _).mono ?_; rintro e w' ⟨rfl, rfl⟩))
      have HO1 := Lib.hid ho1
      have HB1 := Lib.hid hb1
      clear ho1 hb1
      go_wp2_with fail
      go_roundw
      case rel => exact ⟨k + 1, by go_num, by omega, by rw [HT.out, HXX.out]; exact HO1.out, HB1.out⟩
      case measure => simp [intOf]; omega
    · have HF := Lib.hid (show vscale xs y = tab k fun j => fmul (xs.getD j 0) y by rw [HV.out, show n = k by omega])
      go_wp2_with fail
      refine (rcut_any _ _ _ _ hc hn).mono ?_
      rintro e w' ⟨rfl, rfl⟩
      go_wp2_with fail
      go_ret
      exact ⟨_, rfl, by rw [HF.out]; exact HO.out, HB.out⟩

set_option maxRecDepth 100000 in
theorem rrelu_vec (A : Option Addr) (c : Nat) (xs : List Int) (w : World) (hx : (Kd.int .i64).C w A xs.length xs) (hc : xs.length ≤ c) (hn : xs.length ≤ 4096) :
    Calls Tryz.prog 84 #[.slice A xs.length c] w fun e w' => ∃ v, e = .returned v ∧ Own w' w.heap.size 2 v (vrelu xs) ∧ Below w.heap.size w w' := by
  obtain ⟨n, hnn⟩ : ∃ n, xs.length = n := ⟨_, rfl⟩
  have HX := Lib.hid (fun (W : World) (hb : Below w.heap.size w W) => Kd.C_below hx hb)
  have HV := Lib.hid (show vrelu xs = tab n fun j => max (wi (xs.getD j 0)) 0 by unfold vrelu vmap; rw [← hnn])
  rw [hnn] at hc hn ⊢
  have HN := Lib.hid hnn
  clear hx hnn
  go_enter Tryz.func84, Tryz.ntmps84
  go_wp2_with fail
  go_loopw [3, 4] (fun v s wr => ∃ k : Nat, s = .int .i64 k ∧ k ≤ n ∧ Own wr w.heap.size 2 v (tab k fun j => max (wi (xs.getD j 0)) 0) ∧ Below w.heap.size w wr) (fun _ s _ => n - (intOf s).toNat)
  case atStart => exact ⟨0, rfl, by omega, Kd.R_nil _ _ _ _ _, Below.refl _ _⟩
  case round =>
    obtain ⟨k, rfl, hk, ho, hb⟩ := hrel
    have HO := Lib.hid ho
    have HB := Lib.hid hb
    have hsz := hb.size
    clear ho hb
    by_cases hkn : k < n
    · obtain ⟨a1, ea, c1⟩ := at_nat (HX.out _ HB.out) k (by rw [HN.out]; omega)
      subst ea
      have HT := Lib.hid (tab_succ k (fun j => max (wi (xs.getD j 0)) 0))
      obtain ⟨x, hxx⟩ : ∃ x, xs.getD k 0 = x := ⟨_, rfl⟩
      rw [hxx] at c1
      have HXX := Lib.hid hxx
      clear hxx
      go_wp2_with fail
      refine (rcut_any _ _ _ _ hc hn).mono ?_
      rintro e w' ⟨rfl, rfl⟩
      go_wp2_with (first
        | (at_builtin; refine own_append (w0 := w) wr _ w.heap.size rfl _ _ 55 2 rfl Tryz.underlying55 infoI64 _ _ (max (wi x) 0) wr.heap.size rfl rfl rfl rfl HO.out HB.out hsz (by rw [tab_len]; omega) ?_; intro v1 w1 ho1 hb1)
        | (go_at_call 86; refine (rwithin_any _ _).mono ?_; rintro e w' ⟨rfl, rfl⟩))
      have HO1 := Lib.hid ho1
      have HB1 := Lib.hid hb1
      clear ho1 hb1
      go_wp2_with fail
      go_roundw
      case rel => exact ⟨k + 1, by go_num, by omega, by rw [HT.out, HXX.out]; exact HO1.out, HB1.out⟩
      case measure => simp [intOf]; omega
    · have HF := Lib.hid (show vrelu xs = tab k fun j => max (wi (xs.getD j 0)) 0 by rw [HV.out, show n = k by omega])
      go_wp2_with fail
      refine (rcut_any _ _ _ _ hc hn).mono ?_
      rintro e w' ⟨rfl, rfl⟩
      go_wp2_with fail
      go_ret
      exact ⟨_, rfl, by rw [HF.out]; exact HO.out, HB.out⟩

set_option maxRecDepth 100000 in
theorem rnorm_vec (A : Option Addr) (c : Nat) (xs : List Int) (w : World) (hx : (Kd.int .i64).C w A xs.length xs) (hc : xs.length ≤ c) (hn : xs.length ≤ 4096) :
    Calls Tryz.prog 75 #[.slice A xs.length c] w fun e w' => ∃ v, e = .returned v ∧ Own w' w.heap.size 2 v (vnorm xs) ∧ Below w.heap.size w w' := by
  have HX0 := Lib.hid hx
  have HX := Lib.hid (fun (W : World) (hb : Below w.heap.size w W) => Kd.C_below hx hb)
  obtain ⟨m, hm⟩ : ∃ m, fadd (fdiv (vdot xs xs) (fint (xs.length : Int))) 1 = m := ⟨_, rfl⟩
  have HV := Lib.hid (show vnorm xs = tab xs.length fun j => fdiv (xs.getD j 0) (froot m) by unfold vnorm vmap vroot; rw [hm])
  have HM := Lib.hid hm
  clear hx hm
  go_enter Tryz.func75, Tryz.ntmps75
  go_wp2_with fail
  refine (rdot_any A A c c xs xs w HX0.out HX0.out hc hc hn hn).mono ?_
  rintro e w1 ⟨rfl, hd⟩
  have HB0 := Lib.hid hd.below
  clear hd
  obtain ⟨n, hnn⟩ : ∃ n, xs.length = n := ⟨_, rfl⟩
  rw [hnn] at hc hn HM HV ⊢
  have HN := Lib.hid hnn
  clear hnn
  go_wp2_with fail
  refine (rcut_any _ _ _ _ hc hn).mono ?_
  rintro e w' ⟨rfl, rfl⟩
  go_wp2_with (first
    | (go_at_call 79; refine (rfint_any _ _ (by omega) (by omega)).mono ?_; rintro e w' ⟨rfl, rfl⟩)
    | (go_at_call 80; refine (rdiv_any _ _ _).mono ?_; rintro e w' ⟨rfl, rfl⟩)
    | (go_at_call 51; refine (radd_any _ _ _).mono ?_; rintro e w' ⟨rfl, rfl⟩; rw [HM.out]))
  go_loopw [4, 5] (fun v s wr => ∃ k : Nat, s = .int .i64 k ∧ k ≤ n ∧ Own wr w.heap.size 2 v (tab k fun j => fdiv (xs.getD j 0) (froot m)) ∧ Below w.heap.size w wr) (fun _ s _ => n - (intOf s).toNat)
  case atStart => exact ⟨0, rfl, by omega, Kd.R_nil _ _ _ _ _, HB0.out⟩
  case round =>
    obtain ⟨k, rfl, hk, ho, hb⟩ := hrel
    have HO := Lib.hid ho
    have HB := Lib.hid hb
    have hsz := hb.size
    clear ho hb
    by_cases hkn : k < n
    · obtain ⟨a1, ea, c1⟩ := at_nat (HX.out _ HB.out) k (by rw [HN.out]; omega)
      subst ea
      have HT := Lib.hid (tab_succ k (fun j => fdiv (xs.getD j 0) (froot m)))
      obtain ⟨x, hxx⟩ : ∃ x, xs.getD k 0 = x := ⟨_, rfl⟩
      rw [hxx] at c1
      have HXX := Lib.hid hxx
      clear hxx
      go_wp2_with fail
      refine (rcut_any _ _ _ _ hc hn).mono ?_
      rintro e w' ⟨rfl, rfl⟩
      go_wp2_with fail
      go_region_law (first
        | (refine own_append_step (w0 := w) wr.drew _ w.heap.size rfl _ _ 55 2 rfl Tryz.underlying55 infoI64 _ _ (fdiv x (froot m)) wr.heap.size rfl rfl rfl rfl (HO.out.below (below_drew (Below.refl _ _))) (below_drew HB.out) hsz (by rw [tab_len]; omega) ?_; intro v1 w1 ho1 hb1)
        | (go_simp; go_at_call 78; refine (rsqrt_any m _).mono ?_; rintro e w' ⟨rfl, rfl⟩)
        | (go_simp; go_at_call 80; refine (rdiv_any x (froot m) _).mono ?_; rintro e w' ⟨rfl, rfl⟩))
      all_goals
        have HO1 := Lib.hid ho1
        have HB1 := Lib.hid hb1
        clear ho1 hb1
        go_wp2_with fail
        go_roundw
        case rel => exact ⟨k + 1, by go_num, by omega, by rw [HT.out, HXX.out]; exact HO1.out, HB1.out⟩
        case measure => simp [intOf]; omega
    · have HF := Lib.hid (show vnorm xs = tab k fun j => fdiv (xs.getD j 0) (froot m) by rw [HV.out, show n = k by omega])
      go_wp2_with fail
      refine (rcut_any _ _ _ _ hc hn).mono ?_
      rintro e w' ⟨rfl, rfl⟩
      go_wp2_with fail
      go_ret
      exact ⟨_, rfl, by rw [HF.out]; exact HO.out, HB.out⟩

end Go.Proofs.YtdfgmdmcdnnhfaaGreat

namespace Go.Proofs.YtdfgmdmcdnnhfaaGreat
open Go.RowKit Go.Shelf Go.Proofs.YtdfgmdmcdnnhfaaGreatW.PrintWords Go.Proofs.YtdfgmdmcdnnhfaaGreatW.PrintLast Go.Proofs.YtdfgmdmcdnnhfaaGreatW.PrintMore
set_option linter.unusedVariables false
set_option linter.unusedSimpArgs false
set_option maxRecDepth 100000
attribute [local go_sem] gb_max2 gb_min2 gb_max_two gb_min_two gb_max_three gb_min_three

theorem wi_max (a b : Int) : wi (max a b) = max (wi a) (wi b) := by unfold wi; omega
theorem rsoft_nil (A : Option Addr) (c : Nat) (w : World) :
    Calls Tryz.prog 83 #[.slice A 0 c] w fun e w' => e = .returned (.slice none 0 0) ∧ w = w' := by
  go_enter Tryz.func83, Tryz.ntmps83
  go_wp2_with fail
  refine (rcut_any _ _ _ _ (by omega) (by omega)).mono ?_
  rintro e w' ⟨rfl, rfl⟩
  go_wp2_with fail
  go_ret
  exact ⟨rfl, rfl⟩

set_option maxRecDepth 100000 in
set_option maxHeartbeats 1000000 in
theorem rsoft_some (A : Option Addr) (c : Nat) (xs : List Int) (w : World) (hx : (Kd.int .i64).C w A xs.length xs) (hc : xs.length ≤ c) (hn : xs.length ≤ 4096) (hp : 0 < xs.length) :
    Calls Tryz.prog 83 #[.slice A xs.length c] w fun e w' => ∃ v, e = .returned v ∧ Own w' w.heap.size 2 v (vsoft xs) ∧ Below w.heap.size w w' := by
  have HX0 := Lib.hid hx
  have HX := Lib.hid (fun (W : World) (hb : Below w.heap.size w W) => Kd.C_below hx hb)
  obtain ⟨t, ht⟩ : ∃ t, wi (vmax xs) = t := ⟨_, rfl⟩
  have t0 : -2147483648 ≤ t := by rw [← ht]; exact wi_lo _
  have t1 : t ≤ 2147483647 := by rw [← ht]; exact wi_hi _
  have HT := Lib.hid ht
  have HV := Lib.hid (show vsoft xs = tab xs.length (fun j => fdiv (fexp (fadd (xs.getD j 0) (-t))) (sumTo (fun j => fexp (fadd (xs.getD j 0) (-t))) xs.length)) by unfold vsoft; unfold vexp; rw [ht])
  obtain ⟨a0, ea, h0⟩ := at_nat hx 0 hp
  subst ea
  simp only [gb_add0] at h0
  obtain ⟨x0, hx0⟩ : ∃ x, xs.getD 0 0 = x := ⟨_, rfl⟩
  rw [hx0] at h0
  have HX00 := Lib.hid hx0
  obtain ⟨n, hnn⟩ : ∃ n, xs.length = n := ⟨_, rfl⟩
  have HVM := Lib.hid (show wi (maxTo xs (n - 1)) = t by rw [← hnn]; exact ht)
  rw [hnn] at hc hn hp HV ⊢
  have HN := Lib.hid hnn
  have z : ((n : Int) == 0) = false := by simp; omega
  clear hx hnn ht hx0
  go_enter Tryz.func83, Tryz.ntmps83
  go_wp2_with fail
  refine (rcut_any _ _ _ _ hc hn).mono ?_
  rintro e w' ⟨rfl, rfl⟩
  go_wp2_with fail
  refine (rwithin_any _ _).mono ?_
  rintro e w' ⟨rfl, rfl⟩
  go_wp2_with fail
  go_loop [3, 4] (fun m s => ∃ k : Nat, s = .int .i64 k ∧ k ≤ n ∧ m = .int .i64 (wi (maxTo xs (k - 1)))) (fun _ s => n - (intOf s).toNat)
  case atStart => exact ⟨0, rfl, by omega, by rw [← HX00.out]; rfl⟩
  case round =>
    obtain ⟨k, rfl, hk, rfl⟩ := hrel
    by_cases hkn : k < n
    · obtain ⟨a1, ea, c1⟩ := at_nat HX0.out k (by rw [HN.out]; omega)
      obtain rfl := Option.some.inj ea
      obtain ⟨x, hxx⟩ : ∃ x, xs.getD k 0 = x := ⟨_, rfl⟩
      rw [hxx] at c1
      have HS := Lib.hid (show wi (maxTo xs (k + 1 - 1)) = max (wi (maxTo xs (k - 1))) (wi x) by
        rw [← hxx, ← wi_max]
        cases k with
        | zero => simp [maxTo]
        | succ k => rfl)
      obtain ⟨mm, hmm⟩ : ∃ mm, wi (maxTo xs (k - 1)) = mm := ⟨_, rfl⟩
      rw [hmm] at HS ⊢
      clear hxx hmm
      go_wp2_with (go_at_call 86; refine (rwithin_any _ _).mono ?_; rintro e w' ⟨rfl, rfl⟩)
      go_round
      case rel => exact ⟨k + 1, by go_num, by omega, by rw [HS.out]⟩
      case measure => simp [intOf]; omega
    · have HF := Lib.hid (show wi (maxTo xs (k - 1)) = t by rw [← HVM.out, show n = k by omega])
      go_wp2_with fail
      rw [HF.out]
      go_loopw [5, 6, 7] (fun v m s wr => ∃ i : Nat, s = .int .i64 i ∧ i ≤ n ∧ m = .int .i64 (sumTo (fun j => fexp (fadd (xs.getD j 0) (-t))) i) ∧ Own wr w.heap.size 2 v (tab i (fun j => fexp (fadd (xs.getD j 0) (-t)))) ∧ Below w.heap.size w wr) (fun _ _ s _ => n - (intOf s).toNat)
      case atStart => exact ⟨0, rfl, by omega, rfl, Kd.R_nil _ _ _ _ _, Below.refl _ _⟩
      case round =>
        obtain ⟨i, rfl, hi, rfl, ho, hb⟩ := hrel
        have HO := Lib.hid ho
        have HB := Lib.hid hb
        have hsz := hb.size
        clear ho hb
        by_cases hin : i < n
        · obtain ⟨a1, ea, c1⟩ := at_nat (HX.out _ HB.out) i (by rw [HN.out]; omega)
          obtain rfl := Option.some.inj ea
          obtain ⟨x, hxx⟩ : ∃ x, xs.getD i 0 = x := ⟨_, rfl⟩
          rw [hxx] at c1
          have HT1 := Lib.hid (tab_succ i (fun j => fexp (fadd (xs.getD j 0) (-t))))
          have HS := Lib.hid (show sumTo (fun j => fexp (fadd (xs.getD j 0) (-t))) (i + 1) = fadd (sumTo (fun j => fexp (fadd (xs.getD j 0) (-t))) i) (fexp (fadd x (-t))) by rw [← hxx]; rfl)
          obtain ⟨mm, hmm⟩ : ∃ mm, sumTo (fun j => fexp (fadd (xs.getD j 0) (-t))) i = mm := ⟨_, rfl⟩
          rw [hmm] at HS ⊢
          have HXX := Lib.hid hxx
          clear hxx hmm
          go_wp2_with (first
            | (at_builtin; refine own_append (w0 := w) wr _ w.heap.size rfl _ _ 55 2 rfl Tryz.underlying55 infoI64 _ _ (fexp (fadd x (-t))) wr.heap.size rfl rfl rfl rfl HO.out HB.out hsz (by rw [tab_len]; omega) ?_; intro v1 w1 ho1 hb1; have HO1 := Lib.hid ho1; have HB1 := Lib.hid hb1; clear ho1 hb1)
            | (go_at_call 51; refine (radd_any _ _ _).mono ?_; rintro e w' ⟨rfl, rfl⟩)
            | (go_at_call 114; refine (rexp_any _ _).mono ?_; rintro e w' ⟨rfl, rfl⟩))
          go_roundw
          case rel => exact ⟨i + 1, by go_num, by omega, by rw [HS.out], by rw [HT1.out, HXX.out]; exact HO1.out, HB1.out⟩
          case measure => simp [intOf]; omega
        · obtain rfl : i = n := by omega
          obtain ⟨sm, hsm⟩ : ∃ sm, sumTo (fun j => fexp (fadd (xs.getD j 0) (-t))) i = sm := ⟨_, rfl⟩
          rw [hsm] at HV ⊢
          clear hsm
          have HZ := Lib.hid (show tab i (fun j => fexp (fadd (xs.getD j 0) (-t))) = mixl i (fun j => fdiv (fexp (fadd (xs.getD j 0) (-t))) sm) (fun j => fexp (fadd (xs.getD j 0) (-t))) 0 from (mixl_zero _ _ _).symm)
          obtain ⟨A2, c2, hv2, hc2, -⟩ := HO.out.reads_n (tab_len _ _)
          rw [hv2] at HO ⊢
          clear hv2
          go_wp2_with fail
          go_loopw [9] (fun s wr => ∃ q : Nat, s = .int .i64 q ∧ q ≤ i ∧ Own wr w.heap.size 2 (.slice A2 i c2) (mixl i (fun j => fdiv (fexp (fadd (xs.getD j 0) (-t))) sm) (fun j => fexp (fadd (xs.getD j 0) (-t))) q) ∧ Below w.heap.size w wr) (fun s _ => i - (intOf s).toNat)
          case atStart => exact ⟨0, rfl, by omega, by rw [← HZ.out]; exact HO.out, HB.out⟩
          case round =>
            obtain ⟨q, rfl, hq, ho, hb⟩ := hrel
            by_cases hqi : q < i
            · obtain ⟨g, cap, hvv, hg0, hg1⟩ := ho.form_n (mixl_len _ _ _ _) (by omega)
              simp only [Value.slice.injEq] at hvv
              obtain ⟨rfl, -, rfl⟩ := hvv
              obtain ⟨d1, f1⟩ := ho.at_n (mixl_len _ _ _ _) q hqi
              rw [mixl_get _ _ _ _ hqi] at d1
              have HS := Lib.hid (mixl_set i (fun j => fdiv (fexp (fadd (xs.getD j 0) (-t))) sm) (fun j => fexp (fadd (xs.getD j 0) (-t))) q)
              obtain ⟨ex, hex⟩ : ∃ ex, fexp (fadd (xs.getD q 0) (-t)) = ex := ⟨_, rfl⟩
              rw [hex] at d1
              have HEX := Lib.hid hex
              have HO1 := Lib.hid ho
              have HB1 := Lib.hid hb
              clear ho hb hex
              go_wp2_with (go_at_call 80; refine (rdiv_any _ _ _).mono ?_; rintro e w' ⟨rfl, rfl⟩)
              go_roundw
              case rel => exact ⟨q + 1, by go_num, by omega, by rw [← HS.out, HEX.out]; exact HO1.out.store_n (mixl_len _ _ _ _) q _, HB1.out.setCell (p := ⟨g, q, none⟩) hg0 _⟩
              case measure => simp [intOf]; omega
            · have HF := Lib.hid (show mixl i (fun j => fdiv (fexp (fadd (xs.getD j 0) (-t))) sm) (fun j => fexp (fadd (xs.getD j 0) (-t))) q = vsoft xs by rw [mixl_full _ _ _ _ (by omega), HV.out])
              have HO1 := Lib.hid ho
              have HB1 := Lib.hid hb
              clear ho hb
              go_wp2_with fail
              go_ret
              exact ⟨_, rfl, HF.out ▸ HO1.out, HB1.out⟩

end Go.Proofs.YtdfgmdmcdnnhfaaGreat
