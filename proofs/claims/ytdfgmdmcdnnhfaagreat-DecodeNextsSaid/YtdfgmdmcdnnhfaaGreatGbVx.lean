/- Contracts of the vector functions that read; Contracts of slices.Clone, slices.Max at int64; Contracts of vec.Add, vec.each. -/
import Derived.Test.YtdfgmdmcdnnhfaaGreatGbA
import Derived.Test.YtdfgmdmcdnnhfaaGreatProg
import Derived.Test.YtdfgmdmcdnnhfaaGreatGbB
import Derived.Test.YtdfgmdmcdnnhfaaGreatGbW
import Derived.Test.YtdfgmdmcdnnhfaaGreatWMore
import Derived.WalkKit
import Derived.KernelRfl
import Derived.Tactics
import Derived.OwnWalk
import Derived.BigQuiet
import Derived.Deep.QuietTactic
import Derived.Lib.Hide
import Derived.Outline
import Derived.WalkSpells
import Derived.Shelf.Abstract
namespace Go.Proofs.YtdfgmdmcdnnhfaaGreat
open Go.RowKit Go.Proofs.YtdfgmdmcdnnhfaaGreatW.PrintWords Go.Proofs.YtdfgmdmcdnnhfaaGreatW.PrintLast Go.Proofs.YtdfgmdmcdnnhfaaGreatW.PrintMore
set_option linter.unusedVariables false
set_option linter.unusedSimpArgs false
set_option maxRecDepth 100000
attribute [local go_sem] gb_max2 gb_min2 gb_max_two gb_min_two gb_max_three gb_min_three

theorem infoI64 : (Tryz.prog.info? 2).map (fun i => (i.zero, i.size, i.bytes)) = some (some (.int .i64 0), 1, 8) := by kernel_rfl
theorem infoInt : (Tryz.prog.info? 3).map (fun i => (i.zero, i.size, i.bytes)) = some (some (.int .i64 0), 1, 8) := by kernel_rfl

theorem at_nat {w : World} {A : Option Addr} {k : IntKind} {xs : List Int} (h : (Kd.int k).C w A xs.length xs) (i : Nat) (h1 : i < xs.length) : ∃ ad : Addr, A = some ad ∧ w.cell? (ad.add i) = some (.int k (xs.getD i 0)) := by
  obtain ⟨ad, e, h2⟩ := Kd.at_int h (i : Int) (by omega) (by omega)
  exact ⟨ad, e, by simpa [rd] using h2⟩
theorem at_nat2 {w : World} {A : Option Addr} {k : IntKind} {xs : List Int} (h : (Kd.int k).C w A xs.length xs) (i : Nat) (h1 : i < xs.length) : ∃ ad : Addr, A = some ad ∧ w.cell? (ad.add i) = some (.int k (xs.getD i 0)) ∧ (i ≠ 0 → w.cell? ⟨ad.block, ad.off + i, none⟩ = some (.int k (xs.getD i 0))) := by
  obtain ⟨ad, e, h2⟩ := at_nat h i h1
  exact ⟨ad, e, h2, fun hi => by rw [← h2]; simp [Addr.add, hi]⟩
/-- s[:n] of a slice of int64. -/
theorem cutI64 (A : Option Addr) (n c : Nat) (j : Int) (h0 : 0 ≤ j) (h : j ≤ n) (hc : n ≤ c) : ∀ W : World, (Instr.slice 55 (.slice A n c) none (some (.int .i64 j)) none).run Tryz.prog W = .ok (.slice A j.toNat c) W := by
  obtain ⟨i, hi, _, hs, _⟩ := info_parts infoI64
  exact cut_to (P := Tryz.prog) 55 2 .i64 Tryz.underlying55 hi A n c j h0 h hc

theorem pair_any (A B : Option Addr) (n m c d : Nat) (w : World) (hc : n ≤ c) (hd : m ≤ d) (hn : n ≤ 4096) (hm : m ≤ 4096) :
    Calls Tryz.prog 64 #[.slice A n c, .slice B m d] w fun e w' => e = .returned (.tuple #[.slice A (min n m) c, .slice B (min n m) d]) ∧ Drawn0 w w' := by
  have s1 := cutI64 A n c (min (n : Int) (min (m : Int) 4096)) (by omega) (by omega) hc
  have s2 := cutI64 B m d (min (n : Int) (min (m : Int) 4096)) (by omega) (by omega) hd
  have e1 : (min (n : Int) (min (m : Int) 4096)).toNat = min n m := by omega
  rw [e1] at s1 s2
  clear e1
  go_enter Tryz.func64, Tryz.ntmps64
  go_wp2
  go_quiet (fail)
  go_wp2
  go_ret2
  exact ⟨rfl, ⟨_, rfl⟩⟩

/-- vec.Dot. -/
theorem dot_any (A B : Option Addr) (c d : Nat) (xs ys : List Int) (w : World) (hx : (Kd.int .i64).C w A xs.length xs) (hy : (Kd.int .i64).C w B ys.length ys) (hc : xs.length ≤ c) (hd : ys.length ≤ d) (hn : xs.length ≤ 4096) (hm : ys.length ≤ 4096) :
    Calls Tryz.prog 74 #[.slice A xs.length c, .slice B ys.length d] w fun e w' => e = .returned (.int .i64 (vdot xs ys)) ∧ Drawn0 w w' := by
  have HX := Lib.hid hx
  have HY := Lib.hid hy
  have HD := Lib.hid (show vdot xs ys = dotTo xs ys (min xs.length ys.length) from rfl)
  clear hx hy
  obtain ⟨n, hnn⟩ : ∃ n, min xs.length ys.length = n := ⟨_, rfl⟩
  have hn1 : n ≤ xs.length := by omega
  have hn2 : n ≤ ys.length := by omega
  rw [hnn] at HD
  have HN := Lib.hid hnn
  clear hnn
  go_enter Tryz.func74, Tryz.ntmps74
  go_wp2_with (go_at_call 64; refine (pair_any _ _ _ _ _ _ _ hc hd hn hm).mono ?_; rw [HN.out]; rintro e w' ⟨rfl, ⟨q, rfl⟩⟩)
  go_loop [5, 16] (fun s i => ∃ k : Nat, k ≤ n ∧ s = .int .i64 (dotTo xs ys k) ∧ i = .int .i64 k) (fun _ i => n - (intOf i).toNat)
  case atStart => exact ⟨0, by omega, rfl, rfl⟩
  case round =>
    obtain ⟨k, k0, rfl, rfl⟩ := hrel
    by_cases hk : k < n
    · obtain ⟨a, ea, ha⟩ := at_nat HX.out k (by omega)
      obtain ⟨b, eb, hb⟩ := at_nat HY.out k (by omega)
      subst ea eb
      have HS := Lib.hid (show dotTo xs ys (k + 1) = fadd (dotTo xs ys k) (fmul (xs.getD k 0) (ys.getD k 0)) from rfl)
      go_wp2_with (first
        | (go_at_call 21; refine (mul_any _ _ _).mono ?_; rintro e w' ⟨rfl, rfl⟩)
        | (go_at_call 65; refine (add_any _ _ _).mono ?_; rintro e w' ⟨rfl, rfl⟩))
      go_round
      case rel => exact ⟨k + 1, by omega, by rw [HS.out]; simp, by go_num⟩
      case measure => simp [intOf]; omega
    · have HF := Lib.hid (show dotTo xs ys k = vdot xs ys by rw [HD.out]; congr 1; omega)
      go_wp2
      go_ret
      exact ⟨ret_i HF.out, ⟨_, rfl⟩⟩

end Go.Proofs.YtdfgmdmcdnnhfaaGreat

namespace Go.Proofs.YtdfgmdmcdnnhfaaGreat
open Go.RowKit Go.Proofs.YtdfgmdmcdnnhfaaGreatW.PrintWords Go.Proofs.YtdfgmdmcdnnhfaaGreatW.PrintLast Go.Proofs.YtdfgmdmcdnnhfaaGreatW.PrintMore
set_option linter.unusedVariables false
set_option linter.unusedSimpArgs false
set_option maxRecDepth 100000
attribute [local go_sem] gb_max2 gb_min2 gb_max_two gb_min_two gb_max_three gb_min_three

/-- A row of one's own, of whole numbers. -/
def Own (w : World) (base e : Nat) (v : Value) (xs : List Int) : Prop := (Kd.int .i64).R e w base (fun _ => True) v xs
theorem Own.form {w : World} {base e : Nat} {v : Value} {xs : List Int} (h : Own w base e v xs) (hp : 0 < xs.length) : ∃ g cap, v = .slice (some ⟨g, 0, none⟩) xs.length cap ∧ base ≤ g ∧ g < w.heap.size := by
  obtain ⟨g, cap, h1, h2, h3, _⟩ := Kd.R_form h hp
  exact ⟨g, cap, h1, h2, h3⟩
theorem Own.at_ {w : World} {base e g cap : Nat} {xs : List Int} (h : Own w base e (.slice (some ⟨g, 0, none⟩) xs.length cap) xs) (i : Nat) (hi : i < xs.length) :
    w.cell? ⟨g, i, none⟩ = some (.int .i64 (xs.getD i 0)) ∧ w.frozen? ⟨g, i, none⟩ = false := by
  have := own_at (Kd.own_of_R (enc := Value.int .i64) (h1 := fun _ => rfl) h) (i : Int) (by omega) (by omega)
  simpa [rd] using this
theorem Own.store {w : World} {base e g cap : Nat} {xs : List Int} (h : Own w base e (.slice (some ⟨g, 0, none⟩) xs.length cap) xs) (i : Nat) (x : Int) :
    Own (w.setCell ⟨g, i, none⟩ (.int .i64 x)) base e (.slice (some ⟨g, 0, none⟩) xs.length cap) (xs.set i x) := by
  have := (own_store (Kd.own_of_R (enc := Value.int .i64) (h1 := fun _ => rfl) h) (i : Int) x).1
  have e2 : (xs.set i x).length = xs.length := List.length_set
  refine Kd.R_of_own (enc := Value.int .i64) (h1 := fun _ => rfl) ?_ (fun _ _ => trivial)
  rw [e2]
  simpa [encs, nums] using this
theorem Own.form_n {w : World} {base e n : Nat} {v : Value} {xs : List Int} (h : Own w base e v xs) (hn : xs.length = n) (hp : 0 < n) : ∃ g cap, v = .slice (some ⟨g, 0, none⟩) n cap ∧ base ≤ g ∧ g < w.heap.size := by
  subst hn; exact h.form hp
theorem Own.at_n {w : World} {base e g n cap : Nat} {xs : List Int} (h : Own w base e (.slice (some ⟨g, 0, none⟩) n cap) xs) (hn : xs.length = n) (i : Nat) (hi : i < n) :
    w.cell? ⟨g, i, none⟩ = some (.int .i64 (xs.getD i 0)) ∧ w.frozen? ⟨g, i, none⟩ = false := by
  subst hn; exact h.at_ i hi
theorem Own.store_n {w : World} {base e g n cap : Nat} {xs : List Int} (h : Own w base e (.slice (some ⟨g, 0, none⟩) n cap) xs) (hn : xs.length = n) (i : Nat) (x : Int) :
    Own (w.setCell ⟨g, i, none⟩ (.int .i64 x)) base e (.slice (some ⟨g, 0, none⟩) n cap) (xs.set i x) := by
  subst hn; exact h.store i x
theorem Own.reads_n {w : World} {base e n : Nat} {v : Value} {xs : List Int} (h : Own w base e v xs) (hn : xs.length = n) : ∃ A c, v = .slice A n c ∧ n ≤ c ∧ (Kd.int .i64).C w A xs.length xs := by
  subst hn; exact Kd.R_reads h
theorem Own.reads {w : World} {base e : Nat} {v : Value} {xs : List Int} (h : Own w base e v xs) : ∃ A c, v = .slice A xs.length c ∧ xs.length ≤ c ∧ (Kd.int .i64).C w A xs.length xs := Kd.R_reads h
theorem Own.below {w w1 : World} {base e : Nat} {v : Value} {xs : List Int} (h : Own w base e v xs) (hb : Below w.heap.size w w1) : Own w1 base e v xs := Kd.R_below h hb
theorem Own.lower {w : World} {base base' e : Nat} {v : Value} {xs : List Int} (h : Own w base e v xs) (hb : base' ≤ base) : Own w base' e v xs := Kd.R_lower h hb
/-- Blocks from base on stay. -/
theorem Own.kept {w w1 : World} {base e : Nat} {v : Value} {xs : List Int} (h : Own w base e v xs) (hk : ∀ k, base ≤ k → k < w.heap.size → w1.heap[k]? = w.heap[k]?) : Own w1 base e v xs :=
  Kd.R_mono (Kd.R_move (Kd.R_bound h) (fun k hk' => hk k hk'.2.1 hk'.2.2.1)) (fun _ _ => trivial)
theorem R_empty (W : World) (k : IntKind) (base e : Nat) (hb : base ≤ W.heap.size) : (Kd.int k).R e (W.alloc (.cells #[] e)) base (fun _ => True) (.slice (some ⟨W.heap.size, 0, none⟩) 0 0) [] :=
  Kd.R_of_own (enc := Value.int k) (h1 := fun _ => rfl) (own_lit_of (enc := Value.int k) W base e [] hb (by simp)) (fun _ _ => trivial)

theorem clone_any (A : Option Addr) (c : Nat) (xs : List Int) (w : World) (hx : (Kd.int .i64).C w A xs.length xs) (hc : xs.length ≤ c) (hn : xs.length ≤ 1000000) :
    Calls Tryz.prog 63 #[.slice A xs.length c] w fun e w' => ∃ v, e = .returned v ∧ (Kd.int .i64).R 2 w' w.heap.size (fun _ => True) v xs ∧ Below w.heap.size w w' := by
  cases A with
  | none =>
    have h0 : xs = [] := by
      cases xs with
      | nil => rfl
      | cons x l => obtain ⟨a, h, _⟩ := at_nat hx 0 (by simp); simp at h
    subst h0
    have he := fun W : World => Lib.run_eql_slice_nil (P := Tryz.prog) W 55 2 none 0 c 0 0 Tryz.underlying55
    clear hx
    go_enter Tryz.func63, Tryz.ntmps63
    go_wp2
    go_ret
    exact ⟨_, rfl, Kd.R_nil _ _ _ _ _, Below.refl _ _⟩
  | some a =>
    have HX := Lib.hid (Kd.C_below hx ((Below.refl _ w).alloc (Nat.le_refl _) (.cells #[] 2)))
    have HO := Lib.hid (R_empty w .i64 w.heap.size 2 (Nat.le_refl _))
    have HB := Lib.hid ((Below.refl _ w).alloc (Nat.le_refl _) (.cells #[] 2))
    clear hx
    have he := fun W : World => Lib.run_eql_slice_nil (P := Tryz.prog) W 55 2 (some a) xs.length c 0 0 Tryz.underlying55
    go_enter Tryz.func63, Tryz.ntmps63
    go_wp2_with (at_builtin; refine Kd.R_append_row (w0 := w) (Value.int .i64) 0 (h1 := fun _ => rfl) w.heap.size rfl _ _ 55 2 (.int .i64 0) 8 rfl Tryz.underlying55 infoI64 rfl (by decide) _ [] xs (some a) xs.length c (fun _ => True) rfl rfl (fun _ _ => trivial) HO.out HX.out HB.out (by simp) (by simp; omega) ?_; intro v1 w1 hr hb hg hat)
    go_ret
    exact ⟨_, rfl, hr, hb⟩


theorem cut_any (A : Option Addr) (n c : Nat) (w : World) (hc : n ≤ c) (hn : n ≤ 4096) :
    Calls Tryz.prog 103 #[.slice A n c] w fun e w' => e = .returned (.slice A n c) ∧ w = w' := by
  have s1 := cutI64 A n c (min (n : Int) 4096) (by omega) (by omega) hc
  have e1 : (min (n : Int) 4096).toNat = n := by omega
  rw [e1] at s1
  clear e1
  go_enter Tryz.func103, Tryz.ntmps103
  go_wp2
  go_ret
  exact ⟨rfl, rfl⟩

theorem gb_add0 (a : Addr) : a.add 0 = a := by simp [Addr.add]

theorem max_any (A : Option Addr) (c : Nat) (xs : List Int) (w : World) (hx : (Kd.int .i64).C w A xs.length xs) (hp : 0 < xs.length) (hn : xs.length ≤ 4096) :
    Calls Tryz.prog 107 #[.slice A xs.length c] w fun e w' => e = .returned (.int .i64 (vmax xs)) ∧ w = w' := by
  obtain ⟨a0, ea, h0⟩ := at_nat hx 0 hp
  subst ea
  simp only [gb_add0] at h0
  obtain ⟨x0, hx0⟩ : ∃ x, xs.getD 0 0 = x := ⟨_, rfl⟩
  rw [hx0] at h0
  have HX0 := Lib.hid hx0
  clear hx0
  have HX := Lib.hid hx
  clear hx
  obtain ⟨n, hnn⟩ : ∃ n, xs.length = n := ⟨_, rfl⟩
  rw [hnn] at hp hn ⊢
  have HN := Lib.hid hnn
  clear hnn
  have hp' : ¬ (n : Int) < 1 := by omega
  go_enter Tryz.func107, Tryz.ntmps107
  go_wp2
  go_loop [3, 4] (fun m i => ∃ k : Nat, 1 ≤ k ∧ k ≤ n ∧ m = .int .i64 (maxTo xs (k - 1)) ∧ i = .int .i64 k) (fun _ i => n - (intOf i).toNat)
  case atStart => exact ⟨1, by omega, by omega, by rw [← HX0.out]; rfl, rfl⟩
  case round =>
    obtain ⟨k, k1, k0, rfl, rfl⟩ := hrel
    by_cases hk : k < n
    · obtain ⟨a, ea, ha, hb⟩ := at_nat2 HX.out k (by rw [HN.out]; omega)
      obtain rfl := Option.some.inj ea
      obtain ⟨y, hy⟩ : ∃ y, xs.getD k 0 = y := ⟨_, rfl⟩
      rw [hy] at ha hb
      have HS := Lib.hid (show maxTo xs (k + 1 - 1) = max (maxTo xs (k - 1)) y by
        obtain ⟨j, rfl⟩ : ∃ j, k = j + 1 := ⟨k - 1, by omega⟩
        rw [← hy]; rfl)
      clear hy
      replace hb := hb (by omega)
      go_wp2
      go_round
      case rel => exact ⟨k + 1, by omega, by omega, by rw [HS.out], by go_num⟩
      case measure => simp [intOf]; omega
    · have HF := Lib.hid (show maxTo xs (k - 1) = vmax xs by unfold vmax; rw [HN.out]; congr 1; omega)
      go_wp2
      go_ret
      exact ⟨ret_i HF.out, rfl⟩

end Go.Proofs.YtdfgmdmcdnnhfaaGreat

namespace Go.Proofs.YtdfgmdmcdnnhfaaGreat
open Go.RowKit Go.Shelf Go.Proofs.YtdfgmdmcdnnhfaaGreatW.PrintWords Go.Proofs.YtdfgmdmcdnnhfaaGreatW.PrintLast Go.Proofs.YtdfgmdmcdnnhfaaGreatW.PrintMore
set_option linter.unusedVariables false
set_option linter.unusedSimpArgs false
set_option maxRecDepth 100000
attribute [local go_sem] gb_max2 gb_min2 gb_max_two gb_min_two gb_max_three gb_min_three

theorem clone_n (A : Option Addr) (n c : Nat) (xs : List Int) (w : World) (hxn : xs.length = n) (hx : (Kd.int .i64).C w A xs.length xs) (hc : n ≤ c) (hn : n ≤ 1000000) :
    Calls Tryz.prog 63 #[.slice A n c] w fun e w' => ∃ v, e = .returned v ∧ Own w' w.heap.size 2 v xs ∧ Below w.heap.size w w' := by
  subst hxn
  exact clone_any A c xs w hx hc hn

theorem vadd_any (A B : Option Addr) (c d : Nat) (xs ys : List Int) (w : World) (hx : (Kd.int .i64).C w A xs.length xs) (hy : (Kd.int .i64).C w B ys.length ys) (hc : xs.length ≤ c) (hd : ys.length ≤ d) (hn : xs.length ≤ 4096) (hm : ys.length ≤ 4096) :
    Calls Tryz.prog 44 #[.slice A xs.length c, .slice B ys.length d] w fun e w' => ∃ v, e = .returned v ∧ Own w' w.heap.size 2 v (vadd xs ys) ∧ Below w.heap.size w w' := by
  obtain ⟨n, hnn⟩ : ∃ n, min xs.length ys.length = n := ⟨_, rfl⟩
  have hn1 : n ≤ xs.length := by omega
  have hn2 : n ≤ ys.length := by omega
  have HT := Lib.hid (show (xs.take n).length = n by rw [List.length_take]; omega)
  have HX := Lib.hid (fun q => Kd.C_below (Kd.C_take (m := n) hx hn1) (pw_below_drewN (Below.refl _ w) q))
  have HY := Lib.hid hy
  have HN := Lib.hid hnn
  have HV := Lib.hid (show vadd xs ys = tab n fun j => fadd (xs.getD j 0) (ys.getD j 0) by unfold vadd; rw [hnn])
  have HZ := Lib.hid (show xs.take n = mixl n (fun j => fadd (xs.getD j 0) (ys.getD j 0)) (fun j => xs.getD j 0) 0 by rw [mixl_zero, tab_take _ _ hn1])
  clear hx hy hnn
  go_enter Tryz.func44, Tryz.ntmps44
  go_wp2_with fail
  refine (pair_any _ _ _ _ _ _ _ hc hd hn hm).mono ?_
  rw [HN.out]
  rintro e w' ⟨rfl, ⟨q, rfl⟩⟩
  go_wp2_with fail
  refine (clone_n _ _ _ _ _ HT.out (HX.out q) (by omega) (by omega)).mono ?_
  rintro e w1 ⟨v, rfl, ho, hb⟩
  have HO := Lib.hid (HZ.out ▸ ho)
  have HB := Lib.hid (show Below w.heap.size w w1 from below_then (pw_below_drewN (Below.refl _ w) q) (by simp) hb)
  clear ho hb
  go_wp2_with fail
  go_loopw [18] (fun i wr => ∃ k : Nat, k ≤ n ∧ i = .int .i64 k ∧ Own wr w.heap.size 2 v (mixl n (fun j => fadd (xs.getD j 0) (ys.getD j 0)) (fun j => xs.getD j 0) k) ∧ Below w.heap.size w wr) (fun i _ => n - (intOf i).toNat)
  case atStart => exact ⟨0, by omega, rfl, HO.out.lower (by simp), HB.out⟩
  case round =>
    obtain ⟨k, k0, rfl, ho, hb⟩ := hrel
    by_cases hk : k < n
    · obtain ⟨g, cap, rfl, hg0, hg1⟩ := ho.form_n (mixl_len _ _ _ _) (by omega)
      obtain ⟨c1, f1⟩ := ho.at_n (mixl_len _ _ _ _) k hk
      rw [mixl_get _ _ _ _ hk] at c1
      obtain ⟨b, eb, c2⟩ := at_nat (Kd.C_below HY.out hb) k (by omega)
      subst eb
      have HS := Lib.hid (mixl_set n (fun j => fadd (xs.getD j 0) (ys.getD j 0)) (fun j => xs.getD j 0) k)
      have HO1 := Lib.hid ho
      have HB1 := Lib.hid hb
      clear ho hb HO HB
      go_wp2_with (go_at_call 65; refine (add_any _ _ _).mono ?_; rintro e w' ⟨rfl, rfl⟩)
      go_roundw
      case rel => exact ⟨k + 1, by omega, by go_num, by rw [← HS.out]; exact HO1.out.store_n (mixl_len _ _ _ _) k _, HB1.out.setCell (p := ⟨g, k, none⟩) hg0 _⟩
      case measure => simp [intOf]; omega
    · have HF := Lib.hid (show mixl n (fun j => fadd (xs.getD j 0) (ys.getD j 0)) (fun j => xs.getD j 0) k = vadd xs ys by rw [mixl_full _ _ _ _ (by omega), HV.out])
      have HO1 := Lib.hid ho
      have HB1 := Lib.hid hb
      clear ho hb
      go_wp2
      go_ret
      exact ⟨v, rfl, HF.out ▸ HO1.out, HB1.out⟩

/-- From block B on, all stays. -/
def Keeps (B : Nat) (W W' : World) : Prop := W.heap.size ≤ W'.heap.size ∧ ∀ k, B ≤ k → k < W.heap.size → W'.heap[k]? = W.heap[k]?

theorem each_any (A : Option Addr) (c : Nat) (xs : List Int) (w : World) (hx : (Kd.int .i64).C w A xs.length xs) (hc : xs.length ≤ c) (hn : xs.length ≤ 4096)
    (g : Nat) (lb : Array Value) (eg : ∀ args w, (callFunc g args).run Tryz.prog w = .ok (.enter g args) w) (y : Nat → Int) (I : Nat → World → Prop) (h0 : I 0 w)
    (hI : ∀ i W W', I i W → Below w.heap.size W W' → I i W')
    (hf : ∀ i W, i < xs.length → I i W → Calls Tryz.prog g (#[.int .i64 (xs.getD i 0)] ++ lb) W fun e W' => e = .returned (.int .i64 (y i)) ∧ I (i + 1) W' ∧ Keeps w.heap.size W W') :
    Calls Tryz.prog 108 #[.slice A xs.length c, .func (.func g) #[] lb] w fun e w' => ∃ v, e = .returned v ∧ Own w' w.heap.size 2 v (tab xs.length y) ∧ I xs.length w' ∧ w.heap.size ≤ w'.heap.size := by
  obtain ⟨n, hnn⟩ : ∃ n, xs.length = n := ⟨_, rfl⟩
  have HX := Lib.hid hx
  have HZ := Lib.hid (show xs = mixl n y (fun j => xs.getD j 0) 0 by rw [mixl_zero, ← hnn, tab_self])
  have HI0 := Lib.hid h0
  have HI := Lib.hid hI
  have HF := Lib.hid hf
  rw [hnn] at hc hn HF ⊢
  have HN := Lib.hid hnn
  clear hx hnn h0 hI hf
  go_enter Tryz.func108, Tryz.ntmps108
  go_wp2_with fail
  refine (cut_any _ _ _ _ hc hn).mono ?_
  rintro e w' ⟨rfl, rfl⟩
  go_wp2_with fail
  refine (clone_n _ _ _ _ _ HN.out HX.out (by omega) (by omega)).mono ?_
  rintro e w1 ⟨v, rfl, ho, hb⟩
  obtain ⟨A1, c1, hv, hc1, _⟩ := ho.reads_n HN.out
  have HO := Lib.hid (show Own w1 w.heap.size 2 v (mixl n y (fun j => xs.getD j 0) 0) by rw [← HZ.out]; exact ho)
  have HI1 := Lib.hid (HI.out 0 w w1 HI0.out hb)
  have hsz := hb.size
  have HV := Lib.hid hv
  rw [hv]
  clear ho hb hc1 hv
  go_wp2_with fail
  go_loopw [13] (fun i wr => ∃ k : Nat, k ≤ n ∧ i = .int .i64 k ∧ Own wr w.heap.size 2 v (mixl n y (fun j => xs.getD j 0) k) ∧ I k wr ∧ w.heap.size ≤ wr.heap.size) (fun i _ => n - (intOf i).toNat)
  case atStart => exact ⟨0, by omega, rfl, HO.out, HI1.out, hsz⟩
  case round =>
    obtain ⟨k, k0, rfl, ho, hi, hs⟩ := hrel
    by_cases hk : k < n
    · obtain ⟨g1, cap, hvv, hg0, hg1⟩ := ho.form_n (mixl_len _ _ _ _) (by omega)
      have e1 := HV.out.symm.trans hvv
      simp only [Value.slice.injEq] at e1
      obtain ⟨rfl, -, rfl⟩ := e1
      rw [hvv] at ho
      obtain ⟨q1, -⟩ := ho.at_n (mixl_len _ _ _ _) k hk
      rw [mixl_get _ _ _ _ hk] at q1
      have HS := Lib.hid (mixl_set n y (fun j => xs.getD j 0) k)
      have HO1 := Lib.hid ho
      have HW := Lib.hid hvv
      have hcall := Lib.hid (HF.out k wr hk hi)
      clear ho hi HO hvv
      go_wp2_with fail
      refine hcall.out.mono ?_
      rintro e w2 ⟨rfl, hi2, hk2⟩
      have ho2 := HO1.out.kept hk2.2
      obtain ⟨q2, f2⟩ := ho2.at_n (mixl_len _ _ _ _) k hk
      have HI2 := Lib.hid hi2
      have HO2 := Lib.hid ho2
      have hs2 : w.heap.size ≤ w2.heap.size := Nat.le_trans hs hk2.1
      clear hi2 ho2 hk2 q1
      go_wp2_with fail
      go_roundw
      case rel => exact ⟨k + 1, by omega, by go_num, by rw [← HS.out, HW.out]; exact HO2.out.store_n (mixl_len _ _ _ _) k _, HI.out _ _ _ HI2.out ((Below.refl _ _).setCell (p := ⟨g1, k, none⟩) hg0 _), by simpa using hs2⟩
      case measure => simp [intOf]; omega
    · have HF := Lib.hid (show mixl n y (fun j => xs.getD j 0) k = tab n y from mixl_full _ _ _ _ (by omega))
      have HO1 := Lib.hid ho
      have HI2 := Lib.hid (show I n wr by rw [show n = k by omega]; exact hi)
      clear ho hi
      go_wp2
      go_ret
      exact ⟨Value.slice A1 n c1, rfl, by rw [← HV.out, ← HF.out]; exact HO1.out, HI2.out, hs⟩

theorem Keeps.refl (B : Nat) (W : World) : Keeps B W W := ⟨Nat.le_refl _, fun _ _ _ => rfl⟩

theorem relu1_any (x : Int) (w : World) :
    Calls Tryz.prog 119 #[.int .i64 x] w fun e w' => e = .returned (.int .i64 (max (wi x) 0)) ∧ w = w' := by
  go_enter Tryz.func119, Tryz.ntmps119
  go_wp2_with (go_at_call 39; refine (within_any _ _).mono ?_; rintro e w' ⟨rfl, rfl⟩)
  go_ret
  exact ⟨rfl, rfl⟩

theorem relu_any (A : Option Addr) (c : Nat) (xs : List Int) (w : World) (hx : (Kd.int .i64).C w A xs.length xs) (hc : xs.length ≤ c) (hn : xs.length ≤ 4096) :
    Calls Tryz.prog 100 #[.slice A xs.length c] w fun e w' => ∃ v, e = .returned v ∧ Own w' w.heap.size 2 v (vrelu xs) ∧ Below w.heap.size w w' := by
  have HE := Lib.hid (each_any A c xs w hx hc hn 119 #[] (enters_of Tryz.func119 (by kernel_rfl) rfl) (fun j => max (wi (xs.getD j 0)) 0) (fun _ W => Below w.heap.size w W)
    (Below.refl _ _) (fun i W W' h h' => h.trans h') (fun i W hi h => (relu1_any _ _).mono fun e W' ⟨h1, h2⟩ => by subst h2; exact ⟨h1, h, Keeps.refl _ _⟩))
  clear hx
  go_enter Tryz.func100, Tryz.ntmps100
  go_wp2_with fail
  refine HE.out.mono ?_
  rintro e w' ⟨v, rfl, ho, hb, hs⟩
  have HO := Lib.hid ho
  have HB := Lib.hid hb
  clear ho hb
  go_wp2_with fail
  go_ret
  exact ⟨v, rfl, HO.out, HB.out⟩

theorem scale1_any (x y : Int) (b : Nat) (w : World) (hb : w.cell? ⟨b, 0, none⟩ = some (.int .i64 y)) :
    Calls Tryz.prog 125 #[.int .i64 x, .pointer (some ⟨b, 0, none⟩)] w fun e w' => e = .returned (.int .i64 (fmul x y)) ∧ w = w' := by
  go_enter Tryz.func125, Tryz.ntmps125
  go_wp2_with (go_at_call 21; refine (mul_any _ _ _).mono ?_; rintro e w' ⟨rfl, rfl⟩)
  go_ret
  exact ⟨rfl, rfl⟩

theorem norm1_any (x y : Int) (b : Nat) (w : World) (hb : w.cell? ⟨b, 0, none⟩ = some (.int .i64 y)) :
    Calls Tryz.prog 112 #[.int .i64 x, .pointer (some ⟨b, 0, none⟩)] w fun e w' => e = .returned (.int .i64 (fdiv x y)) ∧ w = w' := by
  go_enter Tryz.func112, Tryz.ntmps112
  go_wp2_with (go_at_call 69; refine (div_any _ _ _).mono ?_; rintro e w' ⟨rfl, rfl⟩)
  go_ret
  exact ⟨rfl, rfl⟩

theorem soft2_any (x y : Int) (b : Nat) (w : World) (hb : w.cell? ⟨b, 0, none⟩ = some (.int .i64 y)) :
    Calls Tryz.prog 111 #[.int .i64 x, .pointer (some ⟨b, 0, none⟩)] w fun e w' => e = .returned (.int .i64 (fdiv x y)) ∧ w = w' := by
  go_enter Tryz.func111, Tryz.ntmps111
  go_wp2_with (go_at_call 69; refine (div_any _ _ _).mono ?_; rintro e w' ⟨rfl, rfl⟩)
  go_ret
  exact ⟨rfl, rfl⟩

/-- vec.each over a closure that reads one box. -/
theorem each_box (A : Option Addr) (c : Nat) (xs : List Int) (w w0 : World) (hx : (Kd.int .i64).C w A xs.length xs) (hc : xs.length ≤ c) (hn : xs.length ≤ 4096) (hw : Below w0.heap.size w0 w)
    (g : Nat) (eg : ∀ args w, (callFunc g args).run Tryz.prog w = .ok (.enter g args) w) (y : Int) (b : Nat) (hb : w.cell? ⟨b, 0, none⟩ = some (.int .i64 y)) (f : Int → Int → Int)
    (hf : ∀ (x : Int) (w : World), w.cell? ⟨b, 0, none⟩ = some (.int .i64 y) → Calls Tryz.prog g #[.int .i64 x, .pointer (some ⟨b, 0, none⟩)] w fun e w' => e = .returned (.int .i64 (f x y)) ∧ w = w') :
    Calls Tryz.prog 108 #[.slice A xs.length c, .func (.func g) #[] #[.pointer (some ⟨b, 0, none⟩)]] w fun e w' => ∃ v, e = .returned v ∧ Own w' w0.heap.size 2 v (vmap (fun x => f x y) xs) ∧ Below w0.heap.size w0 w' := by
  have hlt : b < w.heap.size := World.block_lt_of_cell? w _ hb
  refine (each_any A c xs w hx hc hn g #[.pointer (some ⟨b, 0, none⟩)] eg (fun j => f (xs.getD j 0) y) (fun _ W => Below w.heap.size w W) (Below.refl _ _) (fun i W W' h h' => h.trans h') ?_).mono ?_
  · intro i W hi h
    refine (hf _ W ((h.cell (p := ⟨b, 0, none⟩) hlt).trans hb)).mono fun e W' ⟨h1, h2⟩ => ?_
    subst h2
    exact ⟨h1, h, Keeps.refl _ _⟩
  · rintro e w' ⟨v, rfl, ho, hb, hs⟩
    exact ⟨v, rfl, ho.lower hw.size, below_then hw hw.size hb⟩

theorem scale_any (A : Option Addr) (c : Nat) (xs : List Int) (y : Int) (w : World) (hx : (Kd.int .i64).C w A xs.length xs) (hc : xs.length ≤ c) (hn : xs.length ≤ 4096) :
    Calls Tryz.prog 118 #[.slice A xs.length c, .int .i64 y] w fun e w' => ∃ v, e = .returned v ∧ Own w' w.heap.size 2 v (vscale xs y) ∧ Below w.heap.size w w' := by
  have HX := Lib.hid (fun o => Kd.C_below hx ((Below.refl _ w).alloc (Nat.le_refl _) o))
  clear hx
  go_enter Tryz.func118, Tryz.ntmps118
  go_wp2_with fail
  refine (each_box A c xs _ w (HX.out _) hc hn ((Below.refl _ w).alloc (Nat.le_refl _) _) 125 (enters_of Tryz.func125 (by kernel_rfl) rfl) y w.heap.size (by simp) fmul (fun x w h => scale1_any x y _ w h)).mono ?_
  rintro e w' ⟨v, rfl, ho, hb⟩
  have HO := Lib.hid ho
  have HB := Lib.hid hb
  clear ho hb
  go_wp2_with fail
  go_ret
  exact ⟨v, rfl, HO.out, HB.out⟩

theorem norm_any (A : Option Addr) (c : Nat) (xs : List Int) (w : World) (hx : (Kd.int .i64).C w A xs.length xs) (hc : xs.length ≤ c) (hn : xs.length ≤ 4096) :
    Calls Tryz.prog 73 #[.slice A xs.length c] w fun e w' => ∃ v, e = .returned v ∧ Own w' w.heap.size 2 v (vnorm xs) ∧ Below w.heap.size w w' := by
  have HX := Lib.hid hx
  have HXB := Lib.hid (fun (W : World) (h : Below w.heap.size w W) => Kd.C_below hx h)
  have HN := Lib.hid (show vnorm xs = vmap (fun x => fdiv x (vroot xs)) xs from rfl)
  have HR := Lib.hid (show vroot xs = froot (fadd (fdiv (vdot xs xs) (fint (xs.length : Int))) 1) from rfl)
  clear hx
  go_enter Tryz.func73, Tryz.ntmps73
  go_wp2_with fail
  refine (dot_any A A c c xs xs w HX.out HX.out hc hc hn hn).mono ?_
  rintro e w1 ⟨rfl, hd⟩
  have HB := Lib.hid hd.below
  clear hd
  have HX1 := Lib.hid (fun o => Kd.C_below (HXB.out _ HB.out) ((Below.refl _ w1).alloc (Nat.le_refl _) o))
  go_wp2_with (first
    | (go_at_call 103; refine (cut_any _ _ _ _ hc hn).mono ?_; rintro e w' ⟨rfl, rfl⟩)
    | (go_at_call 70; refine (fint_any _ _ (by omega) (by omega)).mono ?_; rintro e w' ⟨rfl, rfl⟩)
    | (go_at_call 69; refine (div_any _ _ _).mono ?_; rintro e w' ⟨rfl, rfl⟩)
    | (go_at_call 65; refine (add_any _ _ _).mono ?_; rintro e w' ⟨rfl, rfl⟩)
    | (go_at_call 97; refine (sqrt_any _ _).mono ?_; rintro e w' ⟨rfl, rfl⟩; rw [← HR.out]))
  refine (each_box A c xs _ w1 (HX1.out _) hc hn ((Below.refl _ w1).alloc (Nat.le_refl _) _) 112 (enters_of Tryz.func112 (by kernel_rfl) rfl) (vroot xs) w1.heap.size (by simp) fdiv (fun x w h => norm1_any x _ _ w h)).mono ?_
  rintro e w' ⟨v, rfl, ho, hb⟩
  have HO := Lib.hid (ho.lower HB.out.size)
  have HB2 := Lib.hid (below_then HB.out HB.out.size hb)
  clear ho hb
  go_wp2_with fail
  go_ret
  exact ⟨v, rfl, HO.out, HB2.out⟩

theorem soft1_any (x t s : Int) (b1 b2 : Nat) (w : World) (t0 : -2147483648 ≤ t) (t1 : t ≤ 2147483647) (h1 : w.cell? ⟨b1, 0, none⟩ = some (.int .i64 t)) (h2 : w.cell? ⟨b2, 0, none⟩ = some (.int .i64 s)) (h3 : w.frozen? ⟨b2, 0, none⟩ = false) :
    Calls Tryz.prog 109 #[.int .i64 x, .pointer (some ⟨b1, 0, none⟩), .pointer (some ⟨b2, 0, none⟩)] w fun e w' => e = .returned (.int .i64 (fexp (fadd x (-t)))) ∧ w' = w.setCell ⟨b2, 0, none⟩ (.int .i64 (fadd s (fexp (fadd x (-t))))) := by
  go_enter Tryz.func109, Tryz.ntmps109
  go_wp2_with (first
    | (go_at_call 65; refine (add_any _ _ _).mono ?_; rintro e w' ⟨rfl, rfl⟩)
    | (go_at_call 110; refine (exp_any _ _).mono ?_; rintro e w' ⟨rfl, rfl⟩))
  go_ret
  exact ⟨rfl, rfl⟩

/-- What holds while the weights are summed up. -/
def SoftI (w : World) (b1 b2 : Nat) (t : Int) (xs : List Int) (i : Nat) (W : World) : Prop :=
  Below w.heap.size w W ∧ w.heap.size ≤ b2 ∧ b1 ≠ b2 ∧ W.cell? ⟨b1, 0, none⟩ = some (.int .i64 t) ∧ W.cell? ⟨b2, 0, none⟩ = some (.int .i64 (sumTo (fun j => fexp (fadd (xs.getD j 0) (-t))) i)) ∧ W.frozen? ⟨b2, 0, none⟩ = false

theorem softI_below {w W W' : World} {b1 b2 B : Nat} {t : Int} {xs : List Int} {i : Nat} (h : SoftI w b1 b2 t xs i W) (hB : w.heap.size ≤ B) (h1 : b1 < B) (h2 : b2 < B) (hb : Below B W W') : SoftI w b1 b2 t xs i W' := by
  obtain ⟨g1, g2, g3, g4, g5, g6⟩ := h
  exact ⟨g1.trans (hb.mono hB), g2, g3, (hb.cell (p := ⟨b1, 0, none⟩) h1).trans g4, (hb.cell (p := ⟨b2, 0, none⟩) h2).trans g5, (hb.frozen (p := ⟨b2, 0, none⟩) h2).trans g6⟩

theorem softI_step {w W : World} {b1 b2 : Nat} {t : Int} {xs : List Int} {i : Nat} (h : SoftI w b1 b2 t xs i W) : SoftI w b1 b2 t xs (i + 1) (W.setCell ⟨b2, 0, none⟩ (.int .i64 (fadd (sumTo (fun j => fexp (fadd (xs.getD j 0) (-t))) i) (fexp (fadd (xs.getD i 0) (-t)))))) := by
  obtain ⟨g1, g2, g3, g4, g5, g6⟩ := h
  refine ⟨g1.setCell (p := ⟨b2, 0, none⟩) g2 _, g2, g3, ?_, ?_, ?_⟩
  · rw [World.cell?_setCell_other]
    · exact g4
    · intro hh; injection hh with hh; exact g3 hh.symm
  · exact World.cell?_setCell_same' _ _ _ (by rw [g5]; rfl)
  · rw [World.frozen?_setCell]; exact g6

theorem soft_nil (A : Option Addr) (c : Nat) (w : World) :
    Calls Tryz.prog 72 #[.slice A 0 c] w fun e w' => e = .returned (.slice none 0 0) ∧ w = w' := by
  go_enter Tryz.func72, Tryz.ntmps72
  go_wp2
  go_ret
  exact ⟨rfl, rfl⟩

theorem soft_some (A : Option Addr) (c : Nat) (xs : List Int) (w : World) (hx : (Kd.int .i64).C w A xs.length xs) (hc : xs.length ≤ c) (hn : xs.length ≤ 4096) (hp : 0 < xs.length) :
    Calls Tryz.prog 72 #[.slice A xs.length c] w fun e w' => ∃ v, e = .returned v ∧ Own w' w.heap.size 2 v (vsoft xs) ∧ Below w.heap.size w w' := by
  have HX := Lib.hid hx
  have HX1 := Lib.hid (fun o o' => Kd.C_below hx (((Below.refl _ w).alloc (Nat.le_refl _) o).alloc (by simp) o'))
  obtain ⟨t, ht⟩ : ∃ t, wi (vmax xs) = t := ⟨_, rfl⟩
  have t0 : -2147483648 ≤ t := by rw [← ht]; exact wi_lo _
  have t1 : t ≤ 2147483647 := by rw [← ht]; exact wi_hi _
  have HT := Lib.hid ht
  have HV := Lib.hid (show vsoft xs = tab xs.length (fun j => fdiv (fexp (fadd (xs.getD j 0) (-t))) (sumTo (fun j => fexp (fadd (xs.getD j 0) (-t))) xs.length)) by unfold vsoft; unfold vexp; rw [ht])
  have z : ((xs.length : Int) == 0) = false := by simp; intro h; subst h; simp at hp
  clear hx ht
  go_enter Tryz.func72, Tryz.ntmps72
  go_wp2_with (first
    | (go_at_call 103; refine (cut_any _ _ _ _ hc hn).mono ?_; rintro e w' ⟨rfl, rfl⟩)
    | (go_at_call 107; refine (max_any _ _ _ _ HX.out hp hn).mono ?_; rintro e w' ⟨rfl, rfl⟩)
    | (go_at_call 39; refine (within_any _ _).mono ?_; rintro e w' ⟨rfl, rfl⟩; rw [HT.out]))
  refine (each_any A c xs _ (HX1.out _ _) hc hn 109 #[.pointer (some ⟨w.heap.size, 0, none⟩), .pointer (some ⟨w.heap.size + 1, 0, none⟩)] (enters_of Tryz.func109 (by kernel_rfl) rfl) (fun j => fexp (fadd (xs.getD j 0) (-t)))
    (SoftI w w.heap.size (w.heap.size + 1) t xs) ⟨((Below.refl _ w).alloc (Nat.le_refl _) _).alloc (by simp) _, by omega, by omega, by simp, by simp [sumTo], by simp⟩
    (fun i W W' h hb => softI_below h (by simp; omega) (by simp; omega) (by simp) hb)
    (fun i W hi h => (soft1_any _ _ _ _ _ W t0 t1 h.2.2.2.1 h.2.2.2.2.1 h.2.2.2.2.2).mono fun e W' ⟨q1, q2⟩ => by
      subst q2
      exact ⟨q1, softI_step h, by simp, fun k hk1 hk2 => Below.heap_setCell W _ _ k (by simp at hk1 ⊢; omega)⟩)).mono ?_
  rintro e w2 ⟨v, rfl, ho, hi, hs⟩
  obtain ⟨hb, -, -, -, hsum, -⟩ := hi
  obtain ⟨A2, c2, rfl, hc2, hC⟩ := ho.reads_n (tab_len _ _)
  have HC := Lib.hid hC
  have HB := Lib.hid hb
  have HSUM := Lib.hid hsum
  have HL := Lib.hid (tab_len xs.length (fun j => fexp (fadd (xs.getD j 0) (-t))))
  clear ho hb hC hsum hs
  go_wp2_with fail
  rw [← HL.out]
  refine (each_box A2 c2 (tab xs.length (fun j => fexp (fadd (xs.getD j 0) (-t)))) w2 w HC.out (by rw [HL.out]; exact hc2) (by rw [HL.out]; exact hn) HB.out 111 (enters_of Tryz.func111 (by kernel_rfl) rfl) _ (w.heap.size + 1) HSUM.out fdiv (fun x w h => soft2_any x _ _ w h)).mono ?_
  rintro e w' ⟨v, rfl, ho, hb⟩
  have HO := Lib.hid ho
  have HB2 := Lib.hid hb
  clear ho hb
  go_wp2_with fail
  go_ret
  refine ⟨v, rfl, ?_, HB2.out⟩
  have e9 : vmap (fun x => fdiv x (sumTo (fun j => fexp (fadd (xs.getD j 0) (-t))) xs.length)) (tab xs.length (fun j => fexp (fadd (xs.getD j 0) (-t)))) = vsoft xs := by
    rw [HV.out]
    unfold vmap
    rw [HL.out]
    exact tab_congr _ _ _ fun i hi => by rw [tab_get _ _ _ hi]
  rw [← e9]
  exact HO.out

end Go.Proofs.YtdfgmdmcdnnhfaaGreat
