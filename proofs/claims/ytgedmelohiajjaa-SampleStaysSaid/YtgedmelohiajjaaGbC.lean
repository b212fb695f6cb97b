/- Contracts of slices.Clone, slices.Max at int64. -/
import Derived.Test.YtgedmelohiajjaaGbV
import Derived.Test.YtgedmelohiajjaaProg
import Derived.Test.YtgedmelohiajjaaGbB
import Derived.Test.YtgedmelohiajjaaGbW
import Derived.Test.YtgedmelohiajjaaWMore
import Derived.WalkKit
import Derived.KernelRfl
import Derived.Tactics
import Derived.OwnWalk
import Derived.BigQuiet
import Derived.Deep.QuietTactic
import Derived.Lib.Hide
import Derived.Outline
import Derived.WalkSpells
namespace Go.Proofs.Ytgedmelohiajjaa
open Go.RowKit Go.Proofs.YtgedmelohiajjaaW.PrintWords Go.Proofs.YtgedmelohiajjaaW.PrintLast Go.Proofs.YtgedmelohiajjaaW.PrintMore
set_option linter.unusedVariables false
set_option linter.unusedSimpArgs false
attribute [local go_sem] gb_max2 gb_min2 gb_max_two gb_min_two gb_max_three gb_min_three

/-- A row of one's own, of whole numbers. -/
def Own (w : World) (base e : Nat) (v : Value) (xs : List Int) : Prop := (Kd.int .i64).R e w base (fun _ => True) v xs
theorem Own.form {w : World} {base e : Nat} {v : Value} {xs : List Int} (h : Own w base e v xs) (hp : 0 < xs.length) : ∃ g cap, v = .slice (some ⟨g, 0, none⟩) xs.length cap ∧ base ≤ g ∧ g < w.heap.size := by
  obtain ⟨g, cap, h1, h2, h3, _⟩ := Kd.R_form h hp
  exact ⟨g, cap, h1, h2, h3⟩
theorem Own.at_ {w : World} {base e g cap : Nat} {xs : List Int} (h : Own w base e (.slice (some ⟨g, 0, none⟩) xs.length cap) xs) (i : Nat) (hi : i < xs.length) :
    w.cell? ⟨g, i, none⟩ = some (.int .i64 (xs.getD i 0)) ∧ w.frozen? ⟨g, i, none⟩ = false := by
  have := own_at (Kd.own_of_R (enc := Value.int .i64) (h1 := fun _ => rfl) h) (i : Int) (by omega) (by omega)
  simpa [rd] using this
theorem Own.store {w : World} {base e g cap : Nat} {xs : List Int} (h : Own w base e (.slice (some ⟨g, 0, none⟩) xs.length cap) xs) (i : Nat) (x : Int) :
    Own (w.setCell ⟨g, i, none⟩ (.int .i64 x)) base e (.slice (some ⟨g, 0, none⟩) xs.length cap) (xs.set i x) := by
  have := (own_store (Kd.own_of_R (enc := Value.int .i64) (h1 := fun _ => rfl) h) (i : Int) x).1
  have e2 : (xs.set i x).length = xs.length := List.length_set
  refine Kd.R_of_own (enc := Value.int .i64) (h1 := fun _ => rfl) ?_ (fun _ _ => trivial)
  rw [e2]
  simpa [encs, nums] using this
theorem Own.form_n {w : World} {base e n : Nat} {v : Value} {xs : List Int} (h : Own w base e v xs) (hn : xs.length = n) (hp : 0 < n) : ∃ g cap, v = .slice (some ⟨g, 0, none⟩) n cap ∧ base ≤ g ∧ g < w.heap.size := by
  subst hn; exact h.form hp
theorem Own.at_n {w : World} {base e g n cap : Nat} {xs : List Int} (h : Own w base e (.slice (some ⟨g, 0, none⟩) n cap) xs) (hn : xs.length = n) (i : Nat) (hi : i < n) :
    w.cell? ⟨g, i, none⟩ = some (.int .i64 (xs.getD i 0)) ∧ w.frozen? ⟨g, i, none⟩ = false := by
  subst hn; exact h.at_ i hi
theorem Own.store_n {w : World} {base e g n cap : Nat} {xs : List Int} (h : Own w base e (.slice (some ⟨g, 0, none⟩) n cap) xs) (hn : xs.length = n) (i : Nat) (x : Int) :
    Own (w.setCell ⟨g, i, none⟩ (.int .i64 x)) base e (.slice (some ⟨g, 0, none⟩) n cap) (xs.set i x) := by
  subst hn; exact h.store i x
theorem Own.reads_n {w : World} {base e n : Nat} {v : Value} {xs : List Int} (h : Own w base e v xs) (hn : xs.length = n) : ∃ A c, v = .slice A n c ∧ n ≤ c ∧ (Kd.int .i64).C w A xs.length xs := by
  subst hn; exact Kd.R_reads h
theorem Own.reads {w : World} {base e : Nat} {v : Value} {xs : List Int} (h : Own w base e v xs) : ∃ A c, v = .slice A xs.length c ∧ xs.length ≤ c ∧ (Kd.int .i64).C w A xs.length xs := Kd.R_reads h
theorem Own.below {w w1 : World} {base e : Nat} {v : Value} {xs : List Int} (h : Own w base e v xs) (hb : Below w.heap.size w w1) : Own w1 base e v xs := Kd.R_below h hb
theorem Own.lower {w : World} {base base' e : Nat} {v : Value} {xs : List Int} (h : Own w base e v xs) (hb : base' ≤ base) : Own w base' e v xs := Kd.R_lower h hb
/-- Blocks from base on stay. -/
theorem Own.kept {w w1 : World} {base e : Nat} {v : Value} {xs : List Int} (h : Own w base e v xs) (hk : ∀ k, base ≤ k → k < w.heap.size → w1.heap[k]? = w.heap[k]?) : Own w1 base e v xs :=
  Kd.R_mono (Kd.R_move (Kd.R_bound h) (fun k hk' => hk k hk'.2.1 hk'.2.2.1)) (fun _ _ => trivial)
theorem R_empty (W : World) (k : IntKind) (base e : Nat) (hb : base ≤ W.heap.size) : (Kd.int k).R e (W.alloc (.cells #[] e)) base (fun _ => True) (.slice (some ⟨W.heap.size, 0, none⟩) 0 0) [] :=
  Kd.R_of_own (enc := Value.int k) (h1 := fun _ => rfl) (own_lit_of (enc := Value.int k) W base e [] hb (by simp)) (fun _ _ => trivial)

theorem clone_any (A : Option Addr) (c : Nat) (xs : List Int) (w : World) (hx : (Kd.int .i64).C w A xs.length xs) (hc : xs.length ≤ c) (hn : xs.length ≤ 1000000) :
    Calls Try.prog 63 #[.slice A xs.length c] w fun e w' => ∃ v, e = .returned v ∧ (Kd.int .i64).R 2 w' w.heap.size (fun _ => True) v xs ∧ Below w.heap.size w w' := by
  cases A with
  | none =>
    have h0 : xs = [] := by
      cases xs with
      | nil => rfl
      | cons x l => obtain ⟨a, h, _⟩ := at_nat hx 0 (by simp); simp at h
    subst h0
    have he := fun W : World => Lib.run_eql_slice_nil (P := Try.prog) W 22 2 none 0 c 0 0 Try.underlying22
    clear hx
    go_enter Try.func63, Try.ntmps63
    go_wp2
    go_ret
    exact ⟨_, rfl, Kd.R_nil _ _ _ _ _, Below.refl _ _⟩
  | some a =>
    have HX := Lib.hid (Kd.C_below hx ((Below.refl _ w).alloc (Nat.le_refl _) (.cells #[] 2)))
    have HO := Lib.hid (R_empty w .i64 w.heap.size 2 (Nat.le_refl _))
    have HB := Lib.hid ((Below.refl _ w).alloc (Nat.le_refl _) (.cells #[] 2))
    clear hx
    have he := fun W : World => Lib.run_eql_slice_nil (P := Try.prog) W 22 2 (some a) xs.length c 0 0 Try.underlying22
    go_enter Try.func63, Try.ntmps63
    go_wp2_with (at_builtin; refine Kd.R_append_row (w0 := w) (Value.int .i64) 0 (h1 := fun _ => rfl) w.heap.size rfl _ _ 22 2 (.int .i64 0) 8 rfl Try.underlying22 infoI64 rfl (by decide) _ [] xs (some a) xs.length c (fun _ => True) rfl rfl (fun _ _ => trivial) HO.out HX.out HB.out (by simp) (by simp; omega) ?_; intro v1 w1 hr hb hg hat)
    go_ret
    exact ⟨_, rfl, hr, hb⟩


theorem cut_any (A : Option Addr) (n c : Nat) (w : World) (hc : n ≤ c) (hn : n ≤ 4096) :
    Calls Try.prog 48 #[.slice A n c] w fun e w' => e = .returned (.slice A n c) ∧ w = w' := by
  have s1 := cutI64 A n c (min (n : Int) 4096) (by omega) (by omega) hc
  have e1 : (min (n : Int) 4096).toNat = n := by omega
  rw [e1] at s1
  clear e1
  go_enter Try.func48, Try.ntmps48
  go_wp2
  go_ret
  exact ⟨rfl, rfl⟩

theorem gb_add0 (a : Addr) : a.add 0 = a := by simp [Addr.add]

theorem max_any (A : Option Addr) (c : Nat) (xs : List Int) (w : World) (hx : (Kd.int .i64).C w A xs.length xs) (hp : 0 < xs.length) (hn : xs.length ≤ 4096) :
    Calls Try.prog 54 #[.slice A xs.length c] w fun e w' => e = .returned (.int .i64 (vmax xs)) ∧ w = w' := by
  obtain ⟨a0, ea, h0⟩ := at_nat hx 0 hp
  subst ea
  simp only [gb_add0] at h0
  obtain ⟨x0, hx0⟩ : ∃ x, xs.getD 0 0 = x := ⟨_, rfl⟩
  rw [hx0] at h0
  have HX0 := Lib.hid hx0
  clear hx0
  have HX := Lib.hid hx
  clear hx
  obtain ⟨n, hnn⟩ : ∃ n, xs.length = n := ⟨_, rfl⟩
  rw [hnn] at hp hn ⊢
  have HN := Lib.hid hnn
  clear hnn
  have hp' : ¬ (n : Int) < 1 := by omega
  go_enter Try.func54, Try.ntmps54
  go_wp2
  go_loop [3, 4] (fun m i => ∃ k : Nat, 1 ≤ k ∧ k ≤ n ∧ m = .int .i64 (maxTo xs (k - 1)) ∧ i = .int .i64 k) (fun _ i => n - (intOf i).toNat)
  case atStart => exact ⟨1, by omega, by omega, by rw [← HX0.out]; rfl, rfl⟩
  case round =>
    obtain ⟨k, k1, k0, rfl, rfl⟩ := hrel
    by_cases hk : k < n
    · obtain ⟨a, ea, ha, hb⟩ := at_nat2 HX.out k (by rw [HN.out]; omega)
      obtain rfl := Option.some.inj ea
      obtain ⟨y, hy⟩ : ∃ y, xs.getD k 0 = y := ⟨_, rfl⟩
      rw [hy] at ha hb
      have HS := Lib.hid (show maxTo xs (k + 1 - 1) = max (maxTo xs (k - 1)) y by
        obtain ⟨j, rfl⟩ : ∃ j, k = j + 1 := ⟨k - 1, by omega⟩
        rw [← hy]; rfl)
      clear hy
      replace hb := hb (by omega)
      go_wp2
      go_round
      case rel => exact ⟨k + 1, by omega, by omega, by rw [HS.out], by go_num⟩
      case measure => simp [intOf]; omega
    · have HF := Lib.hid (show maxTo xs (k - 1) = vmax xs by unfold vmax; rw [HN.out]; congr 1; omega)
      go_wp2
      go_ret
      exact ⟨ret_i HF.out, rfl⟩

end Go.Proofs.Ytgedmelohiajjaa
