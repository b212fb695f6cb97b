/- Contracts of the vector functions that read. -/
import Derived.Test.YtgedmelohiajjaaGbA
import Derived.Test.YtgedmelohiajjaaProg
import Derived.Test.YtgedmelohiajjaaGbB
import Derived.Test.YtgedmelohiajjaaGbW
import Derived.Test.YtgedmelohiajjaaWMore
import Derived.WalkKit
import Derived.KernelRfl
import Derived.Tactics
import Derived.OwnWalk
import Derived.BigQuiet
import Derived.Deep.QuietTactic
import Derived.Lib.Hide
import Derived.Outline
namespace Go.Proofs.Ytgedmelohiajjaa
open Go.RowKit Go.Proofs.YtgedmelohiajjaaW.PrintWords Go.Proofs.YtgedmelohiajjaaW.PrintLast Go.Proofs.YtgedmelohiajjaaW.PrintMore
set_option linter.unusedVariables false
set_option linter.unusedSimpArgs false
attribute [local go_sem] gb_max2 gb_min2 gb_max_two gb_min_two gb_max_three gb_min_three

theorem infoI64 : (Try.prog.info? 2).map (fun i => (i.zero, i.size, i.bytes)) = some (some (.int .i64 0), 1, 8) := by kernel_rfl
theorem infoInt : (Try.prog.info? 3).map (fun i => (i.zero, i.size, i.bytes)) = some (some (.int .i64 0), 1, 8) := by kernel_rfl

theorem at_nat {w : World} {A : Option Addr} {k : IntKind} {xs : List Int} (h : (Kd.int k).C w A xs.length xs) (i : Nat) (h1 : i < xs.length) : ∃ ad : Addr, A = some ad ∧ w.cell? (ad.add i) = some (.int k (xs.getD i 0)) := by
  obtain ⟨ad, e, h2⟩ := Kd.at_int h (i : Int) (by omega) (by omega)
  exact ⟨ad, e, by simpa [rd] using h2⟩
theorem at_nat2 {w : World} {A : Option Addr} {k : IntKind} {xs : List Int} (h : (Kd.int k).C w A xs.length xs) (i : Nat) (h1 : i < xs.length) : ∃ ad : Addr, A = some ad ∧ w.cell? (ad.add i) = some (.int k (xs.getD i 0)) ∧ (i ≠ 0 → w.cell? ⟨ad.block, ad.off + i, none⟩ = some (.int k (xs.getD i 0))) := by
  obtain ⟨ad, e, h2⟩ := at_nat h i h1
  exact ⟨ad, e, h2, fun hi => by rw [← h2]; simp [Addr.add, hi]⟩
/-- s[:n] of a slice of int64. -/
theorem cutI64 (A : Option Addr) (n c : Nat) (j : Int) (h0 : 0 ≤ j) (h : j ≤ n) (hc : n ≤ c) : ∀ W : World, (Instr.slice 22 (.slice A n c) none (some (.int .i64 j)) none).run Try.prog W = .ok (.slice A j.toNat c) W := by
  obtain ⟨i, hi, _, hs, _⟩ := info_parts infoI64
  exact cut_to (P := Try.prog) 22 2 .i64 Try.underlying22 hi A n c j h0 h hc

theorem pair_any (A B : Option Addr) (n m c d : Nat) (w : World) (hc : n ≤ c) (hd : m ≤ d) (hn : n ≤ 4096) (hm : m ≤ 4096) :
    Calls Try.prog 61 #[.slice A n c, .slice B m d] w fun e w' => e = .returned (.tuple #[.slice A (min n m) c, .slice B (min n m) d]) ∧ Drawn0 w w' := by
  have s1 := cutI64 A n c (min (n : Int) (min (m : Int) 4096)) (by omega) (by omega) hc
  have s2 := cutI64 B m d (min (n : Int) (min (m : Int) 4096)) (by omega) (by omega) hd
  have e1 : (min (n : Int) (min (m : Int) 4096)).toNat = min n m := by omega
  rw [e1] at s1 s2
  clear e1
  go_enter Try.func61, Try.ntmps61
  go_wp2
  go_quiet (fail)
  go_wp2
  go_ret2
  exact ⟨rfl, ⟨_, rfl⟩⟩

/-- vec.Dot. -/
theorem dot_any (A B : Option Addr) (c d : Nat) (xs ys : List Int) (w : World) (hx : (Kd.int .i64).C w A xs.length xs) (hy : (Kd.int .i64).C w B ys.length ys) (hc : xs.length ≤ c) (hd : ys.length ≤ d) (hn : xs.length ≤ 4096) (hm : ys.length ≤ 4096) :
    Calls Try.prog 21 #[.slice A xs.length c, .slice B ys.length d] w fun e w' => e = .returned (.int .i64 (vdot xs ys)) ∧ Drawn0 w w' := by
  have HX := Lib.hid hx
  have HY := Lib.hid hy
  have HD := Lib.hid (show vdot xs ys = dotTo xs ys (min xs.length ys.length) from rfl)
  clear hx hy
  obtain ⟨n, hnn⟩ : ∃ n, min xs.length ys.length = n := ⟨_, rfl⟩
  have hn1 : n ≤ xs.length := by omega
  have hn2 : n ≤ ys.length := by omega
  rw [hnn] at HD
  have HN := Lib.hid hnn
  clear hnn
  go_enter Try.func21, Try.ntmps21
  go_wp2_with (go_at_call 61; refine (pair_any _ _ _ _ _ _ _ hc hd hn hm).mono ?_; rw [HN.out]; rintro e w' ⟨rfl, ⟨q, rfl⟩⟩)
  go_loop [5, 16] (fun s i => ∃ k : Nat, k ≤ n ∧ s = .int .i64 (dotTo xs ys k) ∧ i = .int .i64 k) (fun _ i => n - (intOf i).toNat)
  case atStart => exact ⟨0, by omega, rfl, rfl⟩
  case round =>
    obtain ⟨k, k0, rfl, rfl⟩ := hrel
    by_cases hk : k < n
    · obtain ⟨a, ea, ha⟩ := at_nat HX.out k (by omega)
      obtain ⟨b, eb, hb⟩ := at_nat HY.out k (by omega)
      subst ea eb
      have HS := Lib.hid (show dotTo xs ys (k + 1) = fadd (dotTo xs ys k) (fmul (xs.getD k 0) (ys.getD k 0)) from rfl)
      go_wp2_with (first
        | (go_at_call 62; refine (mul_any _ _ _).mono ?_; rintro e w' ⟨rfl, rfl⟩)
        | (go_at_call 58; refine (add_any _ _ _).mono ?_; rintro e w' ⟨rfl, rfl⟩))
      go_round
      case rel => exact ⟨k + 1, by omega, by rw [HS.out]; simp, by go_num⟩
      case measure => simp [intOf]; omega
    · have HF := Lib.hid (show dotTo xs ys k = vdot xs ys by rw [HD.out]; congr 1; omega)
      go_wp2
      go_ret
      exact ⟨ret_i HF.out, ⟨_, rfl⟩⟩

end Go.Proofs.Ytgedmelohiajjaa
