/- Contract of the document's Soft. -/
import Derived.Test.YtgedmelohiajjaaGbF
import Derived.Test.YtgedmelohiajjaaProg
import Derived.Test.YtgedmelohiajjaaGbB
import Derived.Test.YtgedmelohiajjaaGbW
import Derived.Test.YtgedmelohiajjaaWMore
import Derived.WalkKit
import Derived.KernelRfl
import Derived.Tactics
import Derived.OwnWalk
import Derived.BigQuiet
import Derived.Deep.QuietTactic
import Derived.Lib.Hide
import Derived.Outline
import Derived.StillTailTactics
import Derived.Deep.RegionLaw
import Derived.Shelf.Abstract
import Derived.WalkSpells
namespace Go.Proofs.Ytgedmelohiajjaa
open Go.RowKit Go.Shelf Go.Proofs.YtgedmelohiajjaaW.PrintWords Go.Proofs.YtgedmelohiajjaaW.PrintLast Go.Proofs.YtgedmelohiajjaaW.PrintMore
set_option linter.unusedVariables false
set_option linter.unusedSimpArgs false
attribute [local go_sem] gb_max2 gb_min2 gb_max_two gb_min_two gb_max_three gb_min_three

theorem wi_max (a b : Int) : wi (max a b) = max (wi a) (wi b) := by unfold wi; omega
theorem rsoft_nil (A : Option Addr) (c : Nat) (w : World) :
    Calls Try.prog 36 #[.slice A 0 c] w fun e w' => e = .returned (.slice none 0 0) ∧ w = w' := by
  go_enter Try.func36, Try.ntmps36
  go_wp2_with fail
  refine (rcut_any _ _ _ _ (by omega) (by omega)).mono ?_
  rintro e w' ⟨rfl, rfl⟩
  go_wp2_with fail
  go_ret
  exact ⟨rfl, rfl⟩

set_option maxRecDepth 100000 in
set_option maxHeartbeats 1000000 in
theorem rsoft_some (A : Option Addr) (c : Nat) (xs : List Int) (w : World) (hx : (Kd.int .i64).C w A xs.length xs) (hc : xs.length ≤ c) (hn : xs.length ≤ 4096) (hp : 0 < xs.length) :
    Calls Try.prog 36 #[.slice A xs.length c] w fun e w' => ∃ v, e = .returned v ∧ Own w' w.heap.size 2 v (vsoft xs) ∧ Below w.heap.size w w' := by
  have HX0 := Lib.hid hx
  have HX := Lib.hid (fun (W : World) (hb : Below w.heap.size w W) => Kd.C_below hx hb)
  obtain ⟨t, ht⟩ : ∃ t, wi (vmax xs) = t := ⟨_, rfl⟩
  have t0 : -2147483648 ≤ t := by rw [← ht]; exact wi_lo _
  have t1 : t ≤ 2147483647 := by rw [← ht]; exact wi_hi _
  have HT := Lib.hid ht
  have HV := Lib.hid (show vsoft xs = tab xs.length (fun j => fdiv (fexp (fadd (xs.getD j 0) (-t))) (sumTo (fun j => fexp (fadd (xs.getD j 0) (-t))) xs.length)) by unfold vsoft; unfold vexp; rw [ht])
  obtain ⟨a0, ea, h0⟩ := at_nat hx 0 hp
  subst ea
  simp only [gb_add0] at h0
  obtain ⟨x0, hx0⟩ : ∃ x, xs.getD 0 0 = x := ⟨_, rfl⟩
  rw [hx0] at h0
  have HX00 := Lib.hid hx0
  obtain ⟨n, hnn⟩ : ∃ n, xs.length = n := ⟨_, rfl⟩
  have HVM := Lib.hid (show wi (maxTo xs (n - 1)) = t by rw [← hnn]; exact ht)
  rw [hnn] at hc hn hp HV ⊢
  have HN := Lib.hid hnn
  have z : ((n : Int) == 0) = false := by simp; omega
  clear hx hnn ht hx0
  go_enter Try.func36, Try.ntmps36
  go_wp2_with fail
  refine (rcut_any _ _ _ _ hc hn).mono ?_
  rintro e w' ⟨rfl, rfl⟩
  go_wp2_with fail
  refine (rwithin_any _ _).mono ?_
  rintro e w' ⟨rfl, rfl⟩
  go_wp2_with fail
  go_loop [3, 4] (fun m s => ∃ k : Nat, s = .int .i64 k ∧ k ≤ n ∧ m = .int .i64 (wi (maxTo xs (k - 1)))) (fun _ s => n - (intOf s).toNat)
  case atStart => exact ⟨0, rfl, by omega, by rw [← HX00.out]; rfl⟩
  case round =>
    obtain ⟨k, rfl, hk, rfl⟩ := hrel
    by_cases hkn : k < n
    · obtain ⟨a1, ea, c1⟩ := at_nat HX0.out k (by rw [HN.out]; omega)
      obtain rfl := Option.some.inj ea
      obtain ⟨x, hxx⟩ : ∃ x, xs.getD k 0 = x := ⟨_, rfl⟩
      rw [hxx] at c1
      have HS := Lib.hid (show wi (maxTo xs (k + 1 - 1)) = max (wi (maxTo xs (k - 1))) (wi x) by
        rw [← hxx, ← wi_max]
        cases k with
        | zero => simp [maxTo]
        | succ k => rfl)
      obtain ⟨mm, hmm⟩ : ∃ mm, wi (maxTo xs (k - 1)) = mm := ⟨_, rfl⟩
      rw [hmm] at HS ⊢
      clear hxx hmm
      go_wp2_with (go_at_call 20; refine (rwithin_any _ _).mono ?_; rintro e w' ⟨rfl, rfl⟩)
      go_round
      case rel => exact ⟨k + 1, by go_num, by omega, by rw [HS.out]⟩
      case measure => simp [intOf]; omega
    · have HF := Lib.hid (show wi (maxTo xs (k - 1)) = t by rw [← HVM.out, show n = k by omega])
      go_wp2_with fail
      rw [HF.out]
      go_loopw [5, 6, 7] (fun v m s wr => ∃ i : Nat, s = .int .i64 i ∧ i ≤ n ∧ m = .int .i64 (sumTo (fun j => fexp (fadd (xs.getD j 0) (-t))) i) ∧ Own wr w.heap.size 2 v (tab i (fun j => fexp (fadd (xs.getD j 0) (-t)))) ∧ Below w.heap.size w wr) (fun _ _ s _ => n - (intOf s).toNat)
      case atStart => exact ⟨0, rfl, by omega, rfl, Kd.R_nil _ _ _ _ _, Below.refl _ _⟩
      case round =>
        obtain ⟨i, rfl, hi, rfl, ho, hb⟩ := hrel
        have HO := Lib.hid ho
        have HB := Lib.hid hb
        have hsz := hb.size
        clear ho hb
        by_cases hin : i < n
        · obtain ⟨a1, ea, c1⟩ := at_nat (HX.out _ HB.out) i (by rw [HN.out]; omega)
          obtain rfl := Option.some.inj ea
          obtain ⟨x, hxx⟩ : ∃ x, xs.getD i 0 = x := ⟨_, rfl⟩
          rw [hxx] at c1
          have HT1 := Lib.hid (tab_succ i (fun j => fexp (fadd (xs.getD j 0) (-t))))
          have HS := Lib.hid (show sumTo (fun j => fexp (fadd (xs.getD j 0) (-t))) (i + 1) = fadd (sumTo (fun j => fexp (fadd (xs.getD j 0) (-t))) i) (fexp (fadd x (-t))) by rw [← hxx]; rfl)
          obtain ⟨mm, hmm⟩ : ∃ mm, sumTo (fun j => fexp (fadd (xs.getD j 0) (-t))) i = mm := ⟨_, rfl⟩
          rw [hmm] at HS ⊢
          have HXX := Lib.hid hxx
          clear hxx hmm
          go_wp2_with (first
            | (at_builtin; refine own_append (w0 := w) wr _ w.heap.size rfl _ _ 22 2 rfl Try.underlying22 infoI64 _ _ (fexp (fadd x (-t))) wr.heap.size rfl rfl rfl rfl HO.out HB.out hsz (by rw [tab_len]; omega) ?_; intro v1 w1 ho1 hb1; have HO1 := Lib.hid ho1; have HB1 := Lib.hid hb1; clear ho1 hb1)
            | (go_at_call 65; refine (radd_any _ _ _).mono ?_; rintro e w' ⟨rfl, rfl⟩)
            | (go_at_call 75; refine (rexp_any _ _).mono ?_; rintro e w' ⟨rfl, rfl⟩))
          go_roundw
          case rel => exact ⟨i + 1, by go_num, by omega, by rw [HS.out], by rw [HT1.out, HXX.out]; exact HO1.out, HB1.out⟩
          case measure => simp [intOf]; omega
        · obtain rfl : i = n := by omega
          obtain ⟨sm, hsm⟩ : ∃ sm, sumTo (fun j => fexp (fadd (xs.getD j 0) (-t))) i = sm := ⟨_, rfl⟩
          rw [hsm] at HV ⊢
          clear hsm
          have HZ := Lib.hid (show tab i (fun j => fexp (fadd (xs.getD j 0) (-t))) = mixl i (fun j => fdiv (fexp (fadd (xs.getD j 0) (-t))) sm) (fun j => fexp (fadd (xs.getD j 0) (-t))) 0 from (mixl_zero _ _ _).symm)
          obtain ⟨A2, c2, hv2, hc2, -⟩ := HO.out.reads_n (tab_len _ _)
          rw [hv2] at HO ⊢
          clear hv2
          go_wp2_with fail
          go_loopw [9] (fun s wr => ∃ q : Nat, s = .int .i64 q ∧ q ≤ i ∧ Own wr w.heap.size 2 (.slice A2 i c2) (mixl i (fun j => fdiv (fexp (fadd (xs.getD j 0) (-t))) sm) (fun j => fexp (fadd (xs.getD j 0) (-t))) q) ∧ Below w.heap.size w wr) (fun s _ => i - (intOf s).toNat)
          case atStart => exact ⟨0, rfl, by omega, by rw [← HZ.out]; exact HO.out, HB.out⟩
          case round =>
            obtain ⟨q, rfl, hq, ho, hb⟩ := hrel
            by_cases hqi : q < i
            · obtain ⟨g, cap, hvv, hg0, hg1⟩ := ho.form_n (mixl_len _ _ _ _) (by omega)
              simp only [Value.slice.injEq] at hvv
              obtain ⟨rfl, -, rfl⟩ := hvv
              obtain ⟨d1, f1⟩ := ho.at_n (mixl_len _ _ _ _) q hqi
              rw [mixl_get _ _ _ _ hqi] at d1
              have HS := Lib.hid (mixl_set i (fun j => fdiv (fexp (fadd (xs.getD j 0) (-t))) sm) (fun j => fexp (fadd (xs.getD j 0) (-t))) q)
              obtain ⟨ex, hex⟩ : ∃ ex, fexp (fadd (xs.getD q 0) (-t)) = ex := ⟨_, rfl⟩
              rw [hex] at d1
              have HEX := Lib.hid hex
              have HO1 := Lib.hid ho
              have HB1 := Lib.hid hb
              clear ho hb hex
              go_wp2_with (go_at_call 72; refine (rdiv_any _ _ _).mono ?_; rintro e w' ⟨rfl, rfl⟩)
              go_roundw
              case rel => exact ⟨q + 1, by go_num, by omega, by rw [← HS.out, HEX.out]; exact HO1.out.store_n (mixl_len _ _ _ _) q _, HB1.out.setCell (p := ⟨g, q, none⟩) hg0 _⟩
              case measure => simp [intOf]; omega
            · have HF := Lib.hid (show mixl i (fun j => fdiv (fexp (fadd (xs.getD j 0) (-t))) sm) (fun j => fexp (fadd (xs.getD j 0) (-t))) q = vsoft xs by rw [mixl_full _ _ _ _ (by omega), HV.out])
              have HO1 := Lib.hid ho
              have HB1 := Lib.hid hb
              clear ho hb
              go_wp2_with fail
              go_ret
              exact ⟨_, rfl, HF.out ▸ HO1.out, HB1.out⟩

end Go.Proofs.Ytgedmelohiajjaa
