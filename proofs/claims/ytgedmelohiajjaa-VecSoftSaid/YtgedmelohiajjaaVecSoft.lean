/- vec.Soft gives weights from 0 to One, in the order of what was handed in, for every vector. -/
import Derived.Test.YtgedmelohiajjaaRows
import Derived.WalkKit
import Derived.ProofKit
import Derived.OpenShut
import Derived.ShutString
import Derived.ChangeOld
import Derived.Below
import Derived.Test.YtgedmelohiajjaaGbM
import Derived.Test.YtgedmelohiajjaaGbLawS
namespace Go.Proofs.Ytgedmelohiajjaa.vecSoft
open Go.ChangeShapes Go.WideShapes Go.ChangeAt Go.RowKit
open Go.ChangeMaps (open_string shut_string)
set_option linter.unusedVariables false
set_option linter.unusedSimpArgs false
open Go.Proofs.YtgedmelohiajjaaW.PrintWords Go.Proofs.YtgedmelohiajjaaW.PrintLast Go.Proofs.YtgedmelohiajjaaW.PrintMore

theorem own : ownKnob Try.prog.godebug = none := by kernel_rfl
theorem laidOut : laidOutB Try.prog = true := by kernel_rfl

def IsRow (k : IntKind) (w : World) (a : Option Addr) (len cap : Nat) (zs : List Int) : Prop :=
  (a = none ∧ len = 0 ∧ cap = 0 ∧ zs = []) ∨
  ∃ x, a = some x ∧ len ≤ cap ∧ cap ≤ maxLen ∧ zs.length = cap ∧ (∀ i, i < zs.length → w.cell? (x.add i) = some (.int k (zs.getD i 0))) ∧ ∀ n ∈ zs, (Lit.int k n).wf = true

set_option maxRecDepth 100000 in
set_option maxHeartbeats 1000000 in
theorem walk (a0 : Option Addr) (len0 cap0 : Nat) (z0 : List Int) (w : World) (w0 : IsRow .i64 w a0 len0 cap0 z0) :
    Calls Try.prog 4 #[.slice a0 len0 cap0] w fun e w' => e = .returned (.bool true) ∧ Below w.heap.size w w' := by
  obtain ⟨xs, rfl, hxs, hcxs, -⟩ := isrow_C w0
  clear w0
  have hr := rows1 w 22 a0 cap0 xs hxs hcxs
  have HR := Lib.hid hr
  have HX := Lib.hid (fun (W : World) (hb : Below w.heap.size w W) => Kd.C_below hxs hb)
  clear hr hxs
  by_cases hf : farB [xs] = true
  · go_enter Try.func4, Try.ntmps4
    go_wp2_with fail
    refine (far_any _ _ [xs] _ HR.out (by simp)).mono ?_
    unfold FarR
    rw [hf]
    rintro e w' ⟨rfl, rfl⟩
    go_wp2_with fail
    refine (alive_any _).mono ?_
    rintro e w1 ⟨rfl, hb⟩
    have HB := Lib.hid hb
    clear hb
    go_wp2_with fail
    go_ret
    exact ⟨rfl, below_then (below_alloc (Below.refl _ w) _) (by simp) HB.out⟩
  · have hf' : farB [xs] = false := by simpa using hf
    have hn := far1 xs hf'
    have HF := Lib.hid hf'
    have HL := Lib.hid (fun i hi => vsoft_law xs (by omega) i hi)
    have hsl : (vsoft xs).length = xs.length := by unfold vsoft; rw [tab_len]
    clear hf hf'
    go_enter Try.func4, Try.ntmps4
    go_wp2_with fail
    refine (far_any _ _ [xs] _ HR.out (by simp)).mono ?_
    unfold FarR
    rw [HF.out]
    rintro e w' ⟨rfl, rfl⟩
    obtain ⟨W0, hW0⟩ : ∃ W0, w.alloc (.cells #[.slice a0 xs.length cap0] 22) = W0 := ⟨_, rfl⟩
    have HB0 := Lib.hid (show Below w.heap.size w W0 by rw [← hW0]; exact below_alloc (Below.refl _ w) _)
    rw [hW0]
    clear hW0
    go_wp2_with fail
    refine (soft_any _ _ xs W0 (HX.out _ HB0.out) hcxs (by omega)).mono ?_
    rintro e W1 ⟨v1, rfl, ho1, hb1⟩
    have HB1 := Lib.hid (below_then HB0.out HB0.out.size hb1)
    obtain ⟨ss, hss⟩ : ∃ ss, vsoft xs = ss := ⟨_, rfl⟩
    rw [hss] at ho1 HL hsl
    obtain ⟨n, hnn⟩ : ∃ n, xs.length = n := ⟨_, rfl⟩
    have hsn := hsl.trans hnn
    obtain ⟨A1, k1, rfl, hk1, hC1⟩ := ho1.reads_n hsn
    have HC1 := Lib.hid hC1
    rw [hnn] at hn hcxs HL ⊢
    have HN := Lib.hid hnn
    have HSN := Lib.hid hsn
    have z : ((n : Int) != (n : Int)) = false := by simp
    clear ho1 hb1 hss hsl hnn hsn hC1
    go_wp2_with fail
    go_loopw [21] (fun s wr => ∃ i : Nat, s = .int .i64 i ∧ i ≤ n ∧ Below W1.heap.size W1 wr) (fun s _ => n - (intOf s).toNat)
    case atStart => exact ⟨0, rfl, by omega, Below.refl _ _⟩
    case round =>
      obtain ⟨i, rfl, hi, hb⟩ := hrel
      have HB2 := Lib.hid hb
      clear hb
      by_cases hin : i < n
      · obtain ⟨b1, e1, c1⟩ := at_nat (Kd.C_below HC1.out HB2.out) i (by rw [HSN.out]; exact hin)
        subst e1
        obtain ⟨l1, l2, l3⟩ := HL.out i hin
        obtain ⟨x, hxx⟩ : ∃ x, ss.getD i 0 = x := ⟨_, rfl⟩
        rw [hxx] at c1 l1 l2 l3
        have HL3 := Lib.hid l3
        clear hxx l3
        obtain ⟨W2, hW2⟩ : ∃ W2, wr = W2 := ⟨_, rfl⟩
        subst hW2
        go_wp2_with fail
        go_loopw [34] (fun s wq => ∃ k : Nat, s = .int .i64 k ∧ k ≤ n ∧ Below W1.heap.size W1 wq) (fun s _ => n - (intOf s).toNat)
        case atStart => exact ⟨0, rfl, by omega, HB2.out⟩
        case round =>
          obtain ⟨k, rfl, hk, hb⟩ := hrel
          have HB3 := Lib.hid hb
          clear hb HB2
          by_cases hkn : k < n
          · obtain ⟨b2, e2, c2⟩ := at_nat (Kd.C_below HC1.out HB3.out) k (by rw [HSN.out]; exact hkn)
            obtain rfl := Option.some.inj e2
            obtain ⟨b3, e3, c3⟩ := at_nat (Kd.C_below (HX.out _ HB1.out) HB3.out) i (by rw [HN.out]; exact hin)
            obtain ⟨b4, e4, c4⟩ := at_nat (Kd.C_below (HX.out _ HB1.out) HB3.out) k (by rw [HN.out]; exact hkn)
            subst e3
            obtain rfl := Option.some.inj e4
            have hl := HL3.out k hkn
            obtain ⟨y, hyy⟩ : ∃ y, ss.getD k 0 = y := ⟨_, rfl⟩
            obtain ⟨u, huu⟩ : ∃ u, xs.getD i 0 = u := ⟨_, rfl⟩
            obtain ⟨v, hvv⟩ : ∃ v, xs.getD k 0 = v := ⟨_, rfl⟩
            rw [hyy] at c2 hl
            rw [huu] at c3 hl
            rw [hvv] at c4 hl
            clear hyy huu hvv
            by_cases hle : wi u ≤ wi v
            · have hxy := hl hle
              clear hl
              have g1 : decide (wi u ≤ wi v) = true := decide_eq_true hle
              have g2 : decide (y < x) = false := decide_eq_false (by omega)
              clear hle
              go_wp2_with fail
              go_quiet ((first | (go_at_call 20; exact Calls.quiet_of_same (Calls.flip (rwithin_any _ _)))))
              go_wp2_with fail
              go_roundw
              case rel => exact ⟨k + 1, by go_num, by omega, pw_below_drewN HB3.out _⟩
              case measure => simp [intOf]; omega
            · clear hl
              have g1 : decide (wi u ≤ wi v) = false := decide_eq_false hle
              clear hle
              go_wp2_with fail
              go_quiet ((first | (go_at_call 20; exact Calls.quiet_of_same (Calls.flip (rwithin_any _ _)))))
              go_wp2_with fail
              go_roundw
              case rel => exact ⟨k + 1, by go_num, by omega, pw_below_drewN HB3.out _⟩
              case measure => simp [intOf]; omega
          · go_wp2_with fail
            go_roundw
            case rel => exact ⟨i + 1, by go_num, by omega, HB3.out⟩
            case measure => simp [intOf]; omega
      · go_wp2_with fail
        refine (alive_any _).mono ?_
        rintro e W5 ⟨rfl, hb5⟩
        have HB5 := Lib.hid (below_then (below_then HB1.out HB1.out.size HB2.out) (Nat.le_trans HB1.out.size HB2.out.size) hb5)
        clear hb5
        go_wp2_with fail
        go_ret
        exact ⟨rfl, HB5.out⟩

set_option maxRecDepth 100000 in
theorem lifted (os : Os) (started : os.Started) (H : Type) (enc : TypeId × Value → H) :
    ReturnsInHanded {} Try.checked os 4 .any (Rows.vecSoftSpec.pre6 enc Try.prog Try.f4 Rows.vecSoftRow.domain false) (Rows.vecSoftSpec.post enc Try.prog Try.f4 false true false false) := by
  refine returnsInHanded_of_change (C := Try.checked) own started (by kernel_rfl) Try.func4
    (ChangeSpec.witness6 (enc := enc) (C := Try.checked) false ⟨#[], #[.slice none 0 0], []⟩ 8 (by kernel_rfl) (by kernel_rfl) (by kernel_rfl) (by kernel_rfl)) ?_
  intro W base args ds gs before hval0 hW hcnd _
  have hval : ∀ (j : Nat) t v, Try.f4.params[j]? = some t → args[j]? = some v → Value.okWide Try.prog W .any base t v := hval0
  have hW' := hW
  obtain ⟨p, q, hA0, hV, rfl, hfz, hnd⟩ := hW
  have hA : DataW.TrodAll enc Try.prog W 0 (fun _ => true) true Try.f4.params.toList args.toList ds p := hA0
  rw [Try.params4] at hA hval
  obtain ⟨v0, vs0, d0, ds0, p0, q0, hargs, rfl, rfl, h0, r0⟩ := trodAll_cons hA
  obtain ⟨rfl, rfl, rfl⟩ := trodAll_nil r0
  obtain rfl : args = #[v0] := by cases args; simp_all
  obtain ⟨rfl, rfl⟩ := trodVars_none hV
  obtain ⟨a0, len0, cap0, rfl⟩ := okWide_slice Try.underlying22 (hval 0 22 v0 rfl rfl)
  have k0 := h0
  have lt0 : ∀ x ∈ p0, x.block < W.heap.size := by obtain ⟨m, hm⟩ := k0; exact DataW.trod_lt m _ _ _ hm
  obtain ⟨z0, w0⟩ : ∃ zs, IsRow .i64 W a0 len0 cap0 zs := by
    obtain ⟨fuel, hf⟩ := h0
    rcases open_ints Try.underlying22 Try.underlying2 (by kernel_rfl) hf with ⟨hcs, _⟩ | ⟨x, l, c, zs, hcs, _, hl, hm, hz, _, hcell, hwz⟩
    · simp [Value.cells] at hcs
      obtain ⟨rfl, rfl, rfl⟩ := hcs
      exact ⟨[], .inl ⟨rfl, rfl, rfl, rfl⟩⟩
    · simp [Value.cells] at hcs
      obtain ⟨rfl, rfl, rfl⟩ := hcs
      exact ⟨zs, .inr ⟨_, rfl, hl, hm, by simpa using hz, hcell, hwz⟩⟩
  clear hA0 hval0
  refine (walk a0 len0 cap0 z0 W w0).mono fun e W' ⟨he, bel⟩ => ?_
  subst he
  exact ⟨_, rfl, _, _, _, [], _, [], hW', trodAll_mk1 (shut_bool Try.underlying4 _), (trodAll_cons_mk (Below.trod laidOut (by kernel_rfl) (of_decide_eq_true (by kernel_rfl)) k0 bel lt0) trodAll_mk0), rfl, bel.frame _, fun h => by cases h⟩

theorem over : Rows.vecSoftRow.holds Try.pinned (OpenSpec.ofChange Rows.vecSoftSpec) :=
  OpenClaim.holds_of_wide 4 Try.f4 rfl rfl rfl rfl rfl rfl rfl ⟨rfl, rfl, rfl, rfl, rfl⟩ rfl rfl rfl rfl rfl (by kernel_rfl) Try.func4 (by kernel_rfl)
    (of_decide_eq_true (by kernel_rfl)) (by unfold Func.isWrapper; first | (rw [if_pos (by decide +kernel)]; kernel_rfl) | (rw [if_neg (by decide +kernel)]; exact ⟨rfl, rfl⟩))
    (fun os started H enc _ => lifted os started H enc)

theorem proved : Rows.VecSoftSaid := over
end Go.Proofs.Ytgedmelohiajjaa.vecSoft
