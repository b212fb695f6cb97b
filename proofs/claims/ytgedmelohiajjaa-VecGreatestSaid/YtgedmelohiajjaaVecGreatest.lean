/- vec.Top gives the greatest ones, each once, for every vector and every number. -/
import Derived.Test.YtgedmelohiajjaaRows
import Derived.WalkKit
import Derived.ProofKit
import Derived.OpenShut
import Derived.ShutString
import Derived.ChangeOld
import Derived.Below
import Derived.Test.YtgedmelohiajjaaGbTopR
import Derived.Test.YtgedmelohiajjaaGbLaw8
import Derived.Test.YtgedmelohiajjaaGbGre
namespace Go.Proofs.Ytgedmelohiajjaa.vecGreatest
open Go.ChangeShapes Go.WideShapes Go.ChangeAt Go.RowKit
open Go.ChangeMaps (open_string shut_string)
set_option linter.unusedVariables false
set_option linter.unusedSimpArgs false
open Go.Proofs.YtgedmelohiajjaaW.PrintWords Go.Proofs.YtgedmelohiajjaaW.PrintLast Go.Proofs.YtgedmelohiajjaaW.PrintMore

theorem own : ownKnob Try.prog.godebug = none := by kernel_rfl
theorem laidOut : laidOutB Try.prog = true := by kernel_rfl

def IsRow (k : IntKind) (w : World) (a : Option Addr) (len cap : Nat) (zs : List Int) : Prop :=
  (a = none ∧ len = 0 ∧ cap = 0 ∧ zs = []) ∨
  ∃ x, a = some x ∧ len ≤ cap ∧ cap ≤ maxLen ∧ zs.length = cap ∧ (∀ i, i < zs.length → w.cell? (x.add i) = some (.int k (zs.getD i 0))) ∧ ∀ n ∈ zs, (Lit.int k n).wf = true

attribute [local go_sem] gb_max2 gb_min2 gb_max_two gb_min_two gb_max_three gb_min_three
set_option maxRecDepth 100000 in
set_option maxHeartbeats 1000000 in
theorem walk (a0 : Option Addr) (len0 cap0 : Nat) (z0 : List Int) (a1 : Int) (w : World) (w0 : IsRow .i64 w a0 len0 cap0 z0) (w1 : (Lit.int .i64 a1).wf = true) :
    Calls Try.prog 5 #[.slice a0 len0 cap0, .int .i64 a1] w fun e w' => e = .returned (.bool true) ∧ Below w.heap.size w w' := by
  obtain ⟨xs, rfl, hxs, hcxs, -⟩ := isrow_C w0
  clear w0 w1
  have hr := rows1 w 22 a0 cap0 xs hxs hcxs
  have HR := Lib.hid hr
  have HX := Lib.hid (fun (W : World) (hb : Below w.heap.size w W) => Kd.C_below hxs hb)
  clear hr hxs
  by_cases hf : farB [xs] = true
  · go_enter Try.func5, Try.ntmps5
    go_wp2_with fail
    refine (far_any _ _ [xs] _ HR.out (by simp)).mono ?_
    unfold FarR
    rw [hf]
    rintro e w' ⟨rfl, rfl⟩
    go_wp2_with fail
    refine (alive_any _).mono ?_
    rintro e w1 ⟨rfl, hb⟩
    have HB := Lib.hid hb
    clear hb
    go_wp2_with fail
    go_ret
    exact ⟨rfl, below_then (below_alloc (Below.refl _ w) _) (by simp) HB.out⟩
  · have hf' : farB [xs] = false := by simpa using hf
    have hn := far1 xs hf'
    have HF := Lib.hid hf'
    have HL := Lib.hid (great xs a1)
    have hsl : (vtop xs a1).length = min xs.length (max a1 0).toNat := by
      obtain ⟨T, h1, h2, -⟩ := vtop_tops xs a1
      rw [h1, List.length_map, h2]
    clear hf hf'
    go_enter Try.func5, Try.ntmps5
    go_wp2_with fail
    refine (far_any _ _ [xs] _ HR.out (by simp)).mono ?_
    unfold FarR
    rw [HF.out]
    rintro e w' ⟨rfl, rfl⟩
    obtain ⟨W0, hW0⟩ : ∃ W0, w.alloc (.cells #[.slice a0 xs.length cap0] 22) = W0 := ⟨_, rfl⟩
    have HB0 := Lib.hid (show Below w.heap.size w W0 by rw [← hW0]; exact below_alloc (Below.refl _ w) _)
    rw [hW0]
    clear hW0
    go_wp2_with fail
    refine (top_any _ _ xs a1 W0 (HX.out _ HB0.out) hcxs (by omega)).mono ?_
    rintro e W1 ⟨v1, rfl, ho1, hb1⟩
    have HB1 := Lib.hid (below_then HB0.out HB0.out.size hb1)
    obtain ⟨ss, hss⟩ : ∃ ss, vtop xs a1 = ss := ⟨_, rfl⟩
    rw [hss] at ho1 HL hsl
    obtain ⟨m, hmm⟩ : ∃ m, min xs.length (max a1 0).toNat = m := ⟨_, rfl⟩
    rw [hmm] at hsl HL
    obtain ⟨n, hnn⟩ : ∃ n, xs.length = n := ⟨_, rfl⟩
    obtain ⟨A1, k1, rfl, hk1, hC1⟩ := ho1.reads_n hsl
    have HC1 := Lib.hid hC1
    unfold Great at HL
    rw [hnn] at hn hcxs HL hmm ⊢
    have HL1 := Lib.hid HL.out.1
    have HL2 := Lib.hid HL.out.2
    have HN := Lib.hid hnn
    have HSN := Lib.hid hsl
    have hmn : m ≤ n := by omega
    have z : ((m : Int) != min (max a1 0) (n : Int)) = false := by
      have : (m : Int) = min (max a1 0) (n : Int) := by omega
      rw [← this]; simp
    have hmk := print_make_of (P := Try.prog) 31 4 (.bool false) 1 Try.underlying31 infoBool rfl (by decide) n (by omega)
    have HMO := Lib.hid (own_made_of (enc := Value.bool) (d := false) W1 W1.heap.size 4 n (Nat.le_refl _) (by omega))
    clear ho1 hb1 hss hsl hnn hC1 HL hmm
    go_wp2_with fail
    obtain ⟨W2, hW2⟩ : ∃ W2, W1.alloc (.cells (madeCells #[.bool false] n) 4) = W2 := ⟨_, rfl⟩
    obtain ⟨g, hg⟩ : ∃ g, W1.heap.size = g := ⟨_, rfl⟩
    have HB2 := Lib.hid (show Below g W1 W2 by rw [← hW2, ← hg]; exact below_alloc (Below.refl _ W1) _)
    have HOB0 := Lib.hid (show OwnB W2 g 4 g n (gmet n ss 0) by
      rw [← hW2, ← hg]; exact ⟨by simp [gmet], HMO.out⟩)
    have HGG := Lib.hid hg
    rw [hW2, hg]
    clear hW2 HMO hmk hg
    go_loopw [31] (fun s wr => ∃ i : Nat, s = .int .i64 i ∧ i ≤ m ∧ Below g W1 wr ∧ OwnB wr g 4 g n (gmet n ss i)) (fun s _ => m - (intOf s).toNat)
    case atStart => exact ⟨0, rfl, by omega, HB2.out, HOB0.out⟩
    case round =>
      obtain ⟨i, rfl, hi, hb, ho⟩ := hrel
      have HB3 := Lib.hid hb
      have HO3 := Lib.hid ho
      have HB4 := Lib.hid (below_then HB1.out HB1.out.size (HGG.out ▸ hb))
      clear hb ho HOB0
      have hgd : Below W1.heap.size W1 wr := by rw [HGG.out]; exact HB3.out
      by_cases him : i < m
      · obtain ⟨p, hp, hpn, hpm, hpq⟩ := HL1.out i him
        obtain ⟨b1, e1, c1⟩ := at_nat (Kd.C_below HC1.out hgd) i (by rw [HSN.out]; exact him)
        subst e1
        rw [hp] at c1
        obtain ⟨m1, f1⟩ := HO3.out.at_ p hpn
        rw [hpm] at m1
        have HM := Lib.hid (show gmet n ss (i + 1) = (gmet n ss i).set p true by show (gmet n ss i).set (ss.getD i 0).toNat true = _; rw [hp, Int.toNat_natCast])
        have HST := Lib.hid (HO3.out.store p true)
        have g0 : decide ((p : Int) < 0) = false := decide_eq_false (by omega)
        have g1 : decide (n ≤ p) = false := decide_eq_false (by omega)
        have hp2 := hp
        clear hp hpm
        by_cases hi0 : i = 0
        · have g2 : decide (0 < i) = false := decide_eq_false (by omega)
          clear hpq hi0 hp2
          go_wp2_with fail
          go_quiet ((first | (go_at_call 20; exact Calls.quiet_of_same (Calls.flip (rwithin_any _ _)))))
          go_wp2_with fail
          go_roundw
          case rel => exact ⟨i + 1, by go_num, by omega, (pw_below_drewN HB3.out _).setCell (p := ⟨g, p, none⟩) (Nat.le_refl _) _, by rw [HM.out]; exact (HO3.out.drew_ _).store p true⟩
          case measure => simp [intOf]; omega
        · obtain ⟨i, rfl⟩ : ∃ j, i = j + 1 := ⟨i - 1, by omega⟩
          obtain ⟨q, hq, hqn, hle⟩ := hpq (by omega)
          rw [Nat.add_sub_cancel] at hq
          obtain ⟨b2, e2, c2⟩ := at_nat (Kd.C_below HC1.out hgd) i (by rw [HSN.out]; omega)
          obtain rfl := Option.some.inj e2
          rw [hq] at c2
          obtain ⟨b5, e5, c5⟩ := at_nat2 (Kd.C_below HC1.out hgd) (i + 1) (by rw [HSN.out]; exact him)
          obtain rfl := Option.some.inj e5
          rw [hp2] at c5
          obtain ⟨b3, e3, c3⟩ := at_nat (Kd.C_below (HX.out _ HB1.out) hgd) p (by rw [HN.out]; exact hpn)
          subst e3
          obtain ⟨b4, e4, c4⟩ := at_nat (Kd.C_below (HX.out _ HB1.out) hgd) q (by rw [HN.out]; exact hqn)
          obtain rfl := Option.some.inj e4
          obtain ⟨x, hxx⟩ : ∃ x, xs.getD p 0 = x := ⟨_, rfl⟩
          obtain ⟨y, hyy⟩ : ∃ y, xs.getD q 0 = y := ⟨_, rfl⟩
          rw [hxx] at c3 hle
          rw [hyy] at c4 hle
          have g2 : decide (wi y < wi x) = false := decide_eq_false (by omega)
          clear hpq hi0 hq hle hxx hyy hp2
          go_wp2_with fail
          go_quiet ((first | (go_at_call 20; exact Calls.quiet_of_same (Calls.flip (rwithin_any _ _)))))
          go_wp2_with fail
          go_roundw
          case rel => exact ⟨i + 1 + 1, by go_num, by omega, (pw_below_drewN HB3.out _).setCell (p := ⟨g, p, none⟩) (Nat.le_refl _) _, by rw [HM.out]; exact (HO3.out.drew_ _).store p true⟩
          case measure => simp [intOf]; omega
      · obtain rfl : i = m := by omega
        by_cases hi0 : i = 0
        · have g2 : decide (0 < i) = false := decide_eq_false (by omega)
          clear hi0 hmn hi him
          obtain ⟨wo, rfl⟩ : ∃ wo : World, wo = wr := ⟨_, rfl⟩
          go_wp2_with fail
          go_loopw [77] (fun s wq => ∃ j : Nat, s = .int .i64 j ∧ j ≤ n ∧ Below wo.heap.size wo wq ∧ OwnB wq g 4 g n (gmet n ss i)) (fun s _ => n - (intOf s).toNat)
          case atStart => exact ⟨0, rfl, by omega, Below.refl _ _, HO3.out⟩
          case round =>
            obtain ⟨j, rfl, hj, hb, ho⟩ := hrel
            have HB5 := Lib.hid hb
            have HO5 := Lib.hid ho
            have HB6 := Lib.hid (below_then HB4.out HB4.out.size hb)
            have HB7 := Lib.hid (below_then hgd hgd.size hb)
            clear hb ho
            by_cases hjn : j < n
            · obtain ⟨m1, -⟩ := HO5.out.at_ j hjn
              obtain ⟨b3, e3, c3⟩ := at_nat (HX.out _ HB6.out) j (by rw [HN.out]; exact hjn)
              subst e3
              obtain ⟨x, hxx⟩ : ∃ x, xs.getD j 0 = x := ⟨_, rfl⟩
              rw [hxx] at c3
              clear m1
              go_wp2_with fail
              go_quiet ((first | (go_at_call 20; exact Calls.quiet_of_same (Calls.flip (rwithin_any _ _)))))
              go_wp2_with fail
              go_roundw
              case rel => exact ⟨j + 1, by go_num, by omega, pw_below_drewN HB5.out _, HO5.out.drew_ _⟩
              case measure => simp [intOf]; omega
            · go_wp2_with fail
              refine (alive_any _).mono ?_
              rintro e W5 ⟨rfl, hb5⟩
              have HB8 := Lib.hid (below_then HB6.out HB6.out.size hb5)
              clear hb5
              go_wp2_with fail
              go_ret
              exact ⟨rfl, HB8.out⟩
        · obtain ⟨i, rfl⟩ : ∃ j, i = j + 1 := ⟨i - 1, by omega⟩
          obtain ⟨wo, rfl⟩ : ∃ wo : World, wo = wr := ⟨_, rfl⟩
          go_wp2_with fail
          rw [show ((i + 1 : Nat) : Int) = (i : Int) + 1 by omega]
          go_loopw [77] (fun s wq => ∃ j : Nat, s = .int .i64 j ∧ j ≤ n ∧ Below wo.heap.size wo wq ∧ OwnB wq g 4 g n (gmet n ss (i + 1))) (fun s _ => n - (intOf s).toNat)
          case atStart => exact ⟨0, rfl, by omega, Below.refl _ _, HO3.out⟩
          case round =>
            obtain ⟨j, rfl, hj, hb, ho⟩ := hrel
            have HB5 := Lib.hid hb
            have HO5 := Lib.hid ho
            have HB6 := Lib.hid (below_then HB4.out HB4.out.size hb)
            have HB7 := Lib.hid (below_then hgd hgd.size hb)
            clear hb ho
            by_cases hjn : j < n
            · obtain ⟨m1, -⟩ := HO5.out.at_ j hjn
              obtain ⟨b3, e3, c3⟩ := at_nat (HX.out _ HB6.out) j (by rw [HN.out]; exact hjn)
              subst e3
              obtain ⟨x, hxx⟩ : ∃ x, xs.getD j 0 = x := ⟨_, rfl⟩
              rw [hxx] at c3
              obtain ⟨mb, hmb⟩ : ∃ mb, (gmet n ss (i + 1)).getD j false = mb := ⟨_, rfl⟩
              rw [hmb] at m1
              cases mb with
              | true =>
                clear hmb
                go_wp2_with fail
                go_quiet ((first | (go_at_call 20; exact Calls.quiet_of_same (Calls.flip (rwithin_any _ _)))))
                go_wp2_with fail
                go_roundw
                case rel => exact ⟨j + 1, by go_num, by omega, pw_below_drewN HB5.out _, HO5.out.drew_ _⟩
                case measure => simp [intOf]; omega
              | false =>
                obtain ⟨p, hp, hpn, hle⟩ := HL2.out j hjn (by omega) hmb
                rw [Nat.add_sub_cancel] at hp
                obtain ⟨b2, e2, c2⟩ := at_nat (Kd.C_below HC1.out HB7.out) i (by rw [HSN.out]; omega)
                subst e2
                rw [hp] at c2
                obtain ⟨b4, e4, c4⟩ := at_nat (HX.out _ HB6.out) p (by rw [HN.out]; exact hpn)
                obtain rfl := Option.some.inj e4
                obtain ⟨y, hyy⟩ : ∃ y, xs.getD p 0 = y := ⟨_, rfl⟩
                rw [hyy] at c4
                rw [hxx, hyy] at hle
                have g2 : decide (wi y < wi x) = false := decide_eq_false (by omega)
                clear hmb hp hle hxx hyy
                go_wp2_with fail
                go_quiet ((first | (go_at_call 20; exact Calls.quiet_of_same (Calls.flip (rwithin_any _ _)))))
                go_wp2_with fail
                go_roundw
                case rel => exact ⟨j + 1, by go_num, by omega, pw_below_drewN HB5.out _, HO5.out.drew_ _⟩
                case measure => simp [intOf]; omega
            · go_wp2_with fail
              refine (alive_any _).mono ?_
              rintro e W5 ⟨rfl, hb5⟩
              have HB8 := Lib.hid (below_then HB6.out HB6.out.size hb5)
              clear hb5
              go_wp2_with fail
              go_ret
              exact ⟨rfl, HB8.out⟩

set_option maxRecDepth 100000 in
theorem lifted (os : Os) (started : os.Started) (H : Type) (enc : TypeId × Value → H) :
    ReturnsInHanded {} Try.checked os 5 .any (Rows.vecGreatestSpec.pre6 enc Try.prog Try.f5 Rows.vecGreatestRow.domain false) (Rows.vecGreatestSpec.post enc Try.prog Try.f5 false true false false) := by
  refine returnsInHanded_of_change (C := Try.checked) own started (by kernel_rfl) Try.func5
    (ChangeSpec.witness6 (enc := enc) (C := Try.checked) false ⟨#[], #[.slice none 0 0, .int .i64 0], []⟩ 8 (by kernel_rfl) (by kernel_rfl) (by kernel_rfl) (by kernel_rfl)) ?_
  intro W base args ds gs before hval0 hW hcnd _
  have hval : ∀ (j : Nat) t v, Try.f5.params[j]? = some t → args[j]? = some v → Value.okWide Try.prog W .any base t v := hval0
  have hW' := hW
  obtain ⟨p, q, hA0, hV, rfl, hfz, hnd⟩ := hW
  have hA : DataW.TrodAll enc Try.prog W 0 (fun _ => true) true Try.f5.params.toList args.toList ds p := hA0
  rw [Try.params5] at hA hval
  obtain ⟨v0, vs0, d0, ds0, p0, q0, hargs, rfl, rfl, h0, r0⟩ := trodAll_cons hA
  obtain ⟨v1, vs1, d1, ds1, p1, q1, rfl, rfl, rfl, h1, r1⟩ := trodAll_cons r0
  obtain ⟨rfl, rfl, rfl⟩ := trodAll_nil r1
  obtain rfl : args = #[v0, v1] := by cases args; simp_all
  obtain ⟨rfl, rfl⟩ := trodVars_none hV
  obtain ⟨a0, len0, cap0, rfl⟩ := okWide_slice Try.underlying22 (hval 0 22 v0 rfl rfl)
  have k0 := h0
  have lt0 : ∀ x ∈ p0, x.block < W.heap.size := by obtain ⟨m, hm⟩ := k0; exact DataW.trod_lt m _ _ _ hm
  obtain ⟨z0, w0⟩ : ∃ zs, IsRow .i64 W a0 len0 cap0 zs := by
    obtain ⟨fuel, hf⟩ := h0
    rcases open_ints Try.underlying22 Try.underlying2 (by kernel_rfl) hf with ⟨hcs, _⟩ | ⟨x, l, c, zs, hcs, _, hl, hm, hz, _, hcell, hwz⟩
    · simp [Value.cells] at hcs
      obtain ⟨rfl, rfl, rfl⟩ := hcs
      exact ⟨[], .inl ⟨rfl, rfl, rfl, rfl⟩⟩
    · simp [Value.cells] at hcs
      obtain ⟨rfl, rfl, rfl⟩ := hcs
      exact ⟨zs, .inr ⟨_, rfl, hl, hm, by simpa using hz, hcell, hwz⟩⟩
  obtain ⟨a1, rfl, rfl, rfl, w1⟩ := open_int Try.underlying3 (hval 1 3 v1 rfl rfl) h1
  clear hA0 hval0
  refine (walk a0 len0 cap0 z0 a1 W w0 w1).mono fun e W' ⟨he, bel⟩ => ?_
  subst he
  exact ⟨_, rfl, _, _, _, [], _, [], hW', trodAll_mk1 (shut_bool Try.underlying4 _), (trodAll_cons_mk (Below.trod laidOut (by kernel_rfl) (of_decide_eq_true (by kernel_rfl)) k0 bel lt0) (trodAll_cons_mk (shut_int Try.underlying3 w1) trodAll_mk0)), rfl, bel.frame _, fun h => by cases h⟩

theorem over : Rows.vecGreatestRow.holds Try.pinned (OpenSpec.ofChange Rows.vecGreatestSpec) :=
  OpenClaim.holds_of_wide 5 Try.f5 rfl rfl rfl rfl rfl rfl rfl ⟨rfl, rfl, rfl, rfl, rfl⟩ rfl rfl rfl rfl rfl (by kernel_rfl) Try.func5 (by kernel_rfl)
    (of_decide_eq_true (by kernel_rfl)) (by unfold Func.isWrapper; first | (rw [if_pos (by decide +kernel)]; kernel_rfl) | (rw [if_neg (by decide +kernel)]; exact ⟨rfl, rfl⟩))
    (fun os started H enc _ => lifted os started H enc)

theorem proved : Rows.VecGreatestSaid := over
end Go.Proofs.Ytgedmelohiajjaa.vecGreatest
