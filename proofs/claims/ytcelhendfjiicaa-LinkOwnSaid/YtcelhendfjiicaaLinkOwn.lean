/- What was sent may be written over; a link that nobody made does nothing. -/
import Derived.Test.YtcelhendfjiicaaRows
import Derived.WalkKit
import Derived.ProofKit
import Derived.OpenShut
import Derived.ShutString
import Derived.ChangeOld
import Derived.Below
import Derived.Test.YtcelhendfjiicaaOpn
import Derived.SizedLaws
import Derived.Test.YtcelhendfjiicaaLnD
namespace Go.Proofs.Ytcelhendfjiicaa.linkOwn
open Go.ChangeShapes Go.WideShapes Go.ChangeAt Go.RowKit
open Go.ChangeMaps (open_string shut_string)
set_option linter.unusedVariables false
set_option linter.unusedSimpArgs false
open Go.Proofs.YtcelhendfjiicaaW.PrintWords Go.Proofs.YtcelhendfjiicaaW.PrintLast Go.Proofs.YtcelhendfjiicaaW.PrintMore

theorem own : ownKnob Try.prog.godebug = none := by kernel_rfl
theorem laidOut : laidOutB Try.prog = true := by kernel_rfl

set_option maxRecDepth 100000
attribute [local go_sem] gb_max2 gb_min2 gb_max_two gb_min_two gb_max_three gb_min_three
set_option maxHeartbeats 4000000 in
theorem walk (cs0 : Array Value) (x0 : StepV) (w : World) (k0 : KStep.K w x0 cs0.toList) (gd0 : (StepG) x0) :
    Calls Try.prog 8 #[.agg cs0] w fun e w' => e = .returned (.bool true) ∧ Below w.heap.size w w' := by
  obtain ⟨A, ca, rfl, hca, hx⟩ := step_cells k0
  have hlen := gd0.len
  obtain ⟨kd, bs, si, sat, sm⟩ := x0
  dsimp only at hca hx hlen ⊢
  have HX := Lib.hid (fun (W' : World) (hb : Below w.heap.size w W') => Kd.C_below hx hb)
  obtain ⟨n, hn⟩ : ∃ n, bs.length = n := ⟨_, rfl⟩
  rw [hn] at hca hlen ⊢
  have HN := Lib.hid hn
  obtain ⟨W0, hW0⟩ : ∃ W0, w.alloc (.cells #[.int .u8 kd, .slice A n ca, .int .i64 si, .int .i64 sat, .int .u32 sm] 54) = W0 := ⟨_, rfl⟩
  obtain ⟨g, hg⟩ : ∃ g, w.heap.size = g := ⟨_, rfl⟩
  have hbx := heap_alloc_new w (.cells #[.int .u8 kd, .slice A n ca, .int .i64 si, .int .i64 sat, .int .u32 sm] 54)
  rw [hW0, hg] at hbx
  have HB0 := Lib.hid (show Below w.heap.size w W0 by rw [← hW0]; exact below_alloc (Below.refl _ w) _)
  have HZ := Lib.hid (fun (W' : World) (hb : Below W0.heap.size W0 W') => blk_below hbx hb)
  have HSZ0 := Lib.hid (show W0.heap.size = g + 1 by rw [← hW0, ← hg]; simp)
  have hf0 := heap_alloc_new W0 (.cells #[.int .u8 kd, .slice A n ca, .int .i64 si, .int .i64 sat, .int .u32 sm] 54)
  have hbf := below_alloc (Below.refl W0.heap.size W0) (.cells #[.int .u8 kd, .slice A n ca, .int .i64 si, .int .i64 sat, .int .u32 sm] 54)
  rw [HSZ0.out] at hf0
  have HFAR := Lib.hid (far21_any (some ⟨g + 1, 0, none⟩) [(kd, bs, si, sat, sm)] 1 _ (steps1 (fr := (0, 0)) (x := (kd, bs, si, sat, sm)) (by dsimp only; rw [hn]; exact hf0) (by dsimp only; rw [hn]; exact hca) (Kd.C_below (Kd.C_below hx HB0.out) hbf)) (by simp))
  have HBF := Lib.hid hbf
  have HW0 := Lib.hid hW0
  have HG := Lib.hid hg
  obtain ⟨fb, hfb⟩ : ∃ b, decide (10000 < farS (List.take 200 [(kd, bs, si, sat, sm)])) = b := ⟨_, rfl⟩
  rw [hfb] at HFAR
  have hz := blk_cell hbx
  have z0 := hz 0
  have z1 := hz 1
  have z2 := hz 2
  have z3 := hz 3
  have z4 := hz 4
  clear k0 gd0 hx hn hW0 hg hbx hf0 hbf hfb hz
  go_enter Try.func8, Try.ntmps8
  go_wp2_with fail
  rw [HW0.out]
  try rw [HG.out]
  refine HFAR.out.mono ?_
  rintro e W1 ⟨rfl, hb⟩
  have HB1 := Lib.hid (below_then HBF.out HBF.out.size hb)
  have HBW1 := Lib.hid (below_then HB0.out HB0.out.size HB1.out)
  clear hb z0 z1 z2 z3 z4 HFAR
  cases fb with
  | true =>
    go_wp2_with fail
    refine (alive21_any _).mono ?_
    rintro e W2 ⟨rfl, hb⟩
    have HB2 := Lib.hid (below_then HBW1.out HBW1.out.size hb)
    clear hb
    go_wp2_with fail
    go_ret
    exact ⟨rfl, HB2.out⟩
  | false =>
    obtain ⟨h1, hh1⟩ : ∃ h, W1.heap.size = h := ⟨_, rfl⟩
    obtain ⟨V, hV⟩ : ∃ V, (W1.alloc (.cells #[.int .i64 0, .slice none 0 0, .int .u32 0, .int .u32 0, .int .u32 0, .int .u32 0, .int .u32 0, .int .u32 0, .int .u32 0, .int .u32 0] 83)).alloc (.cells #[.pointer none, .pointer (some ⟨h1, 0, none⟩)] 23) = V := ⟨_, rfl⟩
    have hk0 := blk_alloc (heap_alloc_new W1 (.cells #[.int .i64 0, .slice none 0 0, .int .u32 0, .int .u32 0, .int .u32 0, .int .u32 0, .int .u32 0, .int .u32 0, .int .u32 0, .int .u32 0] 83)) (.cells #[.pointer none, .pointer (some ⟨h1, 0, none⟩)] 23)
    have hk1 := heap_alloc2_new W1 (.cells #[.int .i64 0, .slice none 0 0, .int .u32 0, .int .u32 0, .int .u32 0, .int .u32 0, .int .u32 0, .int .u32 0, .int .u32 0, .int .u32 0] 83) (.cells #[.pointer none, .pointer (some ⟨h1, 0, none⟩)] 23)
    rw [hV, hh1] at hk0 hk1
    have hbv : Below W1.heap.size W1 V := by rw [← hV]; exact below_alloc (below_alloc (Below.refl _ _) _) _
    have HV := Lib.hid hV
    have HH1 := Lib.hid hh1
    have HBV := Lib.hid (below_then HB1.out HB1.out.size hbv)
    have HNO := Lib.hid (fun (W' : World) (hb : Below V.heap.size V W') (i : Nat) (hi : i < 2) => show ∃ v, NoLk W' v ∧ W'.cell? ⟨h1 + 1, i, none⟩ = some v from by
      match i, hi with
      | 0, _ => exact ⟨.pointer none, .inl rfl, pw_cell_below hb (blk_cell hk1 0)⟩
      | 1, _ => exact ⟨.pointer (some ⟨h1, 0, none⟩), .inr ⟨h1, rfl, pw_cell_below hb (blk_cell hk0 0)⟩, pw_cell_below hb (blk_cell hk1 1)⟩)
    clear hV hh1 hk0 hk1 hbv
    go_wp2_with fail
    rw [HH1.out, HV.out]
    go_loopw [24] (fun iv wr => ∃ i : Nat, iv = .int .i64 i ∧ i ≤ 2 ∧ Hid (Below V.heap.size V wr)) (fun iv _ => 2 - (intOf iv).toNat)
    case atStart => exact ⟨0, rfl, by omega, Lib.hid (Below.refl _ _)⟩
    case round =>
      obtain ⟨i, rfl, hi, HB⟩ := hrel
      have hz := HZ.out wr (below_then HBV.out HBV.out.size HB.out)
      have z1 := blk_cell hz 1
      have z2 := blk_cell hz 2
      have z3 := blk_cell hz 3
      have z4 := blk_cell hz 4
      clear hz
      by_cases hi2 : i < 2
      · obtain ⟨v, hno, hv⟩ := HNO.out wr HB.out i hi2
        have HN1 := Lib.hid hno
        clear hno
        go_wp2_with fail
        refine (deliver_no wr v HN1.out si).mono ?_
        rintro e w' ⟨rfl, rfl⟩
        go_wp2_with fail
        refine (send_no wr v HN1.out A n ca).mono ?_
        rintro e w' ⟨rfl, rfl⟩
        go_wp2_with fail
        refine (drop_no wr v HN1.out si).mono ?_
        rintro e w' ⟨rfl, rfl⟩
        go_wp2_with fail
        refine (twice_no wr v HN1.out si).mono ?_
        rintro e w' ⟨rfl, rfl⟩
        go_wp2_with fail
        refine (later_no wr v HN1.out si).mono ?_
        rintro e w' ⟨rfl, rfl⟩
        go_wp2_with fail
        refine (turn_no wr v HN1.out si sat sm).mono ?_
        rintro e w' ⟨rfl, rfl⟩
        go_wp2_with fail
        refine (len_no wr v HN1.out).mono ?_
        rintro e w' ⟨rfl, rfl⟩
        go_wp2_with fail
        refine (clear_no wr v HN1.out).mono ?_
        rintro e w' ⟨rfl, rfl⟩
        go_wp2_with fail
        refine (counts_no wr v HN1.out).mono ?_
        rintro e w' ⟨rfl, hb⟩
        have HB' := Lib.hid (below_then HB.out HB.out.size hb)
        clear hb
        go_wp2_with fail
        go_roundw
        case rel => exact ⟨i + 1, by go_num, by omega, HB'⟩
        case measure => simp [intOf]; omega
      · obtain ⟨wo, hwo⟩ : ∃ x : World, x = wr := ⟨_, rfl⟩
        subst hwo
        have HBW := Lib.hid (below_then HBV.out HBV.out.size HB.out)
        go_wp2_with fail
        refine (lnnew_any 4 _ (by omega) (by omega)).mono ?_
        unfold LnNew
        rintro e w1 ⟨p, rfl, hL, hb⟩
        have HL := Lib.hid hL
        have HB1' := Lib.hid (below_then HBW.out HBW.out.size hb)
        have HBN := Lib.hid hb
        have HP := Lib.hid hL.at_.1
        have z1 := pw_cell_below hb z1
        clear hL hb
        have HX1 := Lib.hid (HX.out w1 (below_then HB0.out HB0.out.size HB1'.out))
        rw [HN.out] at HX1
        go_wp2_with (at_builtin; refine Kd.R_append_row (w0 := w1) (Value.int .u8) 0 (h1 := fun _ => rfl) w1.heap.size rfl _ _ 28 5 (.int .u8 0) 1 rfl Try.underlying28 infoByte rfl (by decide) (.slice none 0 0) [] bs A n ca (fun _ => True) (by rfl) (by rfl) (fun _ _ => trivial) (Kd.R_nil _ _ _ _ _) HX1.out (Below.refl _ _) (Nat.le_refl _) (by simp; omega) ?_; intro v2 w2 hr hb hg hat; obtain ⟨A2, c2, hv2, hc2, -⟩ := (show Tx8 w2 w1.heap.size v2 bs from hr).reads; rw [HN.out] at hv2 hc2; subst hv2; have HR2 := Lib.hid (show Tx8 w2 w1.heap.size (.slice A2 n c2) bs from hr); have HB2 := Lib.hid hb; clear hr hb hg hat)
        have HL2 := Lib.hid (HL.out.below HB2.out)
        have HBW2 := Lib.hid (below_then HB1'.out HB1'.out.size HB2.out)
        have HSND := Lib.hid (lnsend_ok w2 wo.heap.size p none 4 [] 0 0 0 0 HL2.out (by omega) (by simp) (by simp) (by omega) (by omega) (by omega) (by omega) A2 c2 bs (fun W' hk => by have h := (HR2.out.kb HP.out hk).C; rw [h.1]; exact h.2.2) (by rw [HN.out]; exact hc2) (by rw [HN.out]; exact hlen))
        rw [HN.out] at HSND
        refine HSND.out.mono ?_
        rintro e w3 ⟨x, hT, rfl, g3, hgn, hL, hg⟩
        obtain ⟨Ax, cx, hxv, hcx, -⟩ := hT.reads
        rw [HN.out] at hxv hcx
        subst hxv
        have HX3 := Lib.hid hT
        have HM3 := Lib.hid (HR2.out.keep HL2.out hg)
        have HL3 := Lib.hid (show Ln w3 wo.heap.size p g3 4 [.slice Ax n cx] (up 0 1) 0 0 0 from hL)
        have HB3 := Lib.hid (hg.below HL2.out.1 (fun k hk => (HL2.out.gb k hk).1) (Nat.le_trans HL2.out.1 (Nat.le_of_lt HL2.out.at_.1)))
        have HS3 := Lib.hid hg.size
        clear hT hL hg HSND hgn
        go_wp2_with fail
        refine (lntwice_ok w3 wo.heap.size p g3 4 [.slice Ax n cx] (up 0 1) 0 0 0 HL3.out (by omega) (by simp) 0 (by simp) (by simp) bs (HX3.out.lower (Nat.le_trans HL2.out.1 (Nat.le_of_lt HL2.out.at_.1))) (by rw [HN.out]; exact hlen)).mono ?_
        rintro e w4 ⟨y, hT, rfl, g4, hgn, hL, hg⟩
        obtain ⟨Ay, cy, hyv, hcy, -⟩ := hT.reads
        rw [HN.out] at hyv hcy
        subst hyv
        have HY4 := Lib.hid hT
        have HM4 := Lib.hid (HM3.out.keep HL3.out hg)
        have HX4 := Lib.hid (HX3.out.keep HL3.out hg)
        have HL4 := Lib.hid (show Ln w4 wo.heap.size p g4 4 [.slice Ax n cx, .slice Ay n cy] (up 0 1) 0 0 0 from hL)
        have HB4 := Lib.hid (HB3.out.trans (hg.below HL3.out.1 (fun k hk => (HL3.out.gb k hk).1) (Nat.le_trans HL3.out.1 (Nat.le_of_lt HL3.out.at_.1))))
        have HS4 := Lib.hid hg.size
        clear hT hL hg hgn
        have HBW4 := Lib.hid (show Below W0.heap.size W0 w4 from HBW2.out.trans (HB4.out.mono HBW.out.size))
        have hw1 : W0.heap.size ≤ w1.heap.size := HB1'.out.size
        have hw2 : w1.heap.size ≤ w2.heap.size := HB2.out.size
        have hw3 : w2.heap.size ≤ w3.heap.size := HS3.out
        go_wp2_with fail
        go_loopw [118] (fun iv wx => ∃ (j : Nat) (ys : List Int), iv = .int .i64 j ∧ j ≤ n ∧ Hid (Tx8 wx w1.heap.size (.slice A2 n c2) ys) ∧ Hid (Tx8 wx w2.heap.size (.slice Ax n cx) bs) ∧ Hid (Tx8 wx w3.heap.size (.slice Ay n cy) bs) ∧ Hid (Ln wx wo.heap.size p g4 4 [.slice Ax n cx, .slice Ay n cy] (up 0 1) 0 0 0) ∧ Hid (Below W0.heap.size W0 wx)) (fun iv _ => n - (intOf iv).toNat)
        case atStart => exact ⟨0, bs, rfl, by omega, HM4, HX4, HY4, HL4, HBW4⟩
        case round =>
          obtain ⟨j, ys, rfl, hj, HMj, HXj, HYj, HLj, HBj⟩ := hrel
          by_cases hjn : j < n
          · obtain ⟨b, cells, rfl, hb1, hb2, hbb⟩ := HMj.out.form (by omega)
            obtain ⟨b2, -, e2, -, hlt, -⟩ := HR2.out.form (by omega)
            obtain rfl : b = b2 := by injection e2 with e2; injection e2
            obtain ⟨q1, f1⟩ := HMj.out.cell j hjn
            have HBB := Lib.hid hbb
            clear hbb e2
            go_wp2_with fail
            go_roundw
            case rel => exact ⟨j + 1, _, by go_num, by omega, Lib.hid (HMj.out.store j _), Lib.hid (HXj.out.far hlt j _), Lib.hid (HYj.out.far (by omega) j _), Lib.hid (HLj.out.u8set HBB.out j _), Lib.hid (HBj.out.setCell (p := ⟨b, j, none⟩) (by simp; omega) _)⟩
            case measure => simp [intOf]; omega
          · obtain ⟨wp, hwp⟩ : ∃ x : World, x = wr := ⟨_, rfl⟩
            subst hwp
            have HD := Lib.hid (lndeliver_in wp wo.heap.size p g4 4 [.slice Ax n cx, .slice Ay n cy] (up 0 1) 0 0 0 HLj.out (by omega) 0 (by simp) (by simp) (by omega) (by omega))
            unfold DelV at HD
            rw [show ([.slice Ax n cx, .slice Ay n cy] : List Value).getD 0 undef = .slice Ax n cx from rfl, show eraseV [.slice Ax n cx, .slice Ay n cy] 0 = [.slice Ay n cy] from rfl] at HD
            go_wp2_with fail
            refine HD.out.mono ?_
            rintro e w6 ⟨rfl, hL, hg⟩
            have HX6 := Lib.hid (HXj.out.keep HLj.out hg)
            have HY6 := Lib.hid (HYj.out.keep HLj.out hg)
            have HL6 := Lib.hid hL
            have HBW6 := Lib.hid (HBj.out.trans ((hg.below HLj.out.1 (fun k hk => (HLj.out.gb k hk).1) (Nat.le_trans HLj.out.1 (Nat.le_of_lt HLj.out.at_.1))).mono HBW.out.size))
            clear hL hg HD
            go_wp2_with fail
            go_loopw [135] (fun iv wy => ∃ (k : Nat) (ys : List Int), iv = .int .i64 k ∧ k ≤ n ∧ Hid (Tx8 wy w2.heap.size (.slice Ax n cx) ys) ∧ Hid (Tx8 wy w3.heap.size (.slice Ay n cy) bs) ∧ Hid (Ln wy wo.heap.size p g4 4 [.slice Ay n cy] (up 0 1) (up 0 1) 0 0) ∧ Hid (Below W0.heap.size W0 wy)) (fun iv _ => n - (intOf iv).toNat)
            case atStart => exact ⟨0, bs, rfl, by omega, HX6, HY6, HL6, HBW6⟩
            case round =>
              obtain ⟨k, ys, rfl, hk, HXk, HYk, HLk, HBk⟩ := hrel
              by_cases hkn : k < n
              · obtain ⟨b, cells, rfl, hb1, hb2, hbb⟩ := HXk.out.form (by omega)
                obtain ⟨b2, -, e2, -, hlt, -⟩ := HX3.out.form (by omega)
                obtain rfl : b = b2 := by injection e2 with e2; injection e2
                obtain ⟨q1, f1⟩ := HXk.out.cell k hkn
                have HBB := Lib.hid hbb
                clear hbb e2
                go_wp2_with fail
                go_roundw
                case rel => exact ⟨k + 1, _, by go_num, by omega, Lib.hid (HXk.out.store k _), Lib.hid (HYk.out.far hlt k _), Lib.hid (HLk.out.u8set HBB.out k _), Lib.hid (HBk.out.setCell (p := ⟨b, k, none⟩) (by simp; omega) _)⟩
                case measure => simp [intOf]; omega
              · obtain ⟨wq, hwq⟩ : ∃ x : World, x = wr := ⟨_, rfl⟩
                subst hwq
                have HD := Lib.hid (lndeliver_in wq wo.heap.size p g4 4 [.slice Ay n cy] (up 0 1) (up 0 1) 0 0 HLk.out (by omega) 0 (by simp) (by simp) (by unfold up; omega) (by unfold up; omega))
                unfold DelV at HD
                rw [show ([.slice Ay n cy] : List Value).getD 0 undef = .slice Ay n cy from rfl] at HD
                go_wp2_with fail
                refine HD.out.mono ?_
                rintro e w8 ⟨rfl, hL, hg⟩
                have HY8 := Lib.hid (HYk.out.keep HLk.out hg)
                have HB8 := Lib.hid (HBk.out.trans ((hg.below HLk.out.1 (fun k hk => (HLk.out.gb k hk).1) (Nat.le_trans HLk.out.1 (Nat.le_of_lt HLk.out.at_.1))).mono HBW.out.size))
                obtain ⟨S, hS⟩ : ∃ S, strOfNums bs = S := ⟨_, rfl⟩
                have ks1 := Kd.C_string (P := Try.prog) (c := cy) Try.underlying28 Try.underlying5 Try.underlying9 HY8.out.C.2.2
                have hxo := HX.out w8 (below_then HB0.out HB0.out.size HB8.out)
                rw [HN.out] at hxo
                have ks2 := Kd.C_string (P := Try.prog) (c := ca) Try.underlying28 Try.underlying5 Try.underlying9 hxo
                rw [hS] at ks1 ks2
                have z1 := blk_cell (HZ.out w8 HB8.out) 1
                clear hL hg HD hS hxo
                go_wp2_with fail
                refine (alive21_any _).mono ?_
                rintro e w9 ⟨rfl, hb⟩
                have HB9 := Lib.hid (below_then HB8.out HB8.out.size hb)
                clear hb
                go_wp2_with fail
                go_ret
                exact ⟨rfl, below_then HB0.out HB0.out.size HB9.out⟩

set_option maxRecDepth 100000 in
theorem lifted (os : Os) (started : os.Started) (H : Type) (enc : TypeId × Value → H) :
    ReturnsInHanded {} Try.checked os 8 .any (Rows.linkOwnSpec.pre6 enc Try.prog Try.f8 Rows.linkOwnRow.domain false) (Rows.linkOwnSpec.post enc Try.prog Try.f8 false true false false) := by
  refine returnsInHanded_of_change_sized (C := Try.checked) own started (by kernel_rfl) Try.func8
    (ChangeSpec.witness6 (enc := enc) (C := Try.checked) false ⟨#[], #[.agg #[.int .u8 0, .slice none 0 0, .int .i64 0, .int .i64 0, .int .u32 0]], []⟩ 8 (by kernel_rfl) (by kernel_rfl) (by kernel_rfl) (by kernel_rfl)) ?_
  intro W base args ds gs before hval0 hW hcnd hsz0 _
  have hval : ∀ (j : Nat) t v, Try.f8.params[j]? = some t → args[j]? = some v → Value.okWide Try.prog W .any base t v := hval0
  have hW' := hW
  obtain ⟨p, q, hA0, hV, rfl, hfz, hnd⟩ := hW
  have hA : DataW.TrodAll enc Try.prog W 0 (fun _ => true) true Try.f8.params.toList args.toList ds p := hA0
  rw [Try.params8] at hA hval
  have hsz : (DataW.weightsEach Try.prog (Try.f8.params.toList ++ Rows.linkOwnSpec.plain.varTypes Try.prog) (ds ++ gs)).all (· ≤ reachBytes) = true := hsz0
  rw [Try.params8] at hsz
  obtain ⟨v0, vs0, d0, ds0, p0, q0, hargs, rfl, rfl, h0, r0⟩ := trodAll_cons hA
  obtain ⟨rfl, rfl, rfl⟩ := trodAll_nil r0
  obtain rfl : args = #[v0] := by cases args; simp_all
  obtain ⟨rfl, rfl⟩ := trodVars_none hV
  have k0 := h0
  have lt0 : ∀ x ∈ p0, x.block < W.heap.size := by obtain ⟨m, hm⟩ := k0; exact DataW.trod_lt m _ _ _ hm
  obtain ⟨cs0, rfl, _⟩ := okWide_struct Try.underlying54 (hval 0 54 v0 rfl rfl)
  obtain ⟨x0, y0, g0⟩ : ∃ x, KStep.K W x cs0.toList ∧ (StepG) x := by obtain ⟨m, hm⟩ := k0; exact op_step _ _ _ m _ _ hm (fun q hq => by have := List.all_eq_true.1 hsz q (DataW.weights_mem_each (j := 0) (t := 54) (d := d0) rfl rfl q hq); simpa using this)
  clear hA0 hval0
  refine (walk cs0 x0 W y0 g0).mono fun e W' ⟨he, bel⟩ => ?_
  subst he
  exact ⟨_, rfl, _, _, _, [], _, [], hW', trodAll_mk1 (shut_bool Try.underlying4 _), (trodAll_cons_mk (Below.trod laidOut (by kernel_rfl) (of_decide_eq_true (by kernel_rfl)) k0 bel lt0) trodAll_mk0), rfl, bel.frame _, fun h => by cases h⟩

theorem over : Rows.linkOwnRow.holds Try.pinned (OpenSpec.ofChange Rows.linkOwnSpec) :=
  OpenClaim.holds_of_wide 8 Try.f8 rfl rfl rfl rfl rfl rfl rfl ⟨rfl, rfl, rfl, rfl, rfl⟩ rfl rfl rfl rfl rfl (by kernel_rfl) Try.func8 (by kernel_rfl)
    (of_decide_eq_true (by kernel_rfl)) (by unfold Func.isWrapper; first | (rw [if_pos (by decide +kernel)]; kernel_rfl) | (rw [if_neg (by decide +kernel)]; exact ⟨rfl, rfl⟩))
    (fun os started H enc _ => lifted os started H enc)

theorem proved : Rows.LinkOwnSaid := over
end Go.Proofs.Ytcelhendfjiicaa.linkOwn
