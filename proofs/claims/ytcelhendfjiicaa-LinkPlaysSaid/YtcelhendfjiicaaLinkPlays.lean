/- The link plays what the document's link plays. -/
import Derived.Test.YtcelhendfjiicaaRows
import Derived.WalkKit
import Derived.ProofKit
import Derived.OpenShut
import Derived.ShutString
import Derived.ChangeOld
import Derived.Below
import Derived.Test.YtcelhendfjiicaaOpn
import Derived.SizedLaws
import Derived.Test.YtcelhendfjiicaaLnU
import Derived.Deep.LoopGhost
import Derived.Deep.DeepCutAuto
import Derived.Deep.CutBlock
import Derived.Deep.RegionHeld3
import Derived.Test.YtcelhendfjiicaaMpU
namespace Go.Proofs.Ytcelhendfjiicaa.linkPlays
open Go.ChangeShapes Go.WideShapes Go.ChangeAt Go.RowKit
open Go.ChangeMaps (open_string shut_string)
set_option linter.unusedVariables false
set_option linter.unusedSimpArgs false
open Go.Proofs.YtcelhendfjiicaaW.PrintWords Go.Proofs.YtcelhendfjiicaaW.PrintLast Go.Proofs.YtcelhendfjiicaaW.PrintMore

theorem own : ownKnob Try.prog.godebug = none := by kernel_rfl
theorem laidOut : laidOutB Try.prog = true := by kernel_rfl

set_option maxRecDepth 100000
attribute [local go_sem] gb_max2 gb_min2 gb_max_two gb_min_two gb_max_three gb_min_three
theorem slice_came {α : Type} {e : Nat} {d : Kd α} {w : World} {a : Option Addr} {len cap : Nat} {xs : List α} (h : (Kd.slice e d).K w xs [.slice a len cap]) : len = xs.length ∧ xs.length ≤ cap ∧ d.C w a xs.length xs := by
  obtain ⟨A, c, he, hl, hC⟩ := h
  simp only [List.cons.injEq, Value.slice.injEq, and_true] at he
  obtain ⟨rfl, rfl, rfl⟩ := he
  exact ⟨rfl, hl, hC⟩
set_option maxHeartbeats 4000000 in
theorem walk (a0 : Int) (a1 : Option Addr) (len1 cap1 : Nat) (x1 : List StepV) (w : World) (gd0 : (Lit.int .i64 a0).wf = true) (k1 : (Kd.slice 54 KStep).K w x1 [.slice a1 len1 cap1]) (gd1 : (fun xs => (∀ x ∈ xs, StepG x) ∧ xs.length ≤ maxLen ∧ xs.length * Try.prog.bytesOf 54 ≤ reachBytes) x1) :
    Calls Try.prog 7 #[.int .i64 a0, .slice a1 len1 cap1] w fun e w' => e = .returned (.bool true) ∧ Below w.heap.size w w' := by
  obtain ⟨rfl, hcx, hx⟩ := slice_came k1
  obtain ⟨hgd, hml, -⟩ := gd1
  have HX := Lib.hid (fun (W' : World) (hb : Below w.heap.size w W') => Kd.C_below hx hb)
  have HGD := Lib.hid hgd
  have HFAR := Lib.hid (fun (W' : World) (hb : Below w.heap.size w W') => far21_any a1 x1 cap1 W' (Kd.C_below hx hb) hcx)
  have HSHO := Lib.hid (fun (W' : World) => short21_any a1 x1.length cap1 hcx W')
  obtain ⟨N, hN⟩ : ∃ N, x1.length = N := ⟨_, rfl⟩
  rw [hN] at hcx HFAR HSHO ⊢
  have HN := Lib.hid hN
  obtain ⟨fb, hfb⟩ : ∃ b, decide (10000 < farS (x1.take 200)) = b := ⟨_, rfl⟩
  rw [hfb] at HFAR
  obtain ⟨M, hM⟩ : ∃ M, min N 200 = M := ⟨_, rfl⟩
  rw [hM] at HSHO
  have hMN : M ≤ N := by omega
  have hM2 : M ≤ 200 := by omega
  clear k1 hgd hx hN hfb hM hml
  go_enter Try.func7, Try.ntmps7
  by_cases hr : a0 < 1 ∨ 256 < a0
  · have HR := Lib.hid hr
    clear hr
    go_wp2_with fail
    refine (lnnew_no a0 _ HR.out).mono ?_
    rintro e w' ⟨rfl, rfl⟩
    go_wp2_with fail
    refine (rnew_bad a0 HR.out _).mono ?_
    rintro e w2 ⟨rfl, hb⟩
    have HB := Lib.hid hb
    clear hb
    go_wp2_with fail
    refine (alive21_any _).mono ?_
    rintro e w3 ⟨rfl, hb⟩
    have HB3 := Lib.hid (below_then (below_alloc HB.out (.cells #[.int .i64 0, .slice none 0 0, .int .u32 0, .int .u32 0, .int .u32 0, .int .u32 0] 67)) (Nat.le_trans HB.out.size (below_alloc (Below.refl _ _) _).size) hb)
    clear hb
    go_wp2_with fail
    go_ret
    exact ⟨rfl, HB3.out⟩
  · obtain ⟨h1, h2⟩ : 1 ≤ a0 ∧ a0 ≤ 256 := by omega
    clear hr
    go_wp2_with fail
    refine (lnnew_any a0 _ h1 h2).mono ?_
    unfold LnNew
    rintro e w1 ⟨p, rfl, hL, hb⟩
    have HL := Lib.hid hL
    have HB := Lib.hid hb
    clear hL hb
    go_wp2_with fail
    refine (rnew_ok a0 h1 h2 _).mono ?_
    rintro e w2 ⟨rfl, hb⟩
    have HB2 := Lib.hid (below_then HB.out HB.out.size hb)
    have HL2 := Lib.hid (HL.out.below hb)
    clear hb
    go_wp2_with fail
    have HI3 := Lib.hid (PlI.made HL2.out HB2.out.size (by omega))
    have HB3 := Lib.hid (below_alloc HB2.out (.cells #[.int .i64 a0, .slice none 0 0, .int .u32 0, .int .u32 0, .int .u32 0, .int .u32 0] 67))
    obtain ⟨q, hq⟩ : ∃ q, w2.heap.size = q := ⟨_, rfl⟩
    obtain ⟨w3, hw3⟩ : ∃ w3, w2.alloc (.cells #[.int .i64 a0, .slice none 0 0, .int .u32 0, .int .u32 0, .int .u32 0, .int .u32 0] 67) = w3 := ⟨_, rfl⟩
    rw [hq, hw3] at HI3
    rw [hw3] at HB3 ⊢
    try rw [hq]
    clear hq hw3
    refine (HFAR.out w3 HB3.out).mono ?_
    rintro e w4 ⟨rfl, hb⟩
    have HB4 := Lib.hid (below_then HB3.out HB3.out.size hb)
    have HI4 := Lib.hid (HI3.out.below hb)
    clear hb
    cases fb with
    | true =>
      go_wp2_with fail
      refine (alive21_any _).mono ?_
      rintro e w5 ⟨rfl, hb⟩
      have HB5 := Lib.hid (below_then HB4.out HB4.out.size hb)
      clear hb
      go_wp2_with fail
      go_ret
      exact ⟨rfl, HB5.out⟩
    | false =>
      go_wp2_with fail
      refine (HSHO.out w4).mono ?_
      rintro e w' ⟨rfl, rfl⟩
      go_wp2_with fail
      clear HI3 HB3 HL2 HB2 HL HB
      go_loopg [58] M (fun k iv wr => ∃ (i : Nat), iv = .int .i64 i ∧ i + k = M ∧ Hid (Rd w i p q a0 wr))
      case atStart => exact ⟨0, rfl, by omega, Lib.hid ⟨none, [], [], 0, 0, 0, 0, by unfold Cn; omega, HI4.out, HB4.out⟩⟩
      case round =>
        obtain ⟨i, rfl, hi, HR⟩ := hrel
        obtain ⟨g, vs, ts, s, c, d, t, hcn, hir, hbr⟩ := HR.out
        have HIr := Lib.hid hir
        have HBr := Lib.hid hbr
        have HCN := Lib.hid hcn
        clear hir hbr hcn HR
        by_cases hiM : i < M
        · obtain ⟨ad, x, A, ca, e1, -, hxm, hca, hCw, q0, q1, q2, q3, q4⟩ := steps_at (HX.out w (Below.refl _ _)) i (by rw [HN.out]; omega)
          subst e1
          have hg := HGD.out x hxm
          have hlen := hg.len
          have hk : 0 ≤ x.1 := by
            have h := hg.1
            change (decide ((0 : Int) ≤ x.1) && decide (x.1 ≤ (255 : Int))) = true at h
            simp at h; omega
          have q0 := pw_cell_below HBr.out q0
          have q1 := pw_cell_below HBr.out q1
          have q2 := pw_cell_below HBr.out q2
          have q3 := pw_cell_below HBr.out q3
          have q4 := pw_cell_below HBr.out q4
          obtain ⟨kd, bs, si, sat, sm⟩ := x
          dsimp only at hca hCw q0 q1 q2 q3 q4 hlen hk
          obtain ⟨n, hn⟩ : ∃ n, bs.length = n := ⟨_, rfl⟩
          rw [hn] at hca q1 hlen hCw
          have HNB := Lib.hid hn
          have HC := Lib.hid hCw
          obtain ⟨W0, hW0⟩ : ∃ W0, wr.alloc (.cells #[.int .u8 kd, .slice A n ca, .int .i64 si, .int .i64 sat, .int .u32 sm] 54) = W0 := ⟨_, rfl⟩
          have hb0 : Below wr.heap.size wr W0 := by rw [← hW0]; exact below_alloc (Below.refl _ _) _
          have HI0 := Lib.hid (HIr.out.below hb0)
          have HB0 := Lib.hid (below_then HBr.out HBr.out.size hb0)
          have hbx := heap_alloc_new wr (.cells #[.int .u8 kd, .slice A n ca, .int .i64 si, .int .i64 sat, .int .u32 sm] 54)
          rw [hW0] at hbx
          obtain ⟨b0, hb0'⟩ : ∃ b, wr.heap.size = b := ⟨_, rfl⟩
          rw [hb0'] at hbx
          have HBX := Lib.hid hbx
          have HW0 := Lib.hid hW0
          have HB0' := Lib.hid hb0'
          obtain ⟨K, hK⟩ : ∃ K, kd % 8 = K := ⟨_, rfl⟩
          have hK0 : K = 0 ∨ K = 1 ∨ K = 2 ∨ K = 3 ∨ K = 4 ∨ K = 5 ∨ K = 6 ∨ K = 7 := by omega
          have z0 := blk_cell hbx 0
          have z1 := blk_cell hbx 1
          have z2 := blk_cell hbx 2
          have z3 := blk_cell hbx 3
          have z4 := blk_cell hbx 4
          have HSAT := Lib.hid (show -9223372036854775808 ≤ sat ∧ sat ≤ 9223372036854775807 by
            have h := hg.2.2.2.1
            change (decide (-9223372036854775808 ≤ sat) && decide (sat ≤ (9223372036854775807 : Int))) = true at h
            simpa using h)
          have HBY := Lib.hid (show By8 bs from fun y hy => by
            have h := hg.2.1.1 y hy
            change (decide (0 ≤ y) && decide (y ≤ (255 : Int))) = true at h
            simpa using h)
          clear hn hCw hb0 hbx hg
          have HIM := Lib.hid (show i < M ∧ M ≤ 200 from ⟨hiM, hM2⟩)
          have HLE := Lib.hid HI0.out.le
          obtain ⟨L, hL⟩ : ∃ L, vs.length = L := ⟨_, rfl⟩
          have HL := Lib.hid hL
          rw [hL] at HLE
          clear hL
          go_upto_block 2 with fail
          clear hW0 hb0'
          go_cut [11, 64] (fun s11 s64 wx => s11 = .bool true ∧ Hid (Rd w (i + 1) p q a0 wx))
          case first =>
            have HID := Lib.hid (HI0.out.below (below_drew (Below.refl _ _)))
            have HBD := Lib.hid (below_drew HB0.out)
            have HBXD := Lib.hid (blk_below HBX.out (below_drew (Below.refl _ _)))
            have HTL := Lib.hid (show ts.length = L from by rw [← HI0.out.tt.1]; exact HL.out)
            have HLT := Lib.hid (HCN.out.lt (by have := HIM.out; omega))
            have HI2 := Lib.hid (show i ≤ 200 by have := HIM.out; omega)
            clear hiM hi
            rcases hK0 with rfl | rfl | rfl | rfl | rfl | rfl | rfl | rfl
            · as_aux_lemma =>
              by_cases hf : (L : Int) = a0
              · have HFU := Lib.hid hf
                clear hf
                have HSL := Lib.hid (lnsend_full W0.drew w.heap.size p g a0 vs s c d t HID.out.lk (by omega) (by rw [HL.out]; exact HFU.out) (by rw [HL.out]; have := HLE.out; omega) HLT.out.1.1 HLT.out.1.2 HLT.out.2.2.1.1 (by have := HLT.out; omega) A ca bs (fun W' hk => by rw [HNB.out]; exact C_kb HC.out HBD.out HID.out.lk.1 hk) (by rw [HNB.out]; exact hca) (by rw [HNB.out]; exact hlen))
                rw [HNB.out] at HSL
                have HS0 := Lib.hid (show W0.drew.cell? ⟨b0, 1, none⟩ = some (.slice A n ca) from blk_cell (HBXD.out) 1)
                clear z0 z1 z2 z3 z4
                go_wp2_with fail
                go_region_held3 (fun w' => w'.cell? ⟨b0, 1, none⟩ = some (.slice A n ca))
                  (first | exact HS0.out | exact HS1.out | exact HS2.out)
                  (first
                    | (go_at_call 12; refine (HSL.out).mono ?_; rintro e W1 ⟨rfl, hL1, hg1⟩; have HM1 := Lib.hid (And.intro hL1 hg1); have HR1 := Lib.hid (HID.out.mid hg1); clear hL1 hg1; have HS1 := Lib.hid (show W1.cell? ⟨b0, 1, none⟩ = some (.slice A n ca) from blk_cell (HID.out.boxL HBXD.out HM1.out.2) 1))
                    | (go_at_call 38; refine (rsend_full _ w.heap.size q a0 ts s c d t HR1.out (by rw [HTL.out]; have := HFU.out; omega) HLT.out.1.1 HLT.out.1.2 HLT.out.2.2.1.1 (by have := HLT.out; omega) A n ca).mono ?_; rintro e W2 ⟨rfl, HR2⟩; have HS2 := Lib.hid (show W2.cell? ⟨b0, 1, none⟩ = some (.slice A n ca) from blk_cell (HR1.out.boxR (HID.out.boxL HBXD.out HM1.out.2) HR2.2.1) 1)))
                all_goals
                  have HF := Lib.hid (Rd.of HID.out HBD.out HM1.out.1 HM1.out.2 (GN.refl _ _) HR2 HID.out.le (HID.out.tt2 HM1.out.2 HR2) (HCN.out.full HI2.out))
                  clear HS0
                  go_wp2_with fail
                  go_meet
                  exact ⟨rfl, HF⟩
              · have HFU := Lib.hid (show (L : Int) < a0 by have := HLE.out; omega)
                clear hf
                have HSL := Lib.hid (lnsend_ok W0.drew w.heap.size p g a0 vs s c d t HID.out.lk (by omega) (by rw [HL.out]; have := HFU.out; omega) (by rw [HL.out]; have := HLE.out; omega) HLT.out.1.1 HLT.out.1.2 HLT.out.2.2.1.1 (by have := HLT.out; omega) A ca bs (fun W' hk => by rw [HNB.out]; exact C_kb HC.out HBD.out HID.out.lk.1 hk) (by rw [HNB.out]; exact hca) (by rw [HNB.out]; exact hlen))
                rw [HNB.out] at HSL
                have HS0 := Lib.hid (show W0.drew.cell? ⟨b0, 1, none⟩ = some (.slice A n ca) from blk_cell (HBXD.out) 1)
                clear z0 z1 z2 z3 z4
                go_wp2_with fail
                go_region_held3 (fun w' => w'.cell? ⟨b0, 1, none⟩ = some (.slice A n ca))
                  (first | exact HS0.out | exact HS1.out | exact HS2.out)
                  (first
                    | (go_at_call 12; refine (HSL.out).mono ?_; rintro e W1 ⟨x1, hx1, rfl, g1, hgn, hL1, hg1⟩; have HM1 := Lib.hid (And.intro hL1 hg1); have HGN := Lib.hid hgn; have HX1 := Lib.hid hx1; have HR1 := Lib.hid (HID.out.mid hg1); have HCX := Lib.hid (Kd.C_below HC.out (HBD.out.trans (HID.out.mout hg1))); clear hL1 hg1 hgn hx1; have HS1 := Lib.hid (show W1.cell? ⟨b0, 1, none⟩ = some (.slice A n ca) from blk_cell (HID.out.boxL HBXD.out HM1.out.2) 1))
                    | (go_at_call 38; refine (rsend_ok _ w.heap.size q a0 ts s c d t HR1.out (by rw [HTL.out]; exact HFU.out) (by rw [HTL.out]; have := HLE.out; omega) HLT.out.1.1 HLT.out.1.2 A n ca bs HNB.out hca hlen HCX.out (fun ad e hn => by have h2 := u8_lt HC.out e hn; have h3 := HID.out.rf.1; omega)).mono ?_; rintro e W2 ⟨rfl, y1, HY1, HR2⟩; have HS2 := Lib.hid (show W2.cell? ⟨b0, 1, none⟩ = some (.slice A n ca) from blk_cell (HR1.out.boxR (HID.out.boxL HBXD.out HM1.out.2) HR2.2.1) 1)))
                all_goals
                  have HF := Lib.hid (Rd.of HID.out HBD.out HM1.out.1 HM1.out.2 HGN.out HR2 (by rw [List.length_append, List.length_singleton, HL.out]; have := HFU.out; omega) ((HID.out.tt2 HM1.out.2 HR2).snoc _ _ ⟨bs, (HX1.out.lower HBD.out.size).keepR HR1.out HR2.2.1, HY1.lower (Nat.le_trans HBD.out.size HM1.out.2.size), HBY.out, by rw [HNB.out]; exact hlen⟩) (HCN.out.sent HI2.out))
                  clear HS0
                  go_wp2_with fail
                  go_meet
                  exact ⟨rfl, HF⟩
            · as_aux_lemma =>
              by_cases hf : (L : Int) = a0
              · have HFU := Lib.hid hf
                clear hf
                have HSL := Lib.hid (lnsend_full W0.drew w.heap.size p g a0 vs s c d t HID.out.lk (by omega) (by rw [HL.out]; exact HFU.out) (by rw [HL.out]; have := HLE.out; omega) HLT.out.1.1 HLT.out.1.2 HLT.out.2.2.1.1 (by have := HLT.out; omega) A ca bs (fun W' hk => by rw [HNB.out]; exact C_kb HC.out HBD.out HID.out.lk.1 hk) (by rw [HNB.out]; exact hca) (by rw [HNB.out]; exact hlen))
                rw [HNB.out] at HSL
                have HS0 := Lib.hid (show W0.drew.cell? ⟨b0, 1, none⟩ = some (.slice A n ca) from blk_cell (HBXD.out) 1)
                clear z0 z1 z2 z3 z4
                go_wp2_with fail
                go_region_held3 (fun w' => w'.cell? ⟨b0, 1, none⟩ = some (.slice A n ca))
                  (first | exact HS0.out | exact HS1.out | exact HS2.out)
                  (first
                    | (go_at_call 12; refine (HSL.out).mono ?_; rintro e W1 ⟨rfl, hL1, hg1⟩; have HM1 := Lib.hid (And.intro hL1 hg1); have HR1 := Lib.hid (HID.out.mid hg1); clear hL1 hg1; have HS1 := Lib.hid (show W1.cell? ⟨b0, 1, none⟩ = some (.slice A n ca) from blk_cell (HID.out.boxL HBXD.out HM1.out.2) 1))
                    | (go_at_call 38; refine (rsend_full _ w.heap.size q a0 ts s c d t HR1.out (by rw [HTL.out]; have := HFU.out; omega) HLT.out.1.1 HLT.out.1.2 HLT.out.2.2.1.1 (by have := HLT.out; omega) A n ca).mono ?_; rintro e W2 ⟨rfl, HR2⟩; have HS2 := Lib.hid (show W2.cell? ⟨b0, 1, none⟩ = some (.slice A n ca) from blk_cell (HR1.out.boxR (HID.out.boxL HBXD.out HM1.out.2) HR2.2.1) 1)))
                all_goals
                  have HF := Lib.hid (Rd.of HID.out HBD.out HM1.out.1 HM1.out.2 (GN.refl _ _) HR2 HID.out.le (HID.out.tt2 HM1.out.2 HR2) (HCN.out.full HI2.out))
                  clear HS0
                  go_wp2_with fail
                  go_meet
                  exact ⟨rfl, HF⟩
              · have HFU := Lib.hid (show (L : Int) < a0 by have := HLE.out; omega)
                clear hf
                have HSL := Lib.hid (lnsend_ok W0.drew w.heap.size p g a0 vs s c d t HID.out.lk (by omega) (by rw [HL.out]; have := HFU.out; omega) (by rw [HL.out]; have := HLE.out; omega) HLT.out.1.1 HLT.out.1.2 HLT.out.2.2.1.1 (by have := HLT.out; omega) A ca bs (fun W' hk => by rw [HNB.out]; exact C_kb HC.out HBD.out HID.out.lk.1 hk) (by rw [HNB.out]; exact hca) (by rw [HNB.out]; exact hlen))
                rw [HNB.out] at HSL
                have HS0 := Lib.hid (show W0.drew.cell? ⟨b0, 1, none⟩ = some (.slice A n ca) from blk_cell (HBXD.out) 1)
                clear z0 z1 z2 z3 z4
                go_wp2_with fail
                go_region_held3 (fun w' => w'.cell? ⟨b0, 1, none⟩ = some (.slice A n ca))
                  (first | exact HS0.out | exact HS1.out | exact HS2.out)
                  (first
                    | (go_at_call 12; refine (HSL.out).mono ?_; rintro e W1 ⟨x1, hx1, rfl, g1, hgn, hL1, hg1⟩; have HM1 := Lib.hid (And.intro hL1 hg1); have HGN := Lib.hid hgn; have HX1 := Lib.hid hx1; have HR1 := Lib.hid (HID.out.mid hg1); have HCX := Lib.hid (Kd.C_below HC.out (HBD.out.trans (HID.out.mout hg1))); clear hL1 hg1 hgn hx1; have HS1 := Lib.hid (show W1.cell? ⟨b0, 1, none⟩ = some (.slice A n ca) from blk_cell (HID.out.boxL HBXD.out HM1.out.2) 1))
                    | (go_at_call 38; refine (rsend_ok _ w.heap.size q a0 ts s c d t HR1.out (by rw [HTL.out]; exact HFU.out) (by rw [HTL.out]; have := HLE.out; omega) HLT.out.1.1 HLT.out.1.2 A n ca bs HNB.out hca hlen HCX.out (fun ad e hn => by have h2 := u8_lt HC.out e hn; have h3 := HID.out.rf.1; omega)).mono ?_; rintro e W2 ⟨rfl, y1, HY1, HR2⟩; have HS2 := Lib.hid (show W2.cell? ⟨b0, 1, none⟩ = some (.slice A n ca) from blk_cell (HR1.out.boxR (HID.out.boxL HBXD.out HM1.out.2) HR2.2.1) 1)))
                all_goals
                  have HF := Lib.hid (Rd.of HID.out HBD.out HM1.out.1 HM1.out.2 HGN.out HR2 (by rw [List.length_append, List.length_singleton, HL.out]; have := HFU.out; omega) ((HID.out.tt2 HM1.out.2 HR2).snoc _ _ ⟨bs, (HX1.out.lower HBD.out.size).keepR HR1.out HR2.2.1, HY1.lower (Nat.le_trans HBD.out.size HM1.out.2.size), HBY.out, by rw [HNB.out]; exact hlen⟩) (HCN.out.sent HI2.out))
                  clear HS0
                  go_wp2_with fail
                  go_meet
                  exact ⟨rfl, HF⟩
            · as_aux_lemma =>
              by_cases hin : 0 ≤ si ∧ si < (L : Int)
              · obtain ⟨k, rfl⟩ := Int.eq_ofNat_of_zero_le hin.1
                have HK := Lib.hid (show k < L by omega)
                clear hin
                obtain ⟨bs0, A1, m1, k1, A2, m2, k2, ev, ex, hbs, em, hm1, hm2, hm9, hby, hT1, hT2, hC1, hC2⟩ := (HI0.out.tt.2 k (by rw [HL.out]; exact HK.out)).parts
                subst em
                have HT1 := Lib.hid hT1
                have HT2 := Lib.hid hT2
                have HDL := Lib.hid (lndeliver_in W0 w.heap.size p g a0 vs s c d t HI0.out.lk (by omega) k (by rw [HL.out]; exact HK.out) (by rw [HL.out]; have := HLE.out; omega) HLT.out.2.1.1 HLT.out.2.1.2)
                unfold DelV at HDL
                rw [ev] at HDL
                have HX2 := Lib.hid ex
                have HV := Lib.hid ev
                clear ev ex hbs hm1 hm2 hm9 hby hT1 hT2 hC1 hC2 z0 z1 z3 z4
                go_wp2_with fail
                refine HDL.out.mono ?_
                rintro e W1 ⟨rfl, hL1, hg1⟩
                have HM1 := Lib.hid (And.intro hL1 hg1)
                have HR1 := Lib.hid (HI0.out.mid hg1)
                have z2 := blk_cell (HI0.out.boxL HBX.out hg1) 2
                clear hL1 hg1
                have HDR := Lib.hid (rdeliver_in W1 w.heap.size q a0 ts s c d t HR1.out (by rw [HTL.out]; have := HLE.out; omega) HLT.out.2.1.1 HLT.out.2.1.2 k (by rw [HTL.out]; exact HK.out))
                rw [HX2.out] at HDR
                unfold encT at HDR
                dsimp only at HDR
                go_wp2_with fail
                refine HDR.out.mono ?_
                rintro e W2 ⟨rfl, hR2⟩
                have HR2 := Lib.hid hR2
                have HS1 := Lib.hid ((HT1.out.keep HI0.out.lk HM1.out.2).keepR HR1.out hR2.2.1)
                have HS2 := Lib.hid ((HT2.out.keep HI0.out.lk HM1.out.2).keepR HR1.out hR2.2.1)
                rw [HV.out] at HS1
                rw [HX2.out] at HS2
                obtain ⟨T9, hT9⟩ : ∃ T9, strOfNums bs0 = T9 := ⟨_, rfl⟩
                have ks := Kd.C_string (P := Try.prog) (w := W2) (c := k1) Try.underlying28 Try.underlying5 Try.underlying9 HS1.out.C.2.2
                have kt := Kd.C_string (P := Try.prog) (w := W2) (c := k2) Try.underlying28 Try.underlying5 Try.underlying9 (HS2.out.C (A := A2) (m := m2) (c := k2)).2.2
                rw [hT9] at ks kt
                have HF := Lib.hid (Rd.of HI0.out HB0.out HM1.out.1 HM1.out.2 (GN.refl _ _) HR2.out (by rw [eraseV_len _ _ (by rw [HL.out]; exact HK.out)]; have := HI0.out.le; omega) ((HI0.out.tt2 HM1.out.2 HR2.out).ers k (by rw [HL.out]; exact HK.out)) (HCN.out.came HI2.out))
                clear hR2 hT9 z2
                go_wp2_with fail
                go_meet
                exact ⟨rfl, HF⟩
              · have HO := Lib.hid (show si < 0 ∨ (L : Int) ≤ si by omega)
                have HF := Lib.hid (Rd.same HI0.out HB0.out HCN.out)
                clear hin z0 z1 z3 z4
                have ks := Kd.C_string (P := Try.prog) (w := W0) (c := 0) (xs := []) Try.underlying28 Try.underlying5 Try.underlying9 (Kd.C_nil _ _)
                simp only [List.length_nil] at ks
                obtain ⟨T9, hT9⟩ : ∃ T9, strOfNums [] = T9 := ⟨_, rfl⟩
                rw [hT9] at ks
                clear hT9
                go_wp2_with fail
                refine (lndeliver_out W0 w.heap.size p g a0 vs s c d t HI0.out.lk (by omega) si (by rw [HL.out]; exact HO.out)).mono ?_
                rintro e w' ⟨rfl, rfl⟩
                go_wp2_with fail
                refine (rdeliver_out W0 w.heap.size q a0 ts s c d t HI0.out.rf si (by rw [HTL.out]; exact HO.out)).mono ?_
                rintro e w' ⟨rfl, rfl⟩
                go_wp2_with fail
                go_meet
                exact ⟨rfl, HF⟩
            · as_aux_lemma =>
              by_cases hin : 0 ≤ si ∧ si < (L : Int)
              · obtain ⟨k, rfl⟩ := Int.eq_ofNat_of_zero_le hin.1
                have HK := Lib.hid (show k < L by omega)
                clear hin
                have HS0 := Lib.hid (show W0.drew.cell? ⟨b0, 2, none⟩ = some (.int .i64 k) from blk_cell (HBXD.out) 2)
                clear z0 z1 z2 z3 z4
                go_wp2_with fail
                go_region_held3 (fun w' => w'.cell? ⟨b0, 2, none⟩ = some (.int .i64 k))
                  (first | exact HS0.out | exact HS1.out | exact HS2.out)
                  (first
                    | (go_at_call 23; refine (lndrop_in W0.drew w.heap.size p g a0 vs s c d t HID.out.lk (by omega) k (by rw [HL.out]; exact HK.out) (by rw [HL.out]; have := HLE.out; omega) HLT.out.2.2.1.1 (by have := HLT.out; omega)).mono ?_; rintro e W1 ⟨rfl, hL1, hg1⟩; have HM1 := Lib.hid (And.intro hL1 hg1); have HR1 := Lib.hid (HID.out.mid hg1); clear hL1 hg1; have HS1 := Lib.hid (show W1.cell? ⟨b0, 2, none⟩ = some (.int .i64 k) from blk_cell (HID.out.boxL HBXD.out HM1.out.2) 2))
                    | (go_at_call 32; refine (rdrop_in _ w.heap.size q a0 ts s c d t HR1.out (by rw [HTL.out]; have := HLE.out; omega) HLT.out.2.2.1.1 (by have := HLT.out; omega) k (by rw [HTL.out]; exact HK.out)).mono ?_; rintro e W2 ⟨rfl, HR2⟩; have HS2 := Lib.hid (show W2.cell? ⟨b0, 2, none⟩ = some (.int .i64 k) from blk_cell (HR1.out.boxR (HID.out.boxL HBXD.out HM1.out.2) HR2.2.1) 2)))
                all_goals
                  have HF := Lib.hid (Rd.of HID.out HBD.out HM1.out.1 HM1.out.2 (GN.refl _ _) HR2 (by rw [eraseV_len _ _ (by rw [HL.out]; exact HK.out)]; have := HID.out.le; omega) ((HID.out.tt2 HM1.out.2 HR2).ers k (by rw [HL.out]; exact HK.out)) (HCN.out.dropped HI2.out))
                  clear HS0
                  go_wp2_with fail
                  go_meet
                  exact ⟨rfl, HF⟩
              · have HO := Lib.hid (show si < 0 ∨ (L : Int) ≤ si by omega)
                have HS0 := Lib.hid (show W0.drew.cell? ⟨b0, 2, none⟩ = some (.int .i64 si) from blk_cell (HBXD.out) 2)
                have HF := Lib.hid (Rd.same HID.out HBD.out HCN.out)
                clear z0 z1 z2 z3 z4 hin
                go_wp2_with fail
                go_region_held3 (fun w' => w'.cell? ⟨b0, 2, none⟩ = some (.int .i64 si))
                  (first | exact HS0.out)
                  (first
                    | (go_at_call 23; refine (lndrop_out W0.drew w.heap.size p g a0 vs s c d t HID.out.lk (by omega) si (by rw [HL.out]; exact HO.out)).mono ?_; rintro e w7 ⟨rfl, hw⟩; replace hw := hw.symm; subst hw)
                    | (go_at_call 32; refine (rdrop_out W0.drew w.heap.size q a0 ts s c d t HID.out.rf si (by rw [HTL.out]; exact HO.out)).mono ?_; rintro e w7 ⟨rfl, hw⟩; replace hw := hw.symm; subst hw))
                all_goals
                  clear HS0
                  go_wp2_with fail
                  go_meet
                  exact ⟨rfl, HF⟩
            · as_aux_lemma =>
              by_cases hin : 0 ≤ si ∧ si < (L : Int)
              · obtain ⟨k, rfl⟩ := Int.eq_ofNat_of_zero_le hin.1
                have HK := Lib.hid (show k < L by omega)
                clear hin
                by_cases hf : (L : Int) = a0
                · have HFU := Lib.hid hf
                  clear hf
                  have HS0 := Lib.hid (show W0.drew.cell? ⟨b0, 2, none⟩ = some (.int .i64 k) from blk_cell (HBXD.out) 2)
                  clear z0 z1 z2 z3 z4
                  go_wp2_with fail
                  go_region_held3 (fun w' => w'.cell? ⟨b0, 2, none⟩ = some (.int .i64 k))
                    (first | exact HS0.out | exact HS1.out | exact HS2.out)
                    (first
                      | (go_at_call 24; refine (lntwice_full W0.drew w.heap.size p g a0 vs s c d t HID.out.lk (by omega) (by rw [HL.out]; exact HFU.out) k (by rw [HL.out]; exact HK.out)).mono ?_; rintro e W1 ⟨rfl, hb1⟩; have HIX := Lib.hid (HID.out.below hb1); have HBX1 := Lib.hid (below_then HBD.out HBD.out.size hb1); have HBB := Lib.hid (blk_below HBXD.out hb1); clear hb1; have HS1 := Lib.hid (show W1.cell? ⟨b0, 2, none⟩ = some (.int .i64 k) from blk_cell (HBB.out) 2))
                      | (go_at_call 33; refine (rtwice_full _ w.heap.size q a0 ts s c d t HIX.out.rf (by rw [HTL.out]; have := HFU.out; omega) k (by rw [HTL.out]; exact HK.out)).mono ?_; rintro e W2 ⟨rfl, HR2⟩; have HS2 := Lib.hid (show W2.cell? ⟨b0, 2, none⟩ = some (.int .i64 k) from blk_cell (HIX.out.rf.boxR HBB.out HR2.2.1) 2)))
                  all_goals
                    have HF := Lib.hid (Rd.of HIX.out HBX1.out HIX.out.lk (Lg.refl _ _ _) (GN.refl _ _) HR2 HIX.out.le (HIX.out.tt2 (Lg.refl _ _ _) HR2) HCN.out.more)
                    clear HS0
                    go_wp2_with fail
                    go_meet
                    exact ⟨rfl, HF⟩
                · have HFU := Lib.hid (show (L : Int) < a0 by have := HLE.out; omega)
                  clear hf
                  obtain ⟨bs0, A1, m1, k1, A2, m2, k2, ev, ex, hbs, em, hm1, hm2, hm9, hby, hT1, hT2, hC1, hC2⟩ := (HID.out.tt.2 k (by rw [HL.out]; exact HK.out)).parts
                  subst em
                  have HV := Lib.hid ev
                  have HX2 := Lib.hid ex
                  have HPT := Lib.hid (show bs0.length = m2 ∧ m2 ≤ k1 ∧ m2 ≤ k2 ∧ m2 ≤ 140737488351232 ∧ By8 bs0 from ⟨hbs, hm1, hm2, hm9, hby⟩)
                  have HT1 := Lib.hid hT1
                  have HT2 := Lib.hid (show Tx8 W0.drew w.heap.size (.slice A2 m2 k2) bs0 by rw [ex] at hT2; exact hT2)
                  clear ev ex hbs hm1 hm2 hm9 hby hT1 hT2 hC1 hC2
                  have HS0 := Lib.hid (show W0.drew.cell? ⟨b0, 2, none⟩ = some (.int .i64 k) from blk_cell (HBXD.out) 2)
                  clear z0 z1 z2 z3 z4
                  go_wp2_with fail
                  go_region_held3 (fun w' => w'.cell? ⟨b0, 2, none⟩ = some (.int .i64 k))
                    (first | exact HS0.out | exact HS1.out | exact HS2.out)
                    (first
                      | (go_at_call 24; refine (lntwice_ok W0.drew w.heap.size p g a0 vs s c d t HID.out.lk (by omega) (by rw [HL.out]; have := HFU.out; omega) k (by rw [HL.out]; exact HK.out) (by rw [HL.out]; have := HLE.out; omega) bs0 HT1.out (by rw [HPT.out.1]; exact HPT.out.2.2.2.1)).mono ?_; rintro e W1 ⟨x1, hx1, rfl, g1, hgn, hL1, hg1⟩; have HM1 := Lib.hid (And.intro hL1 hg1); have HGN := Lib.hid hgn; have HX1 := Lib.hid hx1; have HR1 := Lib.hid (HID.out.mid hg1); have HTX := Lib.hid ((HT2.out.keep HID.out.lk hg1).C); clear hL1 hg1 hgn hx1; have HS1 := Lib.hid (show W1.cell? ⟨b0, 2, none⟩ = some (.int .i64 k) from blk_cell (HID.out.boxL HBXD.out HM1.out.2) 2))
                      | (go_at_call 33; refine (rtwice_in _ w.heap.size q a0 ts s c d t HR1.out (by rw [HTL.out]; exact HFU.out) (by rw [HTL.out]; have := HLE.out; omega) k (by rw [HTL.out]; exact HK.out) A2 m2 k2 bs0 HX2.out HPT.out.1 HPT.out.2.2.1 HPT.out.2.2.2.1 HTX.out.2.2).mono ?_; rintro e W2 ⟨rfl, y1, HY1, HR2⟩; have HS2 := Lib.hid (show W2.cell? ⟨b0, 2, none⟩ = some (.int .i64 k) from blk_cell (HR1.out.boxR (HID.out.boxL HBXD.out HM1.out.2) HR2.2.1) 2)))
                  all_goals
                    have HF := Lib.hid (Rd.of HID.out HBD.out HM1.out.1 HM1.out.2 HGN.out HR2 (by rw [List.length_append, List.length_singleton, HL.out]; have := HFU.out; omega) ((HID.out.tt2 HM1.out.2 HR2).snoc _ _ ⟨bs0, (HX1.out.lower HBD.out.size).keepR HR1.out HR2.2.1, HY1.lower (Nat.le_trans HBD.out.size HM1.out.2.size), HPT.out.2.2.2.2, by rw [HPT.out.1]; exact HPT.out.2.2.2.1⟩) HCN.out.more)
                    clear HS0
                    go_wp2_with fail
                    go_meet
                    exact ⟨rfl, HF⟩
              · have HO := Lib.hid (show si < 0 ∨ (L : Int) ≤ si by omega)
                have HS0 := Lib.hid (show W0.drew.cell? ⟨b0, 2, none⟩ = some (.int .i64 si) from blk_cell (HBXD.out) 2)
                have HF := Lib.hid (Rd.same HID.out HBD.out HCN.out)
                clear z0 z1 z2 z3 z4 hin
                go_wp2_with fail
                go_region_held3 (fun w' => w'.cell? ⟨b0, 2, none⟩ = some (.int .i64 si))
                  (first | exact HS0.out)
                  (first
                    | (go_at_call 24; refine (lntwice_out W0.drew w.heap.size p g a0 vs s c d t HID.out.lk (by omega) si (by rw [HL.out]; exact HO.out)).mono ?_; rintro e w7 ⟨rfl, hw⟩; replace hw := hw.symm; subst hw)
                    | (go_at_call 33; refine (rtwice_out W0.drew w.heap.size q a0 ts s c d t HID.out.rf si (by rw [HTL.out]; exact HO.out)).mono ?_; rintro e w7 ⟨rfl, hw⟩; replace hw := hw.symm; subst hw))
                all_goals
                  clear HS0
                  go_wp2_with fail
                  go_meet
                  exact ⟨rfl, HF⟩
            · as_aux_lemma =>
              by_cases hin : 0 ≤ si ∧ si < (L : Int)
              · obtain ⟨k, rfl⟩ := Int.eq_ofNat_of_zero_le hin.1
                have HK := Lib.hid (show k < L by omega)
                clear hin
                have HTK := Lib.hid (HID.out.tt.2 k (by rw [HL.out]; exact HK.out))
                have HS0 := Lib.hid (show W0.drew.cell? ⟨b0, 2, none⟩ = some (.int .i64 k) from blk_cell (HBXD.out) 2)
                clear z0 z1 z2 z3 z4
                go_wp2_with fail
                go_region_held3 (fun w' => w'.cell? ⟨b0, 2, none⟩ = some (.int .i64 k))
                  (first | exact HS0.out | exact HS1.out | exact HS2.out)
                  (first
                    | (go_at_call 25; refine (lnlater_in W0.drew w.heap.size p g a0 vs s c d t HID.out.lk (by omega) k (by rw [HL.out]; exact HK.out) (by rw [HL.out]; have := HLE.out; omega)).mono ?_; rintro e W1 ⟨rfl, g1, hgn, hL1, hg1⟩; have HM1 := Lib.hid (And.intro hL1 hg1); have HGN := Lib.hid hgn; have HR1 := Lib.hid (HID.out.mid hg1); clear hL1 hg1 hgn; have HS1 := Lib.hid (show W1.cell? ⟨b0, 2, none⟩ = some (.int .i64 k) from blk_cell (HID.out.boxL HBXD.out HM1.out.2) 2))
                    | (go_at_call 34; refine (rlater_in _ w.heap.size q a0 ts s c d t HR1.out (by rw [HTL.out]; have := HLE.out; omega) k (by rw [HTL.out]; exact HK.out)).mono ?_; rintro e W2 ⟨rfl, HR2⟩; have HS2 := Lib.hid (show W2.cell? ⟨b0, 2, none⟩ = some (.int .i64 k) from blk_cell (HR1.out.boxR (HID.out.boxL HBXD.out HM1.out.2) HR2.2.1) 2)))
                all_goals
                  have HF := Lib.hid (Rd.of HID.out HBD.out HM1.out.1 HM1.out.2 HGN.out HR2 (by rw [List.length_append, eraseV_len _ _ (by rw [HL.out]; exact HK.out), List.length_singleton]; have := HID.out.le; have := HL.out; have := HK.out; omega) (((HID.out.tt2 HM1.out.2 HR2).ers k (by rw [HL.out]; exact HK.out)).snoc _ _ ((HID.out.tt2 HM1.out.2 HR2).2 k (by rw [HL.out]; exact HK.out))) HCN.out.more)
                  clear HS0
                  go_wp2_with fail
                  go_meet
                  exact ⟨rfl, HF⟩
              · have HO := Lib.hid (show si < 0 ∨ (L : Int) ≤ si by omega)
                have HS0 := Lib.hid (show W0.drew.cell? ⟨b0, 2, none⟩ = some (.int .i64 si) from blk_cell (HBXD.out) 2)
                have HF := Lib.hid (Rd.same HID.out HBD.out HCN.out)
                clear z0 z1 z2 z3 z4 hin
                go_wp2_with fail
                go_region_held3 (fun w' => w'.cell? ⟨b0, 2, none⟩ = some (.int .i64 si))
                  (first | exact HS0.out)
                  (first
                    | (go_at_call 25; refine (lnlater_out W0.drew w.heap.size p g a0 vs s c d t HID.out.lk (by omega) si (by rw [HL.out]; exact HO.out)).mono ?_; rintro e w7 ⟨rfl, hw⟩; replace hw := hw.symm; subst hw)
                    | (go_at_call 34; refine (rlater_out W0.drew w.heap.size q a0 ts s c d t HID.out.rf si (by rw [HTL.out]; exact HO.out)).mono ?_; rintro e w7 ⟨rfl, hw⟩; replace hw := hw.symm; subst hw))
                all_goals
                  clear HS0
                  go_wp2_with fail
                  go_meet
                  exact ⟨rfl, HF⟩
            · as_aux_lemma =>
              by_cases hin : 0 ≤ si ∧ si < (L : Int)
              · obtain ⟨k, rfl⟩ := Int.eq_ofNat_of_zero_le hin.1
                have HK := Lib.hid (show k < L by omega)
                clear hin
                obtain ⟨bs0, A1, m1, k1, A2, m2, k2, ev, ex, hbs, em, hm1, hm2, hm9, hby, hT1, hT2, hC1, hC2⟩ := (HID.out.tt.2 k (by rw [HL.out]; exact HK.out)).parts
                subst em
                have HV := Lib.hid ev
                have HX2 := Lib.hid ex
                have HPT := Lib.hid (show bs0.length = m2 ∧ m2 ≤ k1 ∧ m2 ≤ k2 ∧ m2 ≤ 140737488351232 ∧ By8 bs0 from ⟨hbs, hm1, hm2, hm9, hby⟩)
                have HT1 := Lib.hid hC1
                have HT2 := Lib.hid (show Tx8 W0.drew w.heap.size (.slice A2 m2 k2) bs0 by rw [ex] at hT2; exact hT2)
                clear ev ex hbs hm1 hm2 hm9 hby hT1 hT2 hC1 hC2
                have HS0 := Lib.hid (show W0.drew.cell? ⟨b0, 2, none⟩ = some (.int .i64 k) ∧ W0.drew.cell? ⟨b0, 3, none⟩ = some (.int .i64 sat) ∧ W0.drew.cell? ⟨b0, 4, none⟩ = some (.int .u32 sm) from ⟨blk_cell (HBXD.out) 2, blk_cell (HBXD.out) 3, blk_cell (HBXD.out) 4⟩)
                clear z0 z1 z2 z3 z4
                go_wp2_with fail
                go_region_held3 (fun w' => w'.cell? ⟨b0, 2, none⟩ = some (.int .i64 k) ∧ w'.cell? ⟨b0, 3, none⟩ = some (.int .i64 sat) ∧ w'.cell? ⟨b0, 4, none⟩ = some (.int .u32 sm))
                  (first | exact HS0.out | exact HS1.out | exact HS2.out)
                  (first
                    | (go_at_call 35; refine (lnturn_in W0.drew w.heap.size p g a0 vs s c d t HID.out.lk (by omega) k (by rw [HL.out]; exact HK.out) (by rw [HL.out]; have := HLE.out; omega) HLT.out.2.2.2.1 HLT.out.2.2.2.2 sat sm HSAT.out.1 HSAT.out.2 A1 m2 k1 bs0 HV.out HPT.out.1 HPT.out.2.1 HPT.out.2.2.2.1 HT1.out).mono ?_; rintro e W1 ⟨rfl, x1, hx1, hL1, hg1⟩; have HM1 := Lib.hid (And.intro hL1 hg1); have HX1 := Lib.hid hx1; have HR1 := Lib.hid (HID.out.mid hg1); have HTX := Lib.hid ((HT2.out.keep HID.out.lk hg1).C); clear hL1 hg1 hx1; have HS1 := Lib.hid (show W1.cell? ⟨b0, 2, none⟩ = some (.int .i64 k) ∧ W1.cell? ⟨b0, 3, none⟩ = some (.int .i64 sat) ∧ W1.cell? ⟨b0, 4, none⟩ = some (.int .u32 sm) from ⟨blk_cell (HID.out.boxL HBXD.out HM1.out.2) 2, blk_cell (HID.out.boxL HBXD.out HM1.out.2) 3, blk_cell (HID.out.boxL HBXD.out HM1.out.2) 4⟩))
                    | (go_at_call 36; refine (rturn_in _ w.heap.size q a0 ts s c d t HR1.out (by rw [HTL.out]; have := HLE.out; omega) HLT.out.2.2.2.1 HLT.out.2.2.2.2 k (by rw [HTL.out]; exact HK.out) sat sm HSAT.out.1 HSAT.out.2 A2 m2 k2 bs0 HX2.out HPT.out.2.2.2.2 HPT.out.1 HPT.out.2.2.1 HPT.out.2.2.2.1 HTX.out.2.2).mono ?_; rintro e W2 ⟨rfl, y1, HY1, HR2⟩; have HS2 := Lib.hid (show W2.cell? ⟨b0, 2, none⟩ = some (.int .i64 k) ∧ W2.cell? ⟨b0, 3, none⟩ = some (.int .i64 sat) ∧ W2.cell? ⟨b0, 4, none⟩ = some (.int .u32 sm) from ⟨blk_cell (HR1.out.boxR (HID.out.boxL HBXD.out HM1.out.2) HR2.2.1) 2, blk_cell (HR1.out.boxR (HID.out.boxL HBXD.out HM1.out.2) HR2.2.1) 3, blk_cell (HR1.out.boxR (HID.out.boxL HBXD.out HM1.out.2) HR2.2.1) 4⟩)))
                all_goals
                  have HF := Lib.hid (Rd.of HID.out HBD.out HM1.out.1 HM1.out.2 (GN.refl _ _) HR2 (by rw [List.length_set]; exact HID.out.le) ((HID.out.tt2 HM1.out.2 HR2).set k (by rw [HL.out]; exact HK.out) _ _ ⟨_, (HX1.out.lower HBD.out.size).keepR HR1.out HR2.2.1, HY1.lower (Nat.le_trans HBD.out.size HM1.out.2.size), HPT.out.2.2.2.2.bur _, by rw [vburst_len, HPT.out.1]; exact HPT.out.2.2.2.1⟩) (HCN.out.turned HI2.out))
                  clear HS0
                  go_wp2_with fail
                  go_meet
                  exact ⟨rfl, HF⟩
              · have HO := Lib.hid (show si < 0 ∨ (L : Int) ≤ si by omega)
                have HS0 := Lib.hid (show W0.drew.cell? ⟨b0, 2, none⟩ = some (.int .i64 si) ∧ W0.drew.cell? ⟨b0, 3, none⟩ = some (.int .i64 sat) ∧ W0.drew.cell? ⟨b0, 4, none⟩ = some (.int .u32 sm) from ⟨blk_cell (HBXD.out) 2, blk_cell (HBXD.out) 3, blk_cell (HBXD.out) 4⟩)
                have HF := Lib.hid (Rd.same HID.out HBD.out HCN.out)
                clear z0 z1 z2 z3 z4 hin
                go_wp2_with fail
                go_region_held3 (fun w' => w'.cell? ⟨b0, 2, none⟩ = some (.int .i64 si) ∧ w'.cell? ⟨b0, 3, none⟩ = some (.int .i64 sat) ∧ w'.cell? ⟨b0, 4, none⟩ = some (.int .u32 sm))
                  (first | exact HS0.out)
                  (first
                    | (go_at_call 35; refine (lnturn_out W0.drew w.heap.size p g a0 vs s c d t HID.out.lk (by omega) si (by rw [HL.out]; exact HO.out) sat sm).mono ?_; rintro e w7 ⟨rfl, hw⟩; replace hw := hw.symm; subst hw)
                    | (go_at_call 36; refine (rturn_out W0.drew w.heap.size q a0 ts s c d t HID.out.rf si (by rw [HTL.out]; exact HO.out) sat sm).mono ?_; rintro e w7 ⟨rfl, hw⟩; replace hw := hw.symm; subst hw))
                all_goals
                  clear HS0
                  go_wp2_with fail
                  go_meet
                  exact ⟨rfl, HF⟩
            · as_aux_lemma =>
              by_cases hsi : si = 0
              · subst hsi
                obtain ⟨Ar, kr, hRf, -, -, -, -, -⟩ := HID.out.rf.parts
                rw [HTL.out] at hRf
                have HRF := Lib.hid hRf
                have HS0 := Lib.hid hRf.at_.2.2.1
                clear hRf z0 z1 z3 z4
                obtain ⟨d1, hd1⟩ : ∃ d1, d + (L : Int) = d1 := ⟨_, rfl⟩
                have hdb : 0 ≤ d1 ∧ d1 ≤ 100000 := by have h1 := HLT.out.2.2.1; have h3 := HLE.out; omega
                have HCL := Lib.hid (lnclear_any W0.drew w.heap.size p g a0 vs s c d t HID.out.lk (by omega) L HL.out (by have := HLE.out; omega) HLT.out.2.2.1.1 (by have := HLT.out; omega))
                rw [up_clear L HLT.out.2.2.1.1 HLT.out.2.2.1.2 (by have := HLE.out; omega), hd1] at HCL
                have HDD := Lib.hid hd1
                have hdl := HLT.out.2.2.1
                have hL9 : (L : Int) ≤ 256 := by have := HLE.out; omega
                go_wp2_with fail
                go_region_held3 (fun w' => w'.cell? ⟨q, 1, none⟩ = some (.slice Ar L kr))
                  (first | exact HS0.out | exact HS1.out)
                  (first | (go_at_call 37; refine HCL.out.mono ?_; rintro e W1 ⟨rfl, ⟨g1, hg', hL1⟩, hg1⟩; have HG1 := Lib.hid hg'; have HM1 := Lib.hid (And.intro hL1 hg1); have HRF1 := Lib.hid (HID.out.refL HRF.out hg1); have HS1 := Lib.hid HRF1.out.at_.2.2.1; clear hL1 hg1 hg'))
                all_goals
                  obtain ⟨y, y0, y1, y2, y3, y4, y5⟩ := HRF1.out.at_
                  have f1 := HRF1.out.frz 1
                  have f4 := HRF1.out.frz 4
                  have HF := Lib.hid (Rd.clear HID.out HBD.out HG1.out HM1.out.1 HM1.out.2 (by rw [← HDD.out]; exact HCN.out.cleared (by have := HLE.out; omega)) (by omega))
                  clear HS0 HS1 y y0 y2 y3 y5
                  go_wp2_with fail
                  go_meet
                  exact ⟨rfl, HF⟩
              · have HF := Lib.hid (Rd.same HI0.out HB0.out HCN.out)
                have hsj : (si == 0) = false := by simpa using hsi
                clear z0 z1 z3 z4 hsi
                go_wp2_with fail
                go_meet
                exact ⟨rfl, HF⟩
          case rest => as_aux_lemma =>
            obtain ⟨rfl, HRc⟩ := hcut
            clear z0 z1 z2 z3 z4 HBX HW0 HB0' HI0 HB0 HIr HBr HCN HLE HL hK hK0
            obtain ⟨g', vs', ts', s', c', d', t', hcn', hi', hb'⟩ := HRc.out
            have HI9 := Lib.hid hi'
            have HB9 := Lib.hid hb'
            have HCc := Lib.hid hcn'
            clear hcn' hi' hb'
            go_wp2_with fail
            refine (lncounts_any wc w.heap.size p g' a0 vs' s' c' d' t' HI9.out.lk (by omega)).mono ?_
            rintro e W1 ⟨rfl, hb⟩
            have HI1 := Lib.hid (HI9.out.below hb)
            have HB1 := Lib.hid (below_then HB9.out HB9.out.size hb)
            clear hb
            go_wp2_with fail
            obtain ⟨W2, hW2⟩ : ∃ W2, W1.alloc (.cells #[.int .u32 s', .int .u32 c', .int .u32 d', .int .u32 t'] 77) = W2 := ⟨_, rfl⟩
            have hb2 : Below W1.heap.size W1 W2 := by rw [← hW2]; exact below_alloc (Below.refl _ _) _
            have hx2 := heap_alloc_new W1 (.cells #[.int .u32 s', .int .u32 c', .int .u32 d', .int .u32 t'] 77)
            rw [hW2] at hx2 ⊢
            have HI2 := Lib.hid ((HI1.out.below hb2).below (below_drew (Below.refl _ _)))
            have HB2 := Lib.hid (below_then HB1.out HB1.out.size (below_drew hb2))
            obtain ⟨b3, hb3⟩ : ∃ b, W1.heap.size = b := ⟨_, rfl⟩
            rw [hb3] at hx2 ⊢
            obtain ⟨Ar, kr, hRf, -, -, -, -, -⟩ := HI2.out.rf.parts
            obtain ⟨-, -, v1, v2, v3, v4, v5⟩ := hRf.at_
            obtain ⟨m9, hm9⟩ : ∃ m, ts'.length = m := ⟨_, rfl⟩
            rw [hm9] at v1
            have hx3 := blk_below hx2 (below_drew (Below.refl _ _))
            have HS := Lib.hid (show W2.drew.cell? ⟨q, 1, none⟩ = some (.slice Ar m9 kr) ∧ W2.drew.cell? ⟨q, 2, none⟩ = some (.int .u32 s') ∧ W2.drew.cell? ⟨q, 3, none⟩ = some (.int .u32 c') ∧ W2.drew.cell? ⟨q, 4, none⟩ = some (.int .u32 d') ∧ W2.drew.cell? ⟨q, 5, none⟩ = some (.int .u32 t') ∧ W2.drew.cell? ⟨b3, 0, none⟩ = some (.int .u32 s') ∧ W2.drew.cell? ⟨b3, 1, none⟩ = some (.int .u32 c') ∧ W2.drew.cell? ⟨b3, 2, none⟩ = some (.int .u32 d') ∧ W2.drew.cell? ⟨b3, 3, none⟩ = some (.int .u32 t') from ⟨v1, v2, v3, v4, v5, blk_cell hx3 0, blk_cell hx3 1, blk_cell hx3 2, blk_cell hx3 3⟩)
            have HLN := Lib.hid (lnlen_any W2.drew w.heap.size p g' a0 vs' s' c' d' t' HI2.out.lk (by omega) m9 (HI2.out.tt.1.trans hm9))
            clear hRf hm9 hx2 hx3 hb3 hb2 hW2 v1 v2 v3 v4 v5
            go_region_held3 (fun w' => w'.cell? ⟨q, 1, none⟩ = some (.slice Ar m9 kr) ∧ w'.cell? ⟨q, 2, none⟩ = some (.int .u32 s') ∧ w'.cell? ⟨q, 3, none⟩ = some (.int .u32 c') ∧ w'.cell? ⟨q, 4, none⟩ = some (.int .u32 d') ∧ w'.cell? ⟨q, 5, none⟩ = some (.int .u32 t') ∧ w'.cell? ⟨b3, 0, none⟩ = some (.int .u32 s') ∧ w'.cell? ⟨b3, 1, none⟩ = some (.int .u32 c') ∧ w'.cell? ⟨b3, 2, none⟩ = some (.int .u32 d') ∧ w'.cell? ⟨b3, 3, none⟩ = some (.int .u32 t'))
              (first | exact HS.out)
              (first | (go_at_call 13; refine HLN.out.mono ?_; rintro e w7 ⟨rfl, hw⟩; replace hw := hw.symm; subst hw))
            all_goals
              clear HS HLN
              go_wp2_with fail
              go_roundg (M - (i + 1))
              case measure => omega
              case rel => exact ⟨i + 1, by go_num, by have := HIM.out; omega, Lib.hid ⟨g', vs', ts', s', c', d', t', HCc.out, HI2.out, HB2.out⟩⟩
        · go_wp2_with fail
          refine (alive21_any _).mono ?_
          rintro e w3 ⟨rfl, hb⟩
          have HB9 := Lib.hid (below_then HBr.out HBr.out.size hb)
          clear hb
          go_wp2_with fail
          go_ret
          exact ⟨rfl, HB9.out⟩

set_option maxRecDepth 100000 in
theorem lifted (os : Os) (started : os.Started) (H : Type) (enc : TypeId × Value → H) :
    ReturnsInHanded {} Try.checked os 7 .any (Rows.linkPlaysSpec.pre6 enc Try.prog Try.f7 Rows.linkPlaysRow.domain false) (Rows.linkPlaysSpec.post enc Try.prog Try.f7 false true false false) := by
  refine returnsInHanded_of_change_sized (C := Try.checked) own started (by kernel_rfl) Try.func7
    (ChangeSpec.witness6 (enc := enc) (C := Try.checked) false ⟨#[], #[.int .i64 0, .slice none 0 0], []⟩ 8 (by kernel_rfl) (by kernel_rfl) (by kernel_rfl) (by kernel_rfl)) ?_
  intro W base args ds gs before hval0 hW hcnd hsz0 _
  have hval : ∀ (j : Nat) t v, Try.f7.params[j]? = some t → args[j]? = some v → Value.okWide Try.prog W .any base t v := hval0
  have hW' := hW
  obtain ⟨p, q, hA0, hV, rfl, hfz, hnd⟩ := hW
  have hA : DataW.TrodAll enc Try.prog W 0 (fun _ => true) true Try.f7.params.toList args.toList ds p := hA0
  rw [Try.params7] at hA hval
  have hsz : (DataW.weightsEach Try.prog (Try.f7.params.toList ++ Rows.linkPlaysSpec.plain.varTypes Try.prog) (ds ++ gs)).all (· ≤ reachBytes) = true := hsz0
  rw [Try.params7] at hsz
  obtain ⟨v0, vs0, d0, ds0, p0, q0, hargs, rfl, rfl, h0, r0⟩ := trodAll_cons hA
  obtain ⟨v1, vs1, d1, ds1, p1, q1, rfl, rfl, rfl, h1, r1⟩ := trodAll_cons r0
  obtain ⟨rfl, rfl, rfl⟩ := trodAll_nil r1
  obtain rfl : args = #[v0, v1] := by cases args; simp_all
  obtain ⟨rfl, rfl⟩ := trodVars_none hV
  have k0 := h0
  have lt0 : ∀ x ∈ p0, x.block < W.heap.size := by obtain ⟨m, hm⟩ := k0; exact DataW.trod_lt m _ _ _ hm
  obtain ⟨a0, rfl, rfl, rfl, g0⟩ := open_int Try.underlying3 (hval 0 3 v0 rfl rfl) h0
  have k1 := h1
  have lt1 : ∀ x ∈ p1, x.block < W.heap.size := by obtain ⟨m, hm⟩ := k1; exact DataW.trod_lt m _ _ _ hm
  obtain ⟨a1, len1, cap1, rfl⟩ := okWide_slice Try.underlying48 (hval 1 48 v1 rfl rfl)
  obtain ⟨x1, y1, g1⟩ : ∃ x, (Kd.slice 54 KStep).K W x [.slice a1 len1 cap1] ∧ (fun xs => (∀ x ∈ xs, StepG x) ∧ xs.length ≤ maxLen ∧ xs.length * Try.prog.bytesOf 54 ≤ reachBytes) x := by obtain ⟨m, hm⟩ := k1; exact op_steps _ _ _ m _ _ hm (fun q hq => by have := List.all_eq_true.1 hsz q (DataW.weights_mem_each (j := 1) (t := 48) (d := d1) rfl rfl q hq); simpa using this)
  clear hA0 hval0
  refine (walk a0 a1 len1 cap1 x1 W g0 y1 g1).mono fun e W' ⟨he, bel⟩ => ?_
  subst he
  exact ⟨_, rfl, _, _, _, [], _, [], hW', trodAll_mk1 (shut_bool Try.underlying4 _), (trodAll_cons_mk (Below.trod laidOut (by kernel_rfl) (of_decide_eq_true (by kernel_rfl)) k0 bel lt0) (trodAll_cons_mk (Below.trod laidOut (by kernel_rfl) (of_decide_eq_true (by kernel_rfl)) k1 bel lt1) trodAll_mk0)), rfl, bel.frame _, fun h => by cases h⟩

theorem over : Rows.linkPlaysRow.holds Try.pinned (OpenSpec.ofChange Rows.linkPlaysSpec) :=
  OpenClaim.holds_of_wide 7 Try.f7 rfl rfl rfl rfl rfl rfl rfl ⟨rfl, rfl, rfl, rfl, rfl⟩ rfl rfl rfl rfl rfl (by kernel_rfl) Try.func7 (by kernel_rfl)
    (of_decide_eq_true (by kernel_rfl)) (by unfold Func.isWrapper; first | (rw [if_pos (by decide +kernel)]; kernel_rfl) | (rw [if_neg (by decide +kernel)]; exact ⟨rfl, rfl⟩))
    (fun os started H enc _ => lifted os started H enc)

theorem proved : Rows.LinkPlaysSaid := over
end Go.Proofs.Ytcelhendfjiicaa.linkPlays
