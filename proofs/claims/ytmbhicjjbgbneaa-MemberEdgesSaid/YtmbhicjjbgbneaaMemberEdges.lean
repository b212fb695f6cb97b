/- States go along their ways alone, incarnations rise, what is refused turns nothing; no replica goes but from Draining, and, if something is bound to it, but behind its wait. -/
import Derived.Test.YtmbhicjjbgbneaaRows
import Derived.WalkKit
import Derived.ProofKit
import Derived.OpenShut
import Derived.ShutString
import Derived.ChangeOld
import Derived.Below
import Derived.Test.YtmbhicjjbgbneaaOpn
import Derived.Test.YtmbhicjjbgbneaaMbN
import Derived.Deep.DeepCutAuto
import Derived.Deep.CutBlock
namespace Go.Proofs.Ytmbhicjjbgbneaa.memberEdges
open Go.ChangeShapes Go.WideShapes Go.ChangeAt Go.RowKit
open Go.ChangeMaps (open_string shut_string)
set_option linter.unusedVariables false
set_option linter.unusedSimpArgs false
open Go.Proofs.YtmbhicjjbgbneaaW.PrintWords Go.Proofs.YtmbhicjjbgbneaaW.PrintLast Go.Proofs.YtmbhicjjbgbneaaW.PrintMore

theorem own : ownKnob Try.prog.godebug = none := by kernel_rfl
theorem laidOut : laidOutB Try.prog = true := by kernel_rfl

set_option maxRecDepth 100000
theorem slice_came {α : Type} {e : Nat} {d : Kd α} {w : World} {a : Option Addr} {len cap : Nat} {xs : List α} (h : (Kd.slice e d).K w xs [.slice a len cap]) : len = xs.length ∧ xs.length ≤ cap ∧ d.C w a xs.length xs := by
  obtain ⟨A, c, he, hl, hC⟩ := h
  simp only [List.cons.injEq, Value.slice.injEq, and_true] at he
  obtain ⟨rfl, rfl, rfl⟩ := he
  exact ⟨rfl, hl, hC⟩
def EdI (w : World) (p m : Nat) (i : Nat) (nw : Int) (wr : World) : Prop := ∃ F tn last V, MS wr F p m tn last V ∧ PG tn last V ∧ (∀ k, F k → w.heap.size ≤ k) ∧ Below w.heap.size w wr ∧ (0 ≤ nw ∧ nw ≤ 1048576 * i) ∧ tn ≤ nw ∧ last ≤ i
def EdS (w2 : World) (F : Nat → Prop) (p m i : Nat) (nw kd n wt : Int) (V : List Rp) (s8 : Value) (wx : World) : Prop := ∃ code tn last V1, s8 = .int .i64 code ∧ MS wx (Nw w2 wx F) p m tn last V1 ∧ Tn F w2 wx ∧ PG tn last V1 ∧ tn ≤ nw ∧ last ≤ i + 1 ∧ Edge (kd % 7) n wt nw code V V1
theorem EdS.mk2 {w2 : World} {F : Nat → Prop} {p m i : Nat} {nw kd n wt code tn last : Int} {V V1 : List Rp} {wx : World} (h : MR w2 F p m tn last V1 wx) (g : PG tn last V1) (h1 : tn ≤ nw) (h2 : last ≤ i + 1) (h3 : Edge (kd % 7) n wt nw code V V1) : EdS w2 F p m i nw kd n wt V (.int .i64 code) wx := ⟨code, tn, last, V1, rfl, h.1, h.2, g, h1, h2, h3⟩
theorem add_last (now last : Int) (V : List Rp) : (pAdd now last V).2.1 ≤ last + 1 := by unfold pAdd; split <;> (dsimp only; omega)
theorem lat_nw {tn nw : Int} (h : tn ≤ nw) (h2 : nw ≤ 1099511627776) : lat tn nw = nw := by unfold lat; rw [if_pos h2]; omega
attribute [local go_sem] gb_max2 gb_min2 gb_max_two gb_min_two gb_max_three gb_min_three
set_option maxHeartbeats 4000000 in
theorem walk (a0 : Option Addr) (len0 cap0 : Nat) (x0 : List MStepV) (w : World) (k0 : (Kd.slice 64 KMStep).K w x0 [.slice a0 len0 cap0]) (gd0 : (fun xs => (∀ x ∈ xs, MStepG x) ∧ xs.length ≤ maxLen) x0) :
    Calls Try.prog 6 #[.slice a0 len0 cap0] w fun e w' => e = .returned (.bool true) ∧ Below w.heap.size w w' := by
  obtain ⟨rfl, hcx, hx⟩ := slice_came k0
  obtain ⟨hgd, hml⟩ := gd0
  have HX := Lib.hid (fun (W' : World) (hb : Below w.heap.size w W') => Kd.C_below hx hb)
  have HGD := Lib.hid hgd
  have HSHO := Lib.hid (fun (W' : World) => short24_any a0 x0.length cap0 hcx W')
  obtain ⟨N, hN⟩ : ∃ N, x0.length = N := ⟨_, rfl⟩
  rw [hN] at hcx HSHO ⊢
  have HN := Lib.hid hN
  obtain ⟨M, hM⟩ : ∃ M, min N 200 = M := ⟨_, rfl⟩
  rw [hM] at HSHO
  have hMN : M ≤ N := by omega
  have hM2 : M ≤ 200 := by omega
  clear k0 hgd hx hN hM hml
  go_enter Try.func6, Try.ntmps6
  go_wp2_with fail
  refine (msnew _).mono ?_
  rintro e w1 ⟨p, m, rfl, hS, hb⟩
  have HS := Lib.hid hS
  have HB := Lib.hid hb
  clear hS hb
  go_wp2_with fail
  refine (HSHO.out w1).mono ?_
  rintro e w' ⟨rfl, rfl⟩
  go_wp2_with fail
  go_loopw [4, 19] (fun s4 s19 wr => ∃ (i : Nat) (nw : Int), s4 = .int .i64 nw ∧ s19 = .int .i64 i ∧ i ≤ M ∧ Hid (EdI w p m i nw wr)) (fun _ s _ => M - (intOf s).toNat)
  case atStart => exact ⟨0, 0, rfl, rfl, by omega, Lib.hid ⟨_, 0, 0, [], HS.out, ⟨by omega, by omega, by omega, by omega, List.Pairwise.nil, by simp, fun x hx => by cases hx⟩, fun k hk => hk.1, HB.out, by omega, by omega, by omega⟩⟩
  case round =>
    obtain ⟨i, nw, rfl, rfl, hi, HI⟩ := hrel
    obtain ⟨F, tn, last, V, hS, hG, hF, hbr, hnw, htn, hla⟩ := HI.out
    have HSr := Lib.hid hS
    have HGr := Lib.hid hG
    have HFr := Lib.hid hF
    have HBr := Lib.hid hbr
    clear hS hG hF hbr HI
    by_cases hiM : i < M
    · obtain ⟨ad, x, rfl, hxi, q0, q1, q2, q3, q4, q5⟩ := msteps_at (HX.out w (Below.refl _ _)) i (by rw [HN.out]; omega)
      have hg := HGD.out x (List.mem_of_getElem? hxi)
      obtain ⟨kd, lt, n, ic, wt, by_⟩ := x
      have hk : 0 ≤ kd ∧ kd ≤ 255 := by
        have h := hg.1
        change (decide ((0 : Int) ≤ kd) && decide (kd ≤ (255 : Int))) = true at h
        simpa using h
      have hic : 0 ≤ ic := by
        have h := hg.2.2.2.1
        change (decide ((0 : Int) ≤ ic) && decide (ic ≤ (18446744073709551615 : Int))) = true at h
        simp at h; omega
      have q0 := pw_cell_below HBr.out q0
      have q1 := pw_cell_below HBr.out q1
      have q2 := pw_cell_below HBr.out q2
      have q3 := pw_cell_below HBr.out q3
      have q4 := pw_cell_below HBr.out q4
      have q5 := pw_cell_below HBr.out q5
      dsimp only at q0 q1 q2 q3 q4 q5
      clear hxi hg
      obtain ⟨W0, hW0⟩ : ∃ W0, wr.alloc (.cells #[.int .u8 kd, .int .i64 lt, .int .u64 n, .int .u64 ic, .int .i64 wt, .int .i64 by_] 64) = W0 := ⟨_, rfl⟩
      have hb0 : Below wr.heap.size wr W0 := by rw [← hW0]; exact below_alloc (Below.refl _ _) _
      have HS0 := Lib.hid (HSr.out.below hb0)
      have HB0 := Lib.hid (below_then HBr.out HBr.out.size hb0)
      have hbx := heap_alloc_new wr (.cells #[.int .u8 kd, .int .i64 lt, .int .u64 n, .int .u64 ic, .int .i64 wt, .int .i64 by_] 64)
      rw [hW0] at hbx
      obtain ⟨b0, hb0'⟩ : ∃ b, wr.heap.size = b := ⟨_, rfl⟩
      rw [hb0'] at hbx
      have HFb := Lib.hid (show ∀ k, F k → k < b0 from fun k hk => by rw [← hb0']; exact HSr.out.lt k hk)
      have HBX := Lib.hid hbx
      have z0 := blk_cell hbx 0
      have z1 := blk_cell hbx 1
      have z2 := blk_cell hbx 2
      have z3 := blk_cell hbx 3
      have z4 := blk_cell hbx 4
      have z5 := blk_cell hbx 5
      clear hbx hb0
      go_upto_region 8 with fail
      clear q0 q1 q2 q3 q4 q5
      go_cut [30] (fun s30 wx => s30 = .bool (decide (0 < lt ∧ lt < 1048576)) ∧ wx = W0)
      case first =>
        by_cases h1 : 0 < lt
        · by_cases h2 : lt < 1048576
          · go_wp2_with fail
            go_meet
            exact ⟨by rw [decide_eq_true (show 0 < lt ∧ lt < 1048576 by omega)], rfl⟩
          · go_wp2_with fail
            go_meet
            exact ⟨by rw [decide_eq_false (show ¬ (0 < lt ∧ lt < 1048576) by omega)], rfl⟩
        · go_wp2_with fail
          go_meet
          exact ⟨by rw [decide_eq_false (show ¬ (0 < lt ∧ lt < 1048576) by omega)], rfl⟩
      case rest =>
        obtain ⟨rfl, rfl⟩ := hcut
        obtain ⟨nw', hnw'⟩ : ∃ x, (if 0 < lt ∧ lt < 1048576 then nw + lt else nw) = x := ⟨_, rfl⟩
        have HNW := Lib.hid hnw'
        have hw1 : nw ≤ nw' ∧ nw' ≤ 1048576 * (i + 1) ∧ 0 ≤ nw' := by rw [← hnw']; split <;> omega
        obtain ⟨hw1, hw2, hw3⟩ := hw1
        clear hnw'
        go_upto_if 30 with fail
        go_cut [4] (fun s4 wx => s4 = .int .i64 nw' ∧ wx = wc)
        case first =>
          by_cases h1 : 0 < lt ∧ lt < 1048576
          · have hd : decide (0 < lt ∧ lt < 1048576) = true := decide_eq_true h1
            have HN2 := Lib.hid (show nw + lt = nw' by rw [← HNW.out, if_pos h1])
            rw [hd]
            obtain ⟨h1, h2⟩ := h1
            clear hd
            go_wp2_with fail
            go_meet
            exact ⟨by rw [← HN2.out], rfl⟩
          · have hd : decide (0 < lt ∧ lt < 1048576) = false := decide_eq_false h1
            have HN2 := Lib.hid (show nw = nw' by rw [← HNW.out, if_neg h1])
            rw [hd]
            clear hd h1
            go_wp2_with fail
            go_meet
            exact ⟨by rw [← HN2.out], rfl⟩
        case rest =>
          obtain ⟨rfl, rfl⟩ := hcut
          have hw9 : nw' ≤ 1099511627776 := by omega
          go_wp2_with fail
          refine (msall HS0.out HGr.out).mono ?_
          rintro e w2 ⟨v, rfl, hr, hb⟩
          have HS2 := Lib.hid (HS0.out.below hb)
          have HB2 := Lib.hid (below_then HB0.out HB0.out.size hb)
          have hbx2 := blk_below HBX.out hb
          have HBX2 := Lib.hid hbx2
          have z0 := blk_cell hbx2 0
          have z1 := blk_cell hbx2 1
          have z2 := blk_cell hbx2 2
          have z3 := blk_cell hbx2 3
          have z4 := blk_cell hbx2 4
          have z5 := blk_cell hbx2 5
          obtain ⟨A, c, e, hc, hC⟩ := Kd.R_reads hr
          subst e
          obtain ⟨wa, hwa⟩ : ∃ wa, wa = wc := ⟨_, rfl⟩
          subst hwa
          have HRW := Lib.hid (Kd.R_mono (Kd.R_bound hr) (ok' := fun k => wa.heap.size ≤ k) (fun k hk => hk.2.1))
          have HPL := Lib.hid HS0.out.p_
          have HFL := Lib.hid HS0.out.lt
          have HLAT := Lib.hid (lat_nw (show tn ≤ nw' by omega) hw9)
          have htn2 : tn ≤ nw' := by omega
          obtain ⟨nv, hnv⟩ : ∃ nv, V.length = nv := ⟨_, rfl⟩
          rw [hnv] at hc HRW
          have HNV := Lib.hid hnv
          have hnv8 : nv ≤ 8 := by rw [← hnv]; exact HGr.out.len
          obtain ⟨K, hK⟩ : ∃ K, kd % 7 = K := ⟨_, rfl⟩
          have HKM := Lib.hid hK
          have hK0 : K = 0 ∨ K = 1 ∨ K = 2 ∨ K = 3 ∨ K = 4 ∨ K = 5 ∨ K = 6 := by omega
          clear hr hb hC hbx2 hnv
          rw [HNV.out]
          go_upto_block 2 with fail
          go_cut [8, 39] (fun s8 s39 wx => Hid (EdS w2 F p m i nw' kd n wt V s8 wx))
          case first =>
            rcases hK0 with rfl | rfl | rfl | rfl | rfl | rfl | rfl
            · as_aux_lemma =>
              have HC := Lib.hid (msadd HS2.out HGr.out nw')
              have hpg := pg_add HGr.out htn2 hw9 (by omega)
              have hed := edge_add (kd := kd % 7) (n := n) (wt := wt) (nw := nw') HGr.out
              have hla2 : (pAdd nw' last V).2.1 ≤ (i : Int) + 1 := by have := add_last nw' last V; omega
              rw [HLAT.out] at HC
              obtain ⟨R, hR⟩ : ∃ R, pAdd nw' last V = R := ⟨_, rfl⟩
              rw [hR] at HC hpg hed hla2
              obtain ⟨⟨an, code⟩, l1, V1⟩ := R
              have HPG := Lib.hid hpg
              have HED := Lib.hid hed
              have HLA := Lib.hid hla2
              have HTL := Lib.hid (show nw' ≤ nw' by omega)
              clear hpg hed hla2 hR
              dsimp only at HC HPG HED HLA
              go_wp2_with fail
              refine HC.out.mono ?_
              rintro e w3 ⟨rfl, hr3⟩
              have HF := Lib.hid (EdS.mk2 hr3 HPG.out HTL.out HLA.out HED.out)
              clear hr3
              go_wp2_with fail
              go_meet
              exact HF
            · as_aux_lemma =>
              have HC := Lib.hid (msup HS2.out HGr.out nw' n ic hic)
              have hpg := pg_up HGr.out htn2 hw9 n ic hic
              have hed := edge_up (kd := kd % 7) (n := n) (wt := wt) (nw := nw') HGr.out ic
              have hla2 : last ≤ (i : Int) + 1 := by omega
              rw [HLAT.out] at HC
              obtain ⟨R, hR⟩ : ∃ R, pUp nw' n ic V = R := ⟨_, rfl⟩
              rw [hR] at HC hpg hed
              obtain ⟨⟨an, code⟩, V1⟩ := R
              have HPG := Lib.hid hpg
              have HED := Lib.hid hed
              have HLA := Lib.hid hla2
              have HTL := Lib.hid (show nw' ≤ nw' by omega)
              clear hpg hed hla2 hR
              dsimp only at HC HPG HED HLA
              go_wp2_with fail
              refine HC.out.mono ?_
              rintro e w3 ⟨rfl, hr3⟩
              have HF := Lib.hid (EdS.mk2 hr3 HPG.out HTL.out HLA.out HED.out)
              clear hr3
              go_wp2_with fail
              go_meet
              exact HF
            · as_aux_lemma =>
              have HC := Lib.hid (mslost HS2.out nw' n)
              have hpg := pg_leave HGr.out htn2 hw9 4 n (by omega)
              have hed := edge_leave (kd := kd % 7) (n := n) (wt := wt) (nw := nw') HGr.out 4 (.inr rfl)
              have hla2 : last ≤ (i : Int) + 1 := by omega
              rw [HLAT.out] at HC
              obtain ⟨R, hR⟩ : ∃ R, pLeave 4 nw' n V = R := ⟨_, rfl⟩
              rw [hR] at HC hpg hed
              obtain ⟨code, V1⟩ := R
              have HPG := Lib.hid hpg
              have HED := Lib.hid hed
              have HLA := Lib.hid hla2
              have HTL := Lib.hid (show nw' ≤ nw' by omega)
              clear hpg hed hla2 hR
              dsimp only at HC HPG HED HLA
              go_wp2_with fail
              refine HC.out.mono ?_
              rintro e w3 ⟨rfl, hr3⟩
              have HF := Lib.hid (EdS.mk2 hr3 HPG.out HTL.out HLA.out HED.out)
              clear hr3
              go_wp2_with fail
              go_meet
              exact HF
            · as_aux_lemma =>
              have HC := Lib.hid (msdrain HS2.out nw' n)
              have hpg := pg_leave HGr.out htn2 hw9 3 n (by omega)
              have hed := edge_leave (kd := kd % 7) (n := n) (wt := wt) (nw := nw') HGr.out 3 (.inl rfl)
              have hla2 : last ≤ (i : Int) + 1 := by omega
              rw [HLAT.out] at HC
              obtain ⟨R, hR⟩ : ∃ R, pLeave 3 nw' n V = R := ⟨_, rfl⟩
              rw [hR] at HC hpg hed
              obtain ⟨code, V1⟩ := R
              have HPG := Lib.hid hpg
              have HED := Lib.hid hed
              have HLA := Lib.hid hla2
              have HTL := Lib.hid (show nw' ≤ nw' by omega)
              clear hpg hed hla2 hR
              dsimp only at HC HPG HED HLA
              go_wp2_with fail
              refine HC.out.mono ?_
              rintro e w3 ⟨rfl, hr3⟩
              have HF := Lib.hid (EdS.mk2 hr3 HPG.out HTL.out HLA.out HED.out)
              clear hr3
              go_wp2_with fail
              go_meet
              exact HF
            · as_aux_lemma =>
              have HC := Lib.hid (msremove HS2.out HGr.out nw' n wt)
              have hpg := pg_rem HGr.out htn2 hw9 n wt
              have hed : Edge (kd % 7) n wt nw' (pRem nw' n wt V).1 V (pRem nw' n wt V).2 := by rw [HKM.out]; exact edge_rem HGr.out
              have hla2 : last ≤ (i : Int) + 1 := by omega
              rw [HLAT.out] at HC
              obtain ⟨R, hR⟩ : ∃ R, pRem nw' n wt V = R := ⟨_, rfl⟩
              rw [hR] at HC hpg hed
              obtain ⟨code, V1⟩ := R
              have HPG := Lib.hid hpg
              have HED := Lib.hid hed
              have HLA := Lib.hid hla2
              have HTL := Lib.hid (show nw' ≤ nw' by omega)
              clear hpg hed hla2 hR
              dsimp only at HC HPG HED HLA
              go_wp2_with fail
              refine HC.out.mono ?_
              rintro e w3 ⟨rfl, hr3⟩
              have HF := Lib.hid (EdS.mk2 hr3 HPG.out HTL.out HLA.out HED.out)
              clear hr3
              go_wp2_with fail
              go_meet
              exact HF
            · as_aux_lemma =>
              have HC := Lib.hid (msbind HS2.out HGr.out n by_)
              have hpg := pg_bind HGr.out n by_
              have hed := edge_bind (kd := kd % 7) (n := n) (wt := wt) (nw := nw') HGr.out by_
              have hla2 : last ≤ (i : Int) + 1 := by omega
              obtain ⟨R, hR⟩ : ∃ R, pBind n by_ V = R := ⟨_, rfl⟩
              rw [hR] at HC hpg hed
              obtain ⟨code, V1⟩ := R
              have HPG := Lib.hid hpg
              have HED := Lib.hid hed
              have HLA := Lib.hid hla2
              have HTL := Lib.hid (show tn ≤ nw' by omega)
              clear hpg hed hla2 hR
              dsimp only at HC HPG HED HLA
              go_wp2_with fail
              refine HC.out.mono ?_
              rintro e w3 ⟨rfl, hr3⟩
              have HF := Lib.hid (EdS.mk2 hr3 HPG.out HTL.out HLA.out HED.out)
              clear hr3
              go_wp2_with fail
              go_meet
              exact HF
            · as_aux_lemma =>
              have HC := Lib.hid (msup HS2.out HGr.out nw' n ic hic)
              have hpg := pg_up HGr.out htn2 hw9 n ic hic
              have hed := edge_up (kd := kd % 7) (n := n) (wt := wt) (nw := nw') HGr.out ic
              have hla2 : last ≤ (i : Int) + 1 := by omega
              rw [HLAT.out] at HC
              obtain ⟨R, hR⟩ : ∃ R, pUp nw' n ic V = R := ⟨_, rfl⟩
              rw [hR] at HC hpg hed
              obtain ⟨⟨an, code⟩, V1⟩ := R
              have HPG := Lib.hid hpg
              have HED := Lib.hid hed
              have HLA := Lib.hid hla2
              have HTL := Lib.hid (show nw' ≤ nw' by omega)
              clear hpg hed hla2 hR
              dsimp only at HC HPG HED HLA
              go_wp2_with fail
              refine HC.out.mono ?_
              rintro e w3 ⟨rfl, hr3⟩
              have HF := Lib.hid (EdS.mk2 hr3 HPG.out HTL.out HLA.out HED.out)
              clear hr3
              go_wp2_with fail
              go_meet
              exact HF
          case rest => as_aux_lemma =>
            obtain ⟨code, tn1, last1, V1, rfl, hS3, hT3, hG3, htn3, hla3, hE3⟩ := hcut.out
            obtain ⟨w3, hw3⟩ : ∃ w3, w3 = wc := ⟨_, rfl⟩
            subst hw3
            have HS3 := Lib.hid hS3
            have HG3 := Lib.hid hG3
            have HE3 := Lib.hid hE3
            have HFB := Lib.hid (show ∀ k, Nw w2 w3 F k → w.heap.size ≤ k from fun k hk => by
              rcases hk with hk | hk
              · exact HFr.out k hk
              · have := HB2.out.size; omega)
            have HB3 := Lib.hid (HB2.out.trans (hT3.below (base := w.heap.size) HFr.out HB2.out.size))
            have hpb : w.heap.size ≤ p := HFr.out p HPL.out.1
            have HRW3 := Lib.hid (fun (wy : World) (ht : Tn (fun k => k = p) w3 wy) => show KRp.C wy A V.length V from by
              have h := Kd.R_step (w1 := wy) HRW.out (fun k hk hlt => (ht.block k (Nat.lt_of_lt_of_le hlt hT3.size) (fun e => by have := HPL.out.2; omega)).trans (hT3.block k hlt (fun hf => by have := HFL.out k hf; omega)))
              obtain ⟨A', c', e, -, hC⟩ := Kd.R_reads h
              injection e with e1 e2 e3
              rw [e1]; exact hC)
            have HBX3 := Lib.hid (fun (wy : World) (ht : Tn (fun k => k = p) w3 wy) => show wy.heap[b0]? = some (.cells #[.int .u8 kd, .int .i64 lt, .int .u64 n, .int .u64 ic, .int .i64 wt, .int .i64 by_] 64 (0, 0)) from by
              have hne : b0 ≠ p := fun e => by have := HFb.out p HPL.out.1; omega
              have hl2 := blk_lt HBX2.out
              exact (ht.block b0 (Nat.lt_of_lt_of_le hl2 hT3.size) hne).trans ((hT3.block b0 hl2 (fun hf => by have := HFb.out b0 hf; omega)).trans HBX2.out))
            have hp3 : p < w3.heap.size := HS3.out.p_.2
            clear hS3 hG3 hT3 hE3 hcut z0 z1 z2 z3 z4 z5
            go_wp2_with fail
            go_loopw [91] (fun s91 wy => ∃ j : Nat, s91 = .int .i64 j ∧ j ≤ nv ∧ Hid (MS wy (Nw w2 w3 F) p m tn1 last1 V1) ∧ Hid (Tn (fun k => k = p) w3 wy)) (fun s _ => nv - (intOf s).toNat)
            case atStart => exact ⟨0, rfl, by omega, HS3, Lib.hid (Tn.refl _ _)⟩
            case round =>
              obtain ⟨j, rfl, hj, HSY, HTY⟩ := hrel
              by_cases hjn : j < nv
              · obtain ⟨ad2, x2, eA, hxj, c0, c1, c2, c3, c4⟩ := rps_at (HRW3.out wr HTY.out) j (by rw [HNV.out]; exact hjn)
                subst eA
                obtain ⟨id, st, inc, bd, si⟩ := x2
                have hed := HE3.out _ (List.mem_of_getElem? hxj)
                have hsi := (HGr.out.el _ (List.mem_of_getElem? hxj)).2.2.2.2.2
                dsimp only at hed c0 c1 c2 c3 c4 hsi
                obtain ⟨hs1, hs2⟩ := hsi
                have hs3 : si ≤ nw' := by omega
                obtain ⟨Y1, hY1⟩ : ∃ Y1, wr.alloc (.cells #[.int .u64 id, .int .i64 st, .int .u64 inc, .int .i64 bd, .int .i64 si] 75) = Y1 := ⟨_, rfl⟩
                obtain ⟨g1, hg1⟩ : ∃ g1, wr.heap.size = g1 := ⟨_, rfl⟩
                have hbY := below_alloc (Below.refl wr.heap.size wr) (.cells #[.int .u64 id, .int .i64 st, .int .u64 inc, .int .i64 bd, .int .i64 si] 75)
                have hbxY := heap_alloc_new wr (.cells #[.int .u64 id, .int .i64 st, .int .u64 inc, .int .i64 bd, .int .i64 si] 75)
                rw [hY1] at hbY hbxY
                rw [hg1] at hbxY
                have HSY1 := Lib.hid (HSY.out.below hbY)
                have HTY1 := Lib.hid (HTY.out.bel hbY)
                have HAX := Lib.hid hbxY
                have hg1p : g1 ≠ p := fun e => by have := HTY.out.size; omega
                have a0 : Y1.cell? ⟨g1, 0, none⟩ = some (.int .u64 id) := blk_cell hbxY 0
                clear hbY hbxY hxj
                have HAT := Lib.hid (fun (Y2 : World) (ht : Tn (fun k => k = p) Y1 Y2) (o : Obj) => show (Y2.alloc o).heap[g1]? = some (.cells #[.int .u64 id, .int .i64 st, .int .u64 inc, .int .i64 bd, .int .i64 si] 75 (0, 0)) from
                  blk_below ((ht.block g1 (blk_lt HAX.out) hg1p).trans HAX.out) (below_alloc (Below.refl _ _) o))
                have HBT := Lib.hid (fun (Y2 : World) (ht : Tn (fun k => k = p) Y1 Y2) (o : Obj) => HBX3.out (Y2.alloc o) ((HTY1.out.trans ht (fun k hk => .inl hk)).bel (below_alloc (Below.refl _ _) o)))
                rcases hed with ⟨hl, rfl, hk4, rfl, hrb⟩ | ⟨r, hl, h1, h2, h3, h4, h5⟩
                · as_aux_lemma =>
                  have HC := Lib.hid (msget_none HSY1.out HG3.out.now0 id hl)
                  obtain ⟨rfl, hrb⟩ := hrb
                  dsimp only at hrb
                  unfold r4A at HC
                  dsimp only at HC
                  have HRB := Lib.hid hrb
                  clear hl hrb
                  go_wp2_with fail
                  clear hY1 hg1
                  refine HC.out.mono ?_
                  rintro e Y2 ⟨rfl, hS4, hT4⟩
                  have HS4 := Lib.hid (hS4.below (below_alloc (Below.refl Y2.heap.size Y2) (.cells #[.int .u64 0, .int .i64 0, .int .u64 0, .int .i64 0, .int .i64 0] 75)))
                  have HT4 := Lib.hid ((HTY1.out.trans hT4 (fun k hk => .inl hk)).bel (below_alloc (Below.refl Y2.heap.size Y2) (.cells #[.int .u64 0, .int .i64 0, .int .u64 0, .int .i64 0, .int .i64 0] 75)))
                  have hA := HAT.out Y2 hT4 (.cells #[.int .u64 0, .int .i64 0, .int .u64 0, .int .i64 0, .int .i64 0] 75)
                  have hB := HBT.out Y2 hT4 (.cells #[.int .u64 0, .int .i64 0, .int .u64 0, .int .i64 0, .int .i64 0] 75)
                  have a1 := blk_cell hA 0
                  have a2 := blk_cell hA 1
                  have a3 := blk_cell hA 2
                  have a4 := blk_cell hA 3
                  have a5 := blk_cell hA 4
                  have b1 := blk_cell hB 0
                  have b2 := blk_cell hB 1
                  have b3 := blk_cell hB 2
                  have b4 := blk_cell hB 3
                  have b5 := blk_cell hB 4
                  clear hA hB hS4 hT4 a0 c0 c1 c2 c3 c4
                  by_cases hb0 : 0 < bd
                  · have hb1 : ¬ nw' - si < wt := fun h => HRB.out ⟨hb0, h⟩
                    go_wp2_with fail
                    go_roundw
                    case rel => exact ⟨j + 1, by go_num, by omega, HS4, HT4⟩
                    case measure => simp [intOf]; omega
                  · go_wp2_with fail
                    go_roundw
                    case rel => exact ⟨j + 1, by go_num, by omega, HS4, HT4⟩
                    case measure => simp [intOf]; omega
                · as_aux_lemma =>
                  have HC := Lib.hid (msget_some HSY1.out HG3.out.now0 id r hl)
                  obtain ⟨rs, ri, rb, rn⟩ := r
                  unfold r4A at HC
                  dsimp only at HC h1 h2 h3 h4 h5
                  have H1 := Lib.hid h1
                  have H2 := Lib.hid h2
                  have H4 := Lib.hid h4
                  clear hl h1 h2 h4
                  go_wp2_with fail
                  clear hY1 hg1
                  refine HC.out.mono ?_
                  rintro e Y2 ⟨rfl, hS4, hT4⟩
                  obtain ⟨Y3, hY3⟩ : ∃ Y3, Y2.alloc (.cells #[.int .u64 id, .int .i64 rs, .int .u64 ri, .int .i64 rb, .int .i64 rn] 75) = Y3 := ⟨_, rfl⟩
                  obtain ⟨g2, hg2⟩ : ∃ g2, Y2.heap.size = g2 := ⟨_, rfl⟩
                  have hbZ := below_alloc (Below.refl Y2.heap.size Y2) (.cells #[.int .u64 id, .int .i64 rs, .int .u64 ri, .int .i64 rb, .int .i64 rn] 75)
                  have hbxZ := heap_alloc_new Y2 (.cells #[.int .u64 id, .int .i64 rs, .int .u64 ri, .int .i64 rb, .int .i64 rn] 75)
                  have hA := HAT.out Y2 hT4 (.cells #[.int .u64 id, .int .i64 rs, .int .u64 ri, .int .i64 rb, .int .i64 rn] 75)
                  have hB := HBT.out Y2 hT4 (.cells #[.int .u64 id, .int .i64 rs, .int .u64 ri, .int .i64 rb, .int .i64 rn] 75)
                  rw [hY3] at hbZ hbxZ hA hB
                  rw [hg2] at hbxZ
                  have HS4 := Lib.hid (hS4.below hbZ)
                  have HT4 := Lib.hid ((HTY1.out.trans hT4 (fun k hk => .inl hk)).bel hbZ)
                  have a1 := blk_cell hA 0
                  have a2 := blk_cell hA 1
                  have a3 := blk_cell hA 2
                  have a4 := blk_cell hA 3
                  have a5 := blk_cell hA 4
                  have b1 := blk_cell hB 0
                  have b2 := blk_cell hB 1
                  have b3 := blk_cell hB 2
                  have b4 := blk_cell hB 3
                  have b5 := blk_cell hB 4
                  have r1 := blk_cell hbxZ 0
                  have r2 := blk_cell hbxZ 1
                  have r3 := blk_cell hbxZ 2
                  have r4 := blk_cell hbxZ 3
                  have r5 := blk_cell hbxZ 4
                  clear hA hB hS4 hT4 hbZ hbxZ a0 c0 c1 c2 c3 c4
                  by_cases hsame : ((rs, ri, rb, rn) : R4) = (st, inc, bd, si)
                  · injection hsame with e1 hsame
                    injection hsame with e2 hsame
                    injection hsame with e3 e4
                    subst e1 e2 e3 e4
                    have hneq := neqRp_same Y3 id (rs, ri, rb, rn)
                    have heq1 := eqRp_all Y3 id (rs, ri, rb, rn)
                    have heq2 := eqRp_one Y3 id (rs, ri, rb, rn)
                    dsimp only at hneq heq1 heq2
                    have hd0 : (rs == rs) = true := by simp
                    clear h3
                    by_cases hc0 : code = 0
                    · subst hc0
                      by_cases hid : id = n
                      · as_aux_lemma =>
                        subst hid
                        clear hneq
                        go_wp2_with fail
                        go_roundw
                        case rel => exact ⟨j + 1, by go_num, by omega, HS4, HT4⟩
                        case measure => simp [intOf]; omega
                      · as_aux_lemma =>
                        have hdi : (id == n) = false := by simpa using hid
                        go_wp2_with fail
                        go_roundw
                        case rel => exact ⟨j + 1, by go_num, by omega, HS4, HT4⟩
                        case measure => simp [intOf]; omega
                    · have hdc : (code == 0) = false := by simpa using hc0
                      by_cases hid : id = n
                      · as_aux_lemma =>
                        subst hid
                        go_wp2_with fail
                        go_roundw
                        case rel => exact ⟨j + 1, by go_num, by omega, HS4, HT4⟩
                        case measure => simp [intOf]; omega
                      · as_aux_lemma =>
                        have hdi : (id == n) = false := by simpa using hid
                        go_wp2_with fail
                        go_roundw
                        case rel => exact ⟨j + 1, by go_num, by omega, HS4, HT4⟩
                        case measure => simp [intOf]; omega
                  · have hcode : code = 0 := Classical.byContradiction (fun h => hsame (H1.out h))
                    have hidn : id = n := Classical.byContradiction (fun h => hsame (H4.out h))
                    subst hcode hidn
                    clear hsame
                    by_cases hst : st = rs
                    · subst hst
                      go_wp2_with fail
                      go_roundw
                      case rel => exact ⟨j + 1, by go_num, by omega, HS4, HT4⟩
                      case measure => simp [intOf]; omega
                    · have HGO := Lib.hid (goes_any Y3 st rs (H2.out hst))
                      have hd : (st == rs) = false := by simpa using hst
                      have hd2 : (st != rs) = true := by simpa using hst
                      clear hst
                      go_wp2_with fail
                      clear hY3 hg2
                      refine HGO.out.mono ?_
                      rintro e w' ⟨rfl, rfl⟩
                      go_wp2_with fail
                      go_roundw
                      case rel => exact ⟨j + 1, by go_num, by omega, HS4, HT4⟩
                      case measure => simp [intOf]; omega
              · as_aux_lemma =>
                have hjn2 : j = nv := by omega
                subst hjn2
                have HBY := Lib.hid (HB3.out.trans (HTY.out.below (base := w.heap.size) (fun k hk => by subst hk; exact hpb) HB3.out.size))
                have HA1 := Lib.hid (msall HSY.out HG3.out)
                go_wp2_with fail
                refine HA1.out.mono ?_
                rintro e w5 ⟨v5, rfl, hr5, hb5⟩
                obtain ⟨A5, c5, e5, -, -⟩ := Kd.R_reads hr5
                subst e5
                have HS5 := Lib.hid (HSY.out.below hb5)
                have HB5 := Lib.hid (below_then HBY.out HBY.out.size hb5)
                obtain ⟨n1, hn1⟩ : ∃ n1, V1.length = n1 := ⟨_, rfl⟩
                have hn8 : n1 ≤ 8 := by rw [← hn1]; exact HG3.out.len
                have hlv : liveN V1 ≤ n1 := by rw [← hn1]; exact liveN_le V1
                have HL5 := Lib.hid (mslive HS5.out HG3.out)
                obtain ⟨lv, hlv9⟩ : ∃ lv, liveN V1 = lv := ⟨_, rfl⟩
                rw [hlv9] at HL5 hlv
                have HN1 := Lib.hid hn1
                rw [hn1]
                clear hr5 hb5 hn1 hlv9
                go_wp2_with fail
                refine HL5.out.mono ?_
                rintro e w6 ⟨rfl, hb6⟩
                have HS6 := Lib.hid (HS5.out.below hb6)
                have HB6 := Lib.hid (below_then HB5.out HB5.out.size hb6)
                have HA6 := Lib.hid (msall HS6.out HG3.out)
                clear hb6
                go_wp2_with fail
                refine HA6.out.mono ?_
                rintro e w7 ⟨v7, rfl, hr7, hb7⟩
                obtain ⟨A7, c7, e7, -, -⟩ := Kd.R_reads hr7
                subst e7
                have HS7 := Lib.hid (HS6.out.below hb7)
                have HB7 := Lib.hid (below_then HB6.out HB6.out.size hb7)
                rw [HN1.out]
                clear hr7 hb7
                go_wp2_with fail
                go_roundw
                case rel => exact ⟨i + 1, nw', rfl, by go_num, by omega, Lib.hid ⟨_, tn1, last1, V1, HS7.out, HG3.out, HFB.out, HB7.out, by omega, htn3, by omega⟩⟩
                case measure => simp [intOf]; omega
    · have hiM2 : i = M := by omega
      subst hiM2
      go_wp2_with fail
      refine (alive24_any wr).mono ?_
      rintro e w4 ⟨rfl, hb⟩
      have HB4 := Lib.hid (below_then HBr.out HBr.out.size hb)
      clear hb
      go_wp2_with fail
      go_ret
      exact ⟨rfl, HB4.out⟩

set_option maxRecDepth 100000 in
theorem lifted (os : Os) (started : os.Started) (H : Type) (enc : TypeId × Value → H) :
    ReturnsInHanded {} Try.checked os 6 .any (Rows.memberEdgesSpec.pre6 enc Try.prog Try.f6 Rows.memberEdgesRow.domain false) (Rows.memberEdgesSpec.post enc Try.prog Try.f6 false true false false) := by
  refine returnsInHanded_of_change (C := Try.checked) own started (by kernel_rfl) Try.func6
    (ChangeSpec.witness6 (enc := enc) (C := Try.checked) false ⟨#[], #[.slice none 0 0], []⟩ 8 (by kernel_rfl) (by kernel_rfl) (by kernel_rfl) (by kernel_rfl)) ?_
  intro W base args ds gs before hval0 hW hcnd _
  have hval : ∀ (j : Nat) t v, Try.f6.params[j]? = some t → args[j]? = some v → Value.okWide Try.prog W .any base t v := hval0
  have hW' := hW
  obtain ⟨p, q, hA0, hV, rfl, hfz, hnd⟩ := hW
  have hA : DataW.TrodAll enc Try.prog W 0 (fun _ => true) true Try.f6.params.toList args.toList ds p := hA0
  rw [Try.params6] at hA hval
  obtain ⟨v0, vs0, d0, ds0, p0, q0, hargs, rfl, rfl, h0, r0⟩ := trodAll_cons hA
  obtain ⟨rfl, rfl, rfl⟩ := trodAll_nil r0
  obtain rfl : args = #[v0] := by cases args; simp_all
  obtain ⟨rfl, rfl⟩ := trodVars_none hV
  have k0 := h0
  have lt0 : ∀ x ∈ p0, x.block < W.heap.size := by obtain ⟨m, hm⟩ := k0; exact DataW.trod_lt m _ _ _ hm
  obtain ⟨a0, len0, cap0, rfl⟩ := okWide_slice Try.underlying59 (hval 0 59 v0 rfl rfl)
  obtain ⟨x0, y0, g0⟩ : ∃ x, (Kd.slice 64 KMStep).K W x [.slice a0 len0 cap0] ∧ (fun xs => (∀ x ∈ xs, MStepG x) ∧ xs.length ≤ maxLen) x := by obtain ⟨m, hm⟩ := k0; exact op_msteps _ _ _ m _ _ hm
  clear hA0 hval0
  refine (walk a0 len0 cap0 x0 W y0 g0).mono fun e W' ⟨he, bel⟩ => ?_
  subst he
  exact ⟨_, rfl, _, _, _, [], _, [], hW', trodAll_mk1 (shut_bool Try.underlying4 _), (trodAll_cons_mk (Below.trod laidOut (by kernel_rfl) (of_decide_eq_true (by kernel_rfl)) k0 bel lt0) trodAll_mk0), rfl, bel.frame _, fun h => by cases h⟩

theorem over : Rows.memberEdgesRow.holds Try.pinned (OpenSpec.ofChange Rows.memberEdgesSpec) :=
  OpenClaim.holds_of_wide 6 Try.f6 rfl rfl rfl rfl rfl rfl rfl ⟨rfl, rfl, rfl, rfl, rfl⟩ rfl rfl rfl rfl rfl (by kernel_rfl) Try.func6 (by kernel_rfl)
    (of_decide_eq_true (by kernel_rfl)) (by unfold Func.isWrapper; first | (rw [if_pos (by decide +kernel)]; kernel_rfl) | (rw [if_neg (by decide +kernel)]; exact ⟨rfl, rfl⟩))
    (fun os started H enc _ => lifted os started H enc)

theorem proved : Rows.MemberEdgesSaid := over
end Go.Proofs.Ytmbhicjjbgbneaa.memberEdges
