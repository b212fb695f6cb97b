/- The contract of vec.Top. -/
import Derived.Test.YtgedmelohiajjaaGbU
import Derived.Test.YtgedmelohiajjaaGbI
import Derived.Test.YtgedmelohiajjaaProg
import Derived.Test.YtgedmelohiajjaaGbB
import Derived.Test.YtgedmelohiajjaaGbW
import Derived.Test.YtgedmelohiajjaaWMore
import Derived.WalkKit
import Derived.KernelRfl
import Derived.Tactics
import Derived.OwnWalk
import Derived.BigQuiet
import Derived.Deep.QuietTactic
import Derived.Lib.Hide
import Derived.Outline
import Derived.StillTailTactics
import Derived.BigRegion
import Derived.Deep.RegionLaw
import Derived.Shelf.Abstract
import Derived.WalkSpells
namespace Go.Proofs.Ytgedmelohiajjaa
open Go.RowKit Go.Shelf Go.Proofs.YtgedmelohiajjaaW.PrintWords Go.Proofs.YtgedmelohiajjaaW.PrintLast Go.Proofs.YtgedmelohiajjaaW.PrintMore
set_option linter.unusedVariables false
set_option linter.unusedSimpArgs false
attribute [local go_sem] gb_max2 gb_min2 gb_max_two gb_min_two gb_max_three gb_min_three

theorem HS.new (W : World) (B : Nat) (hB : B ≤ W.heap.size) : HS ((W.alloc (.cells #[] 64)).alloc (.cells #[.slice (some ⟨W.heap.size, 0, none⟩) 0 0] 61)) B (W.heap.size + 1) (.slice (some ⟨W.heap.size, 0, none⟩) 0 0) [] := by
  refine ⟨by have := heap_alloc_new (W.alloc (.cells #[] 64)) (.cells #[.slice (some ⟨W.heap.size, 0, none⟩) 0 0] 61); simpa using this, ?_, by omega⟩
  have h := World.ownsRow_lit (base := B) (e := 64) (size := 2) W #[] 0 hB (by simp [maxLen]) (by simp)
  exact pw_own_below h ((Below.refl _ _).alloc (Nat.le_refl _) _)

theorem Own.move {w w1 : World} {base e : Nat} {v : Value} {xs : List Int} (h : Own w base e v xs) (hm : ∀ k, v.ownBlock = some k → w1.heap[k]? = w.heap[k]?) : Own w1 base e v xs :=
  Kd.R_of_own (enc := Value.int .i64) (h1 := fun _ => rfl) (own_move (Kd.own_of_R (enc := Value.int .i64) (h1 := fun _ => rfl) h) hm) (fun _ _ => trivial)

set_option maxHeartbeats 1000000 in
theorem top_any (A : Option Addr) (c : Nat) (xs : List Int) (k : Int) (w : World) (hx : (Kd.int .i64).C w A xs.length xs) (hc : xs.length ≤ c) (hn : xs.length ≤ 4096) :
    Calls Try.prog 17 #[.slice A xs.length c, .int .i64 k] w fun e w' => ∃ v, e = .returned v ∧ Own w' w.heap.size 3 v (vtop xs k) ∧ Below w.heap.size w w' := by
  have HX := Lib.hid hx
  have HS0 := Lib.hid (HS.new w w.heap.size (Nat.le_refl _))
  have HB0 := Lib.hid (((Below.refl _ w).alloc (Nat.le_refl _) (.cells #[] 64)).alloc (by simp) (.cells #[.slice (some ⟨w.heap.size, 0, none⟩) 0 0] 61))
  obtain ⟨n, hnn⟩ : ∃ n, xs.length = n := ⟨_, rfl⟩
  rw [hnn] at hc hn ⊢
  have HN := Lib.hid hnn
  clear hx hnn
  go_enter Try.func17, Try.ntmps17
  go_wp2_with fail
  refine (cut_any _ _ _ _ hc hn).mono ?_
  rintro e w' ⟨rfl, rfl⟩
  go_wp2_with fail
  obtain ⟨p, hp⟩ : ∃ p, w.heap.size + 1 = p := ⟨_, rfl⟩
  have HP := Lib.hid hp
  rw [hp] at HS0 ⊢
  clear hp
  go_loopw [17] (fun s wr => ∃ (j : Nat) (v : Value), s = .int .i64 j ∧ j ≤ n ∧ HS wr w.heap.size p v (topSt xs k j) ∧ Below w.heap.size w wr) (fun s _ => n - (intOf s).toNat)
  case atStart => exact ⟨0, _, rfl, by omega, HS0.out, HB0.out⟩
  case round =>
    obtain ⟨j, v, rfl, hj, hs, hb⟩ := hrel
    have HS1 := Lib.hid hs
    have HB1 := Lib.hid hb
    have HL1 := Lib.hid (topSt_len xs k j)
    clear hs hb HS0 HB0
    by_cases hjn : j < n
    · obtain ⟨L, hL⟩ : ∃ L, topSt xs k j = L := ⟨_, rfl⟩
      obtain ⟨ad, ea, hc1⟩ := at_nat (Kd.C_below HX.out HB1.out) j (by rw [HN.out]; exact hjn)
      subst ea
      obtain ⟨x, hxx⟩ : ∃ x, xs.getD j 0 = x := ⟨_, rfl⟩
      rw [hxx] at hc1
      rw [hL] at HS1 HL1
      obtain ⟨L2, hL2⟩ : ∃ L2, hup (L ++ [((j : Int), wi x)]) L.length = L2 := ⟨_, rfl⟩
      have HT := Lib.hid (show topSt xs k (j + 1) = if max k 0 < (L2.length : Int) then hpr L2 else L2 by simp only [topSt]; rw [hL, hxx, hL2])
      have h2len : L2.length = L.length + 1 := by rw [← hL2, hup_len]; simp
      have HL2 := Lib.hid h2len
      have c1 := hpush_any p w.heap.size v L (j : Int) (wi x) wr HS1.out (by have := HL1.out; omega)
      rw [hL2] at c1
      have C1 := Lib.hid c1
      clear hL hxx hL2 h2len c1
      go_wp2_with (go_at_call 50; refine (within_any _ _).mono ?_; rintro e w' ⟨rfl, rfl⟩)
      refine C1.out.mono ?_
      rintro e w2 ⟨v2, rfl, hs2, hb2⟩
      have HS2 := Lib.hid hs2
      have HB2 := Lib.hid (HB1.out.trans hb2)
      clear hs2 hb2 hc1
      by_cases hm : max k 0 < (L2.length : Int)
      · have c2 := hpop_any p w.heap.size v2 L2 w2 HS2.out (by rw [HL2.out]; omega) (by rw [HL2.out]; have := HL1.out; omega)
        have C2 := Lib.hid c2
        have HT2 := Lib.hid (show topSt xs k (j + 1) = hpr L2 by rw [HT.out, if_pos hm])
        clear c2
        go_wp2_with fail
        refine (len_any p w.heap.size v2 L2 w2 HS2.out).mono ?_
        rintro e w' ⟨rfl, rfl⟩
        go_wp2_with fail
        refine C2.out.mono ?_
        rintro e w3 ⟨v3, rfl, hs3, hb3, -, -⟩
        have HS3 := Lib.hid hs3
        have HB3 := Lib.hid (HB2.out.trans hb3)
        clear hs3 hb3
        go_wp2_with fail
        go_roundw
        case rel => exact ⟨j + 1, v3, by go_num, by omega, by rw [HT2.out]; exact HS3.out, HB3.out⟩
        case measure => simp [intOf]; omega
      · have HT2 := Lib.hid (show topSt xs k (j + 1) = L2 by rw [HT.out, if_neg hm])
        go_wp2_with fail
        refine (len_any p w.heap.size v2 L2 w2 HS2.out).mono ?_
        rintro e w' ⟨rfl, rfl⟩
        go_wp2_with fail
        go_roundw
        case rel => exact ⟨j + 1, v2, by go_num, by omega, by rw [HT2.out]; exact HS2.out, HB2.out⟩
        case measure => simp [intOf]; omega
    · obtain rfl : j = n := by omega
      obtain ⟨L, hL⟩ : ∃ L, topSt xs k j = L := ⟨_, rfl⟩
      rw [hL] at HS1 HL1
      have HV := Lib.hid (show vtop xs k = drain L.length L (List.replicate L.length 0) by unfold vtop; rw [HN.out, hL])
      clear hL
      go_wp2_with fail
      refine (len_any p w.heap.size v L wr HS1.out).mono ?_
      rintro e w' ⟨rfl, rfl⟩
      have hmk := print_make (P := Try.prog) 25 3 .i64 8 Try.underlying25 infoInt (by decide) L.length (by have := HL1.out; omega)
      have hm := own_made wr w.heap.size 3 .i64 L.length (by have := HB1.out.size; omega) (by have := HL1.out; omega)
      have HM := Lib.hid hm
      clear hm
      go_wp2_with fail
      obtain ⟨W1, hW1⟩ : ∃ W1, wr.alloc (.cells (madeCells #[.int .i64 0] L.length) 3) = W1 := ⟨_, rfl⟩
      obtain ⟨g, hg⟩ : ∃ g, wr.heap.size = g := ⟨_, rfl⟩
      have HS2 := Lib.hid (show HS W1 w.heap.size p v L by rw [← hW1]; exact HS1.out.below ((Below.refl _ _).alloc (Nat.le_refl _) _))
      have HB2 := Lib.hid (show Below w.heap.size w W1 by rw [← hW1]; exact HB1.out.alloc HB1.out.size _)
      have HO2 := Lib.hid (show Own W1 w.heap.size 3 (.slice (some ⟨g, 0, none⟩) L.length L.length) (List.replicate L.length 0) by
        rw [← hW1, ← hg]; exact Kd.R_of_own (enc := Value.int .i64) (h1 := fun _ => rfl) (by simpa [encs, nums] using HM.out) (fun _ _ => trivial))
      have hgp : g ≠ p := by have := blk_lt HS1.out.box; omega
      have hgv : v.ownBlock ≠ some g := fun e => by have := own_lt HS1.out.row g e; omega
      have hgB : w.heap.size ≤ g := by have := HB1.out.size; omega
      rw [hW1, hg]
      clear hW1 hg HM hmk
      have hta := assert_place
      have hl9 : L.length ≤ 4096 := by have := HL1.out; omega
      obtain ⟨m, hm⟩ : ∃ m, L.length = m := ⟨_, rfl⟩
      rw [hm] at HO2 hl9 HV ⊢
      have HLM := Lib.hid hm
      clear hm HS1 HB1 HL1
      go_wp2_with fail
      go_loopw [9] (fun s wq => ∃ (i : Nat) (v1 : Value) (L1 : List (Int × Int)) (out : List Int), s = .int .i64 ((i : Int) - 1) ∧ i ≤ m ∧ L1.length = i ∧ out.length = m ∧ HS wq w.heap.size p v1 L1 ∧ Own wq w.heap.size 3 (.slice (some ⟨g, 0, none⟩) m m) out ∧ Below w.heap.size w wq ∧ Hid (v1.ownBlock ≠ some g) ∧ Hid (drain i L1 out = vtop xs k)) (fun s _ => (intOf s + 1).toNat)
      case atStart => exact ⟨m, v, L, _, by first | rfl | (congr 1; exact IntWalk.wrap64_in _ ⟨by omega, by omega⟩), by omega, HLM.out, by simp, HS2.out, HO2.out, HB2.out, Lib.hid hgv, Lib.hid HV.out.symm⟩
      case round =>
        obtain ⟨i, v1, L1, out, rfl, hi, hl1, hlo, hs, ho, hb, hv1, hdr⟩ := hrel
        have HS3 := Lib.hid hs
        have HO3 := Lib.hid ho
        have HB3 := Lib.hid hb
        have HLO := Lib.hid hlo
        have HL3 := Lib.hid hl1
        clear hs ho hb HS2 HO2 HB2 hlo
        cases i with
        | zero =>
          have HF := Lib.hid (show out = vtop xs k from hdr.out)
          clear hl1
          go_wp2_with fail
          go_ret
          exact ⟨_, rfl, by rw [← HF.out]; exact HO3.out, HB3.out⟩
        | succ i =>
          rw [show ((i + 1 : Nat) : Int) - 1 = (i : Int) by omega]
          have c1 := hpop_any p w.heap.size v1 L1 wr HS3.out (by omega) (by omega)
          change Calls _ _ _ _ (PopR w.heap.size p v1 wr (hpv L1) (hpr L1)) at c1
          have hd := (show drain i (hpr L1) (out.set i (hpv L1).1) = vtop xs k from hdr.out)
          have h4 := hpr_len L1
          obtain ⟨⟨ax, ay⟩, hax⟩ : ∃ q, hpv L1 = q := ⟨_, rfl⟩
          obtain ⟨L4, hL4⟩ : ∃ q, hpr L1 = q := ⟨_, rfl⟩
          rw [hax, hL4] at hd c1
          rw [hL4, hl1] at h4
          have HL4 := Lib.hid h4
          have HD := Lib.hid hd
          have C1 := Lib.hid c1
          clear hax hL4 hd h4
          clear c1 hl1
          have hi1 : i < m := by omega
          go_wp2_with fail
          refine C1.out.mono ?_
          rintro e w4 ⟨v4, rfl, hs4, hb4, hf4, ho4⟩
          have hlt : g < wr.heap.size := own_lt (Kd.own_of_R (enc := Value.int .i64) (h1 := fun _ => rfl) HO3.out) g (by simp [Value.ownBlock])
          have ho5 := HO3.out.move (w1 := w4) (fun q hq => by
            have : q = g := by simpa [Value.ownBlock] using hq.symm
            subst this
            exact hf4.2 q hlt hgp (fun e => hv1.out e.symm))
          have hlt4 : g < w4.heap.size := Nat.lt_of_lt_of_le hlt hf4.1
          have HV4 := Lib.hid (show v4.ownBlock ≠ some g by rw [ho4]; exact hv1.out)
          obtain ⟨q1, f1⟩ := ho5.at_n HLO.out i hi1
          have HS4 := Lib.hid hs4
          have HB4 := Lib.hid (HB3.out.trans hb4)
          have HO4 := Lib.hid ho5
          have hpp : p < w4.heap.size := blk_lt hs4.box
          clear hs4 hb4 hf4 ho4 ho5 hlt
          obtain ⟨u, hu⟩ : ∃ u, out.getD i 0 = u := ⟨_, rfl⟩
          rw [hu] at q1
          clear hu
          have HN4 := Lib.hid (show p ≠ g from fun e => hgp e.symm)
          go_wp2_with fail
          go_roundw
          case rel => exact ⟨i, v4, L4, out.set i ax, rfl, by omega, HL4.out, by rw [List.length_set]; exact HLO.out, ⟨blk_alloc (blk_far HS4.out.box HN4.out _) _, pw_own_below (own_setCell HS4.out.row (fun e => HV4.out e.symm) _) (below_alloc (Below.refl _ _) _), HS4.out.low⟩, (HO4.out.store_n HLO.out i ax).below ((Below.refl _ _).alloc (Nat.le_refl _) _), (HB4.out.setCell (p := ⟨g, i, none⟩) hgB _).alloc (by have := HB4.out.size; simpa using this) _, HV4, HD⟩
          case measure => (simp [intOf]; try omega)

end Go.Proofs.Ytgedmelohiajjaa
