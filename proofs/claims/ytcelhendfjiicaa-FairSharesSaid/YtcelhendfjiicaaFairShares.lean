/- As long as two flows wait, what was taken of each is, by its weight, within some turns' worth and two greatest costs of the other's. -/
import Derived.Test.YtcelhendfjiicaaRows
import Derived.WalkKit
import Derived.ProofKit
import Derived.OpenShut
import Derived.ShutString
import Derived.ChangeOld
import Derived.Below
import Derived.Test.YtcelhendfjiicaaOpn
import Derived.Test.YtcelhendfjiicaaFqT
import Derived.Deep.LoopGhost
namespace Go.Proofs.Ytcelhendfjiicaa.fairShares
open Go.ChangeShapes Go.WideShapes Go.ChangeAt Go.RowKit
open Go.ChangeMaps (open_string shut_string)
set_option linter.unusedVariables false
set_option linter.unusedSimpArgs false
open Go.Proofs.YtcelhendfjiicaaW.PrintWords Go.Proofs.YtcelhendfjiicaaW.PrintLast Go.Proofs.YtcelhendfjiicaaW.PrintMore

theorem own : ownKnob Try.prog.godebug = none := by kernel_rfl
theorem laidOut : laidOutB Try.prog = true := by kernel_rfl

set_option maxRecDepth 100000
attribute [local go_sem] gb_max2 gb_min2 gb_max_two gb_min_two gb_max_three gb_min_three
set_option maxHeartbeats 4000000 in
theorem walk (a0 : Int) (cs1 : Array Value) (x1 : List Int) (a2 : Option Addr) (len2 cap2 : Nat) (x2 : List Int) (w : World) (gd0 : (Lit.int .u8 a0).wf = true) (k1 : KTw8.K w x1 cs1.toList) (gd1 : (fun xs => ∀ x ∈ xs, (Lit.int .u8 x).wf = true) x1) (k2 : KB.K w x2 [.slice a2 len2 cap2]) (gd2 : (fun xs => (∀ x ∈ xs, (Lit.int .u8 x).wf = true) ∧ xs.length ≤ maxLen) x2) :
    Calls Try.prog 4 #[.int .u8 a0, .agg cs1, .slice a2 len2 cap2] w fun e w' => e = .returned (.bool true) ∧ Below w.heap.size w w' := by
  obtain ⟨ha0, ha1⟩ := u8wf gd0
  obtain ⟨u0, u1, rfl, rfl⟩ := tw8_cells k1
  have hu0 := u8wf (gd1 u0 (by simp))
  have hu1 := u8wf (gd1 u1 (by simp))
  obtain ⟨rfl, hcx, hx⟩ := slice_came' k2
  obtain ⟨hgd, hml⟩ := gd2
  have HBY := Lib.hid (show ∀ x ∈ x2, 0 ≤ x ∧ x ≤ 255 from fun x hx => u8wf (hgd x hx))
  have HX := Lib.hid (fun (W' : World) (hb : Below w.heap.size w W') => Kd.C_below hx hb)
  obtain ⟨N, hN⟩ : ∃ N, x2.length = N := ⟨_, rfl⟩
  rw [hN] at hcx ⊢
  have HN := Lib.hid hN
  clear k1 k2 gd0 gd1 hgd hx hN hml
  go_enter Try.func4, Try.ntmps4
  have hb := below_alloc (Below.refl w.heap.size w) (.cells #[.int .u8 u0, .int .u8 u1] 34)
  have HB0 := Lib.hid hb
  clear hb
  by_cases hr : N < 1 ∨ 200 < N
  · rcases hr with hr | hr
    all_goals
      go_wp2_with fail
      refine (alive35_any _).mono ?_
      rintro e w3 ⟨rfl, hb⟩
      have HB3 := Lib.hid (below_then HB0.out HB0.out.size hb)
      clear hb
      go_wp2_with fail
      go_ret
      exact ⟨rfl, HB3.out⟩
  · obtain ⟨h1, h2⟩ : 1 ≤ N ∧ N ≤ 200 := by omega
    clear hr
    obtain ⟨ad, had⟩ : ∃ ad, a2 = some ad := by
      obtain ⟨ad, e, -⟩ := u64_at (HX.out w (Below.refl _ _)) 0 (by rw [HN.out]; omega)
      exact ⟨ad, e⟩
    subst had
    obtain ⟨q, hq⟩ : ∃ q, a0 + 1 = q := ⟨_, rfl⟩
    have hq1 : 1 ≤ q := by omega
    have hq2 : q ≤ 256 := by omega
    go_wp2_with fail
    have HQE := Lib.hid hq
    clear hq
    refine (qnew_any _ w.heap.size (by simp) 4096 q (by omega) (by omega) hq1 (by omega)).mono ?_
    rintro e w1 ⟨p, F, rfl, hq, hF, hb⟩
    have hx0 := blk_below (heap_alloc_new w (.cells #[.int .u8 u0, .int .u8 u1] 34)) hb
    have HB1 := Lib.hid (below_then HB0.out HB0.out.size hb)
    have HQ1 := Lib.hid hq
    obtain ⟨c0, hc0⟩ : ∃ c, u0 % 9 + 1 = c := ⟨_, rfl⟩
    obtain ⟨c1, hc1⟩ : ∃ c, u1 % 9 + 1 = c := ⟨_, rfl⟩
    have hcb0 : 1 ≤ c0 ∧ c0 ≤ 9 := by omega
    have hcb1 : 1 ≤ c1 ∧ c1 ≤ 9 := by omega
    have z0 : w1.cell? ⟨w.heap.size, 0, none⟩ = some (.int .u8 u0) := blk_cell hx0 0
    have z1 : w1.cell? ⟨w.heap.size, 1, none⟩ = some (.int .u8 u1) := blk_cell hx0 1
    clear hq hb hF hx0
    go_wp2_with fail
    obtain ⟨w2, hw2⟩ : ∃ w2, w1.alloc (.cells #[.int .i64 c0, .int .i64 c1] 38) = w2 := ⟨_, rfl⟩
    obtain ⟨b10, hb10⟩ : ∃ b, w1.heap.size = b := ⟨_, rfl⟩
    have hb2 : Below w1.heap.size w1 w2 := by rw [← hw2]; exact below_alloc (Below.refl _ _) _
    have hx2 : BxK w2 F b10 (.cells #[.int .i64 c0, .int .i64 c1] 38 (0, 0)) := ⟨by rw [← hw2, ← hb10]; exact heap_alloc_new _ _, fun h => by have := (HQ1.out.flt _ h).2; omega⟩
    have HI := Lib.hid (show QV w2 w.heap.size F p 4096 q false (shL x2 0 0) (wtL c0 c1 0) ∧ BxK w2 F b10 (.cells #[.int .i64 c0, .int .i64 c1] 38 (0, 0)) ∧ Below w.heap.size w w2 from ⟨HQ1.out.below hb2, hx2, below_then HB1.out HB1.out.size hb2⟩)
    try rw [hc0, hc1]
    rw [hw2]
    try rw [hb10]
    clear z0 z1 hw2 hb10 hb2 hx2 hc0 hc1 HQ1 HB1 HB0
    go_loopg [53] 2 (fun gk v wr => ∃ (k : Nat) (F' : Nat → Prop), k + gk = 2 ∧ v = .int .i64 k ∧ Hid (QV wr w.heap.size F' p 4096 q false (if k = 2 then shL x2 1 N else shL x2 k 0) (wtL c0 c1 k) ∧ BxK wr F' b10 (.cells #[.int .i64 c0, .int .i64 c1] 38 (0, 0)) ∧ Below w.heap.size w wr))
    case atStart => exact ⟨0, F, by omega, rfl, HI⟩
    case round =>
      clear HI
      obtain ⟨k, F', hk, rfl, HI⟩ := hrel
      by_cases hk2 : k < 2
      · obtain ⟨ck, hck⟩ : ∃ c, (if k = 0 then c0 else c1) = c := ⟨_, rfl⟩
        have hckb : 1 ≤ ck ∧ ck ≤ 9 := by rw [← hck]; split <;> omega
        have zk : wr.cell? ⟨b10, k, none⟩ = some (.int .i64 ck) := by
          have h := blk_cell HI.out.2.1.1 k
          rw [h, ← hck]
          have : k = 0 ∨ k = 1 := by omega
          rcases this with rfl | rfl <;> rfl
        have hq0 := HI.out.1
        rw [if_neg (by omega)] at hq0
        have HWK := Lib.hid (qweight_ok hq0 k ck ⟨hckb.1, by omega, .inr (by have := wtL_len c0 c1 k; omega)⟩)
        rw [← hck, wtL_put c0 c1 k hk2, hck] at HWK
        have HCK := Lib.hid hck
        clear hq0 hck
        go_wp2_with fail
        refine HWK.out.mono ?_
        rintro e w3 ⟨rfl, hq3, hT3⟩
        have HI3 := Lib.hid (show QV w3 w.heap.size F' p 4096 q false (shL x2 k 0) (wtL c0 c1 (k + 1)) ∧ BxK w3 F' b10 (.cells #[.int .i64 c0, .int .i64 c1] 38 (0, 0)) ∧ Below w.heap.size w w3 from ⟨hq3, HI.out.2.1.qr hT3 (fun _ h => .inl h), HI.out.2.2.trans (hT3.below (fun k hk => (HI.out.1.flt k hk).1) HI.out.2.2.size)⟩)
        clear hq3 hT3 zk HWK
        go_wp2_with fail
        obtain ⟨wo, hwo⟩ : ∃ x, x = w3 := ⟨_, rfl⟩
        subst hwo
        have hl0 : (0 : Int) < (N : Int) := by omega
        go_loopg [66] N (fun gk v wr => ∃ (i : Nat) (F2 : Nat → Prop), i + gk = N ∧ v = .int .i64 i ∧ Hid (QV wr w.heap.size F2 p 4096 q false (shL x2 k i) (wtL c0 c1 (k + 1)) ∧ BxK wr F2 b10 (.cells #[.int .i64 c0, .int .i64 c1] 38 (0, 0)) ∧ Below w.heap.size w wr))
        case atStart => exact ⟨0, F', by omega, rfl, HI3⟩
        case round =>
          clear HI3 HI
          obtain ⟨i, F2, hik, rfl, HI⟩ := hrel
          by_cases hi : i < N
          · obtain ⟨ad', e1, hcell⟩ := u64_at (HX.out wr HI.out.2.2) i (by rw [HN.out]; exact hi)
            injection e1 with e1
            subst e1
            obtain ⟨c, hc⟩ : ∃ c, x2.getD i 0 = c := ⟨_, rfl⟩
            have hcb : 0 ≤ c ∧ c ≤ 255 := by
              rw [← hc, List.getD_eq_getElem?_getD, List.getElem?_eq_getElem (by rw [HN.out]; exact hi)]
              exact HBY.out _ (List.getElem_mem _)
            obtain ⟨ht, hl⟩ := shL_tot x2 k i hk2
            obtain ⟨m, hm⟩ : ∃ m, k * i = m := ⟨_, rfl⟩
            have hm9 : m ≤ 200 := by
              have : k = 0 ∨ k = 1 := by omega
              rcases this with rfl | rfl <;> omega
            have hprod : (k : Int) * (i : Int) = (m : Int) := by rw [← hm]; exact (Int.natCast_mul k i).symm
            have hkN : k * N ≤ 200 := by
              have : k = 0 ∨ k = 1 := by omega
              rcases this with rfl | rfl <;> omega
            rw [HN.out] at ht
            have hp := qpush_ok HI.out.1 (shItem k i c) (by unfold shItem; dsimp only; omega) (by unfold shItem; dsimp only; omega) (by rw [ht]; omega) (by rw [ht]; omega) (by omega)
            rw [← hc, shL_push x2 k i hk2, hc] at hp
            unfold shItem at hp
            rw [hm] at hp
            dsimp only at hp
            have HP := Lib.hid hp
            rw [hc] at hcell
            clear hp ht hl hc hm hkN
            go_wp2_with fail
            refine HP.out.mono ?_
            rintro e w4 ⟨rfl, F3, hq4, hF4, hT4⟩
            have HI4 := Lib.hid (show QV w4 w.heap.size F3 p 4096 q false (shL x2 k (i + 1)) (wtL c0 c1 (k + 1)) ∧ BxK w4 F3 b10 (.cells #[.int .i64 c0, .int .i64 c1] 38 (0, 0)) ∧ Below w.heap.size w w4 from ⟨hq4, HI.out.2.1.qr hT4 hF4, HI.out.2.2.trans (hT4.below (fun k hk => (HI.out.1.flt k hk).1) HI.out.2.2.size)⟩)
            clear hq4 hF4 hT4 hprod
            go_wp2_with fail
            go_roundg (N - (i + 1))
            case measure => omega
            case rel => exact ⟨i + 1, F3, by omega, by go_num, HI4⟩
          · obtain rfl : N = i := by omega
            have HI4 := Lib.hid (show QV wr w.heap.size F2 p 4096 q false (if k + 1 = 2 then shL x2 1 N else shL x2 (k + 1) 0) (wtL c0 c1 (k + 1)) ∧ BxK wr F2 b10 (.cells #[.int .i64 c0, .int .i64 c1] 38 (0, 0)) ∧ Below w.heap.size w wr from ⟨by
              have h := HI.out.1
              have hk' : k = 0 ∨ k = 1 := by omega
              rcases hk' with rfl | rfl
              · rw [if_neg (by omega)]
                rw [← HN.out, shL_next x2 (by rw [HN.out]; omega)] at h
                exact h
              · rw [if_pos rfl]
                exact h, HI.out.2⟩)
            go_wp2_with fail
            go_roundg (2 - (k + 1))
            case measure => omega
            case rel => exact ⟨k + 1, F2, by omega, by go_num, HI4⟩
      · obtain rfl : k = 2 := by omega
        have hs := shL_start x2 (by rw [HN.out]; omega) HBY.out c0 c1 q
        have ht := shL_tot x2 1 N (by omega)
        have hq := HI.out.1
        rw [if_pos rfl] at hq
        rw [HN.out] at hs ht
        obtain ⟨l0, hl0⟩ : ∃ l, shL x2 1 N = l := ⟨_, rfl⟩
        rw [hl0] at hs ht hq
        have hlen : l0.length = 2 := by rw [← hl0]; have h := shL_all x2 (by rw [HN.out]; omega); rw [HN.out] at h; rw [h]; rfl
        have HW := Lib.hid (wtL_J c0 c1 (by omega) (by omega) (by omega) (by omega) 2)
        have HWO := Lib.hid (wtL_of c0 c1 (by omega) (by omega))
        obtain ⟨wt, hwt⟩ : ∃ wt, wtL c0 c1 2 = wt := ⟨_, rfl⟩
        rw [hwt] at hq HW HWO
        have HQ := Lib.hid hq
        have HS := Lib.hid hs
        have HTT := Lib.hid ht
        have HLN := Lib.hid hlen
        clear hs ht hq hl0 hlen hwt
        go_wp2_with fail
        obtain ⟨W4, hW4⟩ : ∃ W4, wr.alloc (.cells #[.int .i64 0, .int .i64 0] 38) = W4 := ⟨_, rfl⟩
        obtain ⟨b14, hb14⟩ : ∃ b, wr.heap.size = b := ⟨_, rfl⟩
        have hb4 : Below wr.heap.size wr W4 := by rw [← hW4]; exact below_alloc (Below.refl _ _) _
        have HQ4 := Lib.hid (show ShQ w W4 F' p b10 b14 q c0 c1 0 0 wt false l0 from ⟨HQ.out.below hb4, HS.out.1, by have h := HS.out.2.1; simpa using h, HS.out.2.2, HLN.out, HI.out.2.1.below hb4, ⟨by rw [← hW4, ← hb14]; exact heap_alloc_new _ _, fun h => by have := (HQ.out.flt _ h).2; omega⟩, fun e => by have := blk_lt HI.out.2.1.1; omega, by rw [← hb14]; exact HI.out.2.2.size, below_then HI.out.2.2 HI.out.2.2.size hb4, by have h := HTT.out.1; omega⟩)
        rw [hW4]
        try rw [hb14]
        have HT4 := Lib.hid (show totF l0 ≤ 400 by have h := HTT.out.1; omega)
        clear hW4 hb14 hb4 HS HTT HLN HQ HI hk2
        obtain ⟨cc, hcc⟩ : ∃ c : Int × Int × Int, (c0 * c1, 3 * c0 * c1, 3 * c0 * c1 * q) = c := ⟨_, rfl⟩
        obtain ⟨P0, P1, P2⟩ := cc
        simp only [Prod.mk.injEq] at hcc
        obtain ⟨hP0, hP1, hP2⟩ := hcc
        have hP0b : 0 ≤ P0 ∧ P0 ≤ 81 := by
          rw [← hP0]
          exact ⟨Int.mul_nonneg (by omega) (by omega), by have := Int.mul_le_mul hcb0.2 hcb1.2 (by omega) (by omega); omega⟩
        have hP1e : P1 = 3 * P0 := by rw [← hP1, ← hP0, Int.mul_assoc]
        have hP2b : 0 ≤ P2 ∧ P2 ≤ 62208 := by
          rw [← hP2, hP1]
          exact ⟨Int.mul_nonneg (by omega) (by omega), by have := Int.mul_le_mul (show P1 ≤ 243 by omega) hq2 (by omega) (by omega); omega⟩
        have hwP1 : IntKind.i64.wrap (3 * c0 * c1) = P1 := by rw [hP1]; unfold IntKind.wrap; simp [IntKind.bits, IntKind.signed]; omega
        have hwP2 : IntKind.i64.wrap (P1 * q) = P2 := by rw [← hP1, hP2]; unfold IntKind.wrap; simp [IntKind.bits, IntKind.signed]; omega
        have HP2 := Lib.hid hP2
        clear hP0 hP1 hP2 hP1e hP0b
        go_loopg [] 400 (fun gk wr => ∃ (F' : Nat → Prop) (l : List Fl) (b : Bool) (tk0 tk1 : Int), totF l ≤ gk ∧ Hid (ShQ w wr F' p b10 b14 q c0 c1 tk0 tk1 wt b l))
        case atStart => exact ⟨F', l0, false, 0, 0, HT4.out, HQ4⟩
        case round =>
          clear HQ4 HT4
          obtain ⟨F1, l, b, tk0, tk1, hgk, HI⟩ := hrel
          obtain ⟨m0, hm0⟩ : ∃ m, ofE l 0 = m := ⟨_, rfl⟩
          obtain ⟨m1, hm1⟩ : ∃ m, ofE l 1 = m := ⟨_, rfl⟩
          have HO0 := Lib.hid (qof_any HI.out.Q 0 m0 hm0)
          have HO1 := Lib.hid (qof_any HI.out.Q 1 m1 hm1)
          have HTW := Lib.hid (fun (h0 : 1 < m0) (h1 : 1 < m1) => two_of HI.out.S (by rw [hm0]; exact h0) (by rw [hm1]; exact h1))
          clear hm0 hm1
          by_cases h0 : 1 < m0
          · by_cases h1' : 1 < m1
            · obtain ⟨y, hy⟩ := popRun_some HW.out hq1 (by omega) HI.out.J (fun e => by have h := HI.out.len; rw [e] at h; cases h)
              have hyt := (sh_step HW.out hq1 (by omega) HWO.out.1 HWO.out.2 (by omega) (by omega) HI.out.J HI.out.S HI.out.C (HTW.out h0 h1') _ hy)
              obtain ⟨⟨x1, x2v, x3⟩, b', l'⟩ := y
              obtain ⟨e1, e2, e3, e4, -⟩ := hyt
              dsimp only at e1 e2 e3 e4
              subst e1
              have HPP := Lib.hid (qpop_ok HI.out.Q HW.out hq1 (by omega) HI.out.J (by rw [HI.out.len]; omega) (by have := HI.out.tk; omega) _ hy)
              have HY := Lib.hid hy
              have HT2 := Lib.hid (HTW.out h0 h1')
              unfold popAns at HPP
              dsimp only at HPP
              clear hy HTW
              go_wp2_with fail
              refine HO0.out.mono ?_
              rintro e w' ⟨rfl, rfl⟩
              go_wp2_with fail
              refine HO1.out.mono ?_
              rintro e w' ⟨rfl, rfl⟩
              go_wp2_with fail
              refine HPP.out.mono ?_
              rintro e w5 ⟨rfl, F5, hq5, hF5, hT5⟩
              obtain ⟨W6, hW6⟩ : ∃ W6, w5.alloc (.cells #[.int .u64 x1, .int .i64 x2v, .int .u64 x3] 43) = W6 := ⟨_, rfl⟩
              obtain ⟨xb, hxb⟩ : ∃ b, w5.heap.size = b := ⟨_, rfl⟩
              have hb6 : Below w5.heap.size w5 W6 := by rw [← hW6]; exact below_alloc (Below.refl _ _) _
              have hx6 : W6.heap[xb]? = some (.cells #[.int .u64 x1, .int .i64 x2v, .int .u64 x3] 43 (0, 0)) := by rw [← hW6, ← hxb]; exact heap_alloc_new _ _
              have HQ5 := Lib.hid hq5
              have HF5 := Lib.hid hF5
              have HT5 := Lib.hid hT5
              have HB6 := Lib.hid hb6
              have HX6 := Lib.hid hx6
              have HK14 := Lib.hid ((HI.out.x14.qr hT5 hF5).below hb6)
              have y0 := blk_cell hx6 0
              have y1 := blk_cell hx6 1
              clear hq5 hF5 hT5 hb6 hx6
              rcases e2 with e2 | e2
              · subst e2
                obtain ⟨hI7, htot, hx0, hx9, hlo, hhi⟩ := ShQ.step HI.out HT2.out HY.out HW.out HWO.out hq1 (by omega) (by omega) (by omega) HQ5.out HF5.out HT5.out HB6.out 0 (tk0 + x2v) (tk0 + x2v) (tk1) (.inl ⟨rfl, rfl, rfl, rfl, rfl⟩)
                dsimp only at hx0 hx9
                obtain ⟨ht0, ht1, ht2, ht3⟩ := hI7.tk
                have hx14 := hI7.x14.1
                have hx10 := hI7.x10.1
                have hwv : IntKind.i64.wrap (tk0 + x2v) = tk0 + x2v := by unfold IntKind.wrap; simp [IntKind.bits, IntKind.signed]; omega
                have yk0 : W6.cell? ⟨b14, 0, none⟩ = some (.int .i64 tk0) := blk_cell HK14.out.1 0
                have yk1 : W6.cell? ⟨b14, 1, none⟩ = some (.int .i64 tk1) := blk_cell HK14.out.1 1
                have fk := blk_frozen HK14.out.1 0
                have HI7 := Lib.hid hI7
                have HTT := Lib.hid htot
                obtain ⟨A0, hA0⟩ : ∃ a, (tk0 + x2v) * c1 = a := ⟨_, rfl⟩
                obtain ⟨A1, hA1⟩ : ∃ a, (tk1) * c0 = a := ⟨_, rfl⟩
                have hA0b : 0 ≤ A0 ∧ A0 ≤ 943200 := by
                  rw [← hA0]
                  exact ⟨Int.mul_nonneg ht0 (by omega), by have := Int.mul_le_mul (show tk0 + x2v ≤ 104800 by omega) hcb1.2 (by omega) (by omega); omega⟩
                have hA1b : 0 ≤ A1 ∧ A1 ≤ 943200 := by
                  rw [← hA1]
                  exact ⟨Int.mul_nonneg ht1 (by omega), by have := Int.mul_le_mul (show tk1 ≤ 104800 by omega) hcb0.2 (by omega) (by omega); omega⟩
                have hwA0 : IntKind.i64.wrap ((tk0 + x2v) * c1) = A0 := by rw [hA0]; unfold IntKind.wrap; simp [IntKind.bits, IntKind.signed]; omega
                have hwA1 : IntKind.i64.wrap ((tk1) * c0) = A1 := by rw [hA1]; unfold IntKind.wrap; simp [IntKind.bits, IntKind.signed]; omega
                rw [hA0, hA1, HP2.out] at hlo hhi
                have hd1 : ¬ (P2 + 270 * (c0 + c1) < A0 - A1) := by omega
                have hd2 : ¬ (P2 + 270 * (c0 + c1) < -(A0 - A1)) := by omega
                clear hI7 htot hA0 hA1 hx0 hx9 hlo hhi ht2 ht3
                go_upto_region 25 with fail
                clear hW6 hxb
                go_region_law (fail)
                all_goals
                  obtain ⟨W7, hW7⟩ : ∃ W7, (W6.setCell ⟨b14, 0, none⟩ (.int .i64 (tk0 + x2v))).drew = W7 := ⟨_, rfl⟩
                  rw [hW7] at hx14 hx10 HI7 ⊢
                  have r0 := blk_cell hx14 0
                  have r1 := blk_cell hx14 1
                  have s0 := blk_cell hx10 0
                  have s1 := blk_cell hx10 1
                  clear hW7 hx14 hx10 yk0 yk1 fk hwv y0 y1
                  go_wp2_with fail
                  go_roundg (gk - 1)
                  case measure => have h := HTT.out; omega
                  case rel => exact ⟨F5, l', true, tk0 + x2v, tk1, by have h := HTT.out; omega, HI7⟩
              · subst e2
                obtain ⟨hI7, htot, hx0, hx9, hlo, hhi⟩ := ShQ.step HI.out HT2.out HY.out HW.out HWO.out hq1 (by omega) (by omega) (by omega) HQ5.out HF5.out HT5.out HB6.out 1 (tk1 + x2v) (tk0) (tk1 + x2v) (.inr ⟨rfl, rfl, rfl, rfl, rfl⟩)
                dsimp only at hx0 hx9
                obtain ⟨ht0, ht1, ht2, ht3⟩ := hI7.tk
                have hx14 := hI7.x14.1
                have hx10 := hI7.x10.1
                have hwv : IntKind.i64.wrap (tk1 + x2v) = tk1 + x2v := by unfold IntKind.wrap; simp [IntKind.bits, IntKind.signed]; omega
                have yk0 : W6.cell? ⟨b14, 0, none⟩ = some (.int .i64 tk0) := blk_cell HK14.out.1 0
                have yk1 : W6.cell? ⟨b14, 1, none⟩ = some (.int .i64 tk1) := blk_cell HK14.out.1 1
                have fk := blk_frozen HK14.out.1 1
                have HI7 := Lib.hid hI7
                have HTT := Lib.hid htot
                obtain ⟨A0, hA0⟩ : ∃ a, (tk0) * c1 = a := ⟨_, rfl⟩
                obtain ⟨A1, hA1⟩ : ∃ a, (tk1 + x2v) * c0 = a := ⟨_, rfl⟩
                have hA0b : 0 ≤ A0 ∧ A0 ≤ 943200 := by
                  rw [← hA0]
                  exact ⟨Int.mul_nonneg ht0 (by omega), by have := Int.mul_le_mul (show tk0 ≤ 104800 by omega) hcb1.2 (by omega) (by omega); omega⟩
                have hA1b : 0 ≤ A1 ∧ A1 ≤ 943200 := by
                  rw [← hA1]
                  exact ⟨Int.mul_nonneg ht1 (by omega), by have := Int.mul_le_mul (show tk1 + x2v ≤ 104800 by omega) hcb0.2 (by omega) (by omega); omega⟩
                have hwA0 : IntKind.i64.wrap ((tk0) * c1) = A0 := by rw [hA0]; unfold IntKind.wrap; simp [IntKind.bits, IntKind.signed]; omega
                have hwA1 : IntKind.i64.wrap ((tk1 + x2v) * c0) = A1 := by rw [hA1]; unfold IntKind.wrap; simp [IntKind.bits, IntKind.signed]; omega
                rw [hA0, hA1, HP2.out] at hlo hhi
                have hd1 : ¬ (P2 + 270 * (c0 + c1) < A0 - A1) := by omega
                have hd2 : ¬ (P2 + 270 * (c0 + c1) < -(A0 - A1)) := by omega
                clear hI7 htot hA0 hA1 hx0 hx9 hlo hhi ht2 ht3
                go_upto_region 25 with fail
                clear hW6 hxb
                go_region_law (fail)
                all_goals
                  obtain ⟨W7, hW7⟩ : ∃ W7, (W6.setCell ⟨b14, 1, none⟩ (.int .i64 (tk1 + x2v))).drew = W7 := ⟨_, rfl⟩
                  rw [hW7] at hx14 hx10 HI7 ⊢
                  have r0 := blk_cell hx14 0
                  have r1 := blk_cell hx14 1
                  have s0 := blk_cell hx10 0
                  have s1 := blk_cell hx10 1
                  clear hW7 hx14 hx10 yk0 yk1 fk hwv y0 y1
                  go_wp2_with fail
                  go_roundg (gk - 1)
                  case measure => have h := HTT.out; omega
                  case rel => exact ⟨F5, l', true, tk0, tk1 + x2v, by have h := HTT.out; omega, HI7⟩
            · clear HTW
              go_wp2_with fail
              refine HO0.out.mono ?_
              rintro e w' ⟨rfl, rfl⟩
              go_wp2_with fail
              refine HO1.out.mono ?_
              rintro e w' ⟨rfl, rfl⟩
              go_wp2_with fail
              refine (alive35_any _).mono ?_
              rintro e w3 ⟨rfl, hb⟩
              have HB3 := Lib.hid (below_then HI.out.bel HI.out.bel.size hb)
              clear hb
              go_wp2_with fail
              go_ret
              exact ⟨rfl, HB3.out⟩
          · clear HTW
            go_wp2_with fail
            refine HO0.out.mono ?_
            rintro e w' ⟨rfl, rfl⟩
            go_wp2_with fail
            refine (alive35_any _).mono ?_
            rintro e w3 ⟨rfl, hb⟩
            have HB3 := Lib.hid (below_then HI.out.bel HI.out.bel.size hb)
            clear hb
            go_wp2_with fail
            go_ret
            exact ⟨rfl, HB3.out⟩

set_option maxRecDepth 100000 in
theorem lifted (os : Os) (started : os.Started) (H : Type) (enc : TypeId × Value → H) :
    ReturnsInHanded {} Try.checked os 4 .any (Rows.fairSharesSpec.pre6 enc Try.prog Try.f4 Rows.fairSharesRow.domain false) (Rows.fairSharesSpec.post enc Try.prog Try.f4 false true false false) := by
  refine returnsInHanded_of_change (C := Try.checked) own started (by kernel_rfl) Try.func4
    (ChangeSpec.witness6 (enc := enc) (C := Try.checked) false ⟨#[], #[.int .u8 0, .agg #[.int .u8 0, .int .u8 0], .slice none 0 0], []⟩ 8 (by kernel_rfl) (by kernel_rfl) (by kernel_rfl) (by kernel_rfl)) ?_
  intro W base args ds gs before hval0 hW hcnd _
  have hval : ∀ (j : Nat) t v, Try.f4.params[j]? = some t → args[j]? = some v → Value.okWide Try.prog W .any base t v := hval0
  have hW' := hW
  obtain ⟨p, q, hA0, hV, rfl, hfz, hnd⟩ := hW
  have hA : DataW.TrodAll enc Try.prog W 0 (fun _ => true) true Try.f4.params.toList args.toList ds p := hA0
  rw [Try.params4] at hA hval
  obtain ⟨v0, vs0, d0, ds0, p0, q0, hargs, rfl, rfl, h0, r0⟩ := trodAll_cons hA
  obtain ⟨v1, vs1, d1, ds1, p1, q1, rfl, rfl, rfl, h1, r1⟩ := trodAll_cons r0
  obtain ⟨v2, vs2, d2, ds2, p2, q2, rfl, rfl, rfl, h2, r2⟩ := trodAll_cons r1
  obtain ⟨rfl, rfl, rfl⟩ := trodAll_nil r2
  obtain rfl : args = #[v0, v1, v2] := by cases args; simp_all
  obtain ⟨rfl, rfl⟩ := trodVars_none hV
  have k0 := h0
  have lt0 : ∀ x ∈ p0, x.block < W.heap.size := by obtain ⟨m, hm⟩ := k0; exact DataW.trod_lt m _ _ _ hm
  obtain ⟨a0, rfl, rfl, rfl, g0⟩ := open_int Try.underlying5 (hval 0 5 v0 rfl rfl) h0
  have k1 := h1
  have lt1 : ∀ x ∈ p1, x.block < W.heap.size := by obtain ⟨m, hm⟩ := k1; exact DataW.trod_lt m _ _ _ hm
  obtain ⟨cs1, rfl, _⟩ := okWide_array Try.underlying34 (hval 1 34 v1 rfl rfl)
  obtain ⟨x1, y1, g1⟩ : ∃ x, KTw8.K W x cs1.toList ∧ (fun xs => ∀ x ∈ xs, (Lit.int .u8 x).wf = true) x := by obtain ⟨m, hm⟩ := k1; exact op_tw8 _ _ _ m _ _ hm
  have k2 := h2
  have lt2 : ∀ x ∈ p2, x.block < W.heap.size := by obtain ⟨m, hm⟩ := k2; exact DataW.trod_lt m _ _ _ hm
  obtain ⟨a2, len2, cap2, rfl⟩ := okWide_slice Try.underlying28 (hval 2 28 v2 rfl rfl)
  obtain ⟨x2, y2, g2⟩ : ∃ x, KB.K W x [.slice a2 len2 cap2] ∧ (fun xs => (∀ x ∈ xs, (Lit.int .u8 x).wf = true) ∧ xs.length ≤ maxLen) x := by obtain ⟨m, hm⟩ := k2; exact op_b8 _ _ _ m _ _ hm
  clear hA0 hval0
  refine (walk a0 cs1 x1 a2 len2 cap2 x2 W g0 y1 g1 y2 g2).mono fun e W' ⟨he, bel⟩ => ?_
  subst he
  exact ⟨_, rfl, _, _, _, [], _, [], hW', trodAll_mk1 (shut_bool Try.underlying4 _), (trodAll_cons_mk (Below.trod laidOut (by kernel_rfl) (of_decide_eq_true (by kernel_rfl)) k0 bel lt0) (trodAll_cons_mk (Below.trod laidOut (by kernel_rfl) (of_decide_eq_true (by kernel_rfl)) k1 bel lt1) (trodAll_cons_mk (Below.trod laidOut (by kernel_rfl) (of_decide_eq_true (by kernel_rfl)) k2 bel lt2) trodAll_mk0))), rfl, bel.frame _, fun h => by cases h⟩

theorem over : Rows.fairSharesRow.holds Try.pinned (OpenSpec.ofChange Rows.fairSharesSpec) :=
  OpenClaim.holds_of_wide 4 Try.f4 rfl rfl rfl rfl rfl rfl rfl ⟨rfl, rfl, rfl, rfl, rfl⟩ rfl rfl rfl rfl rfl (by kernel_rfl) Try.func4 (by kernel_rfl)
    (of_decide_eq_true (by kernel_rfl)) (by unfold Func.isWrapper; first | (rw [if_pos (by decide +kernel)]; kernel_rfl) | (rw [if_neg (by decide +kernel)]; exact ⟨rfl, rfl⟩))
    (fun os started H enc _ => lifted os started H enc)

theorem proved : Rows.FairSharesSaid := over
end Go.Proofs.Ytcelhendfjiicaa.fairShares
