/- A queue that nobody made has nothing; a flow that was dropped is not there. -/
import Derived.Test.YtcelhendfjiicaaRows
import Derived.WalkKit
import Derived.ProofKit
import Derived.OpenShut
import Derived.ShutString
import Derived.ChangeOld
import Derived.Below
import Derived.Test.YtcelhendfjiicaaOpn
import Derived.Test.YtcelhendfjiicaaFqM
import Derived.Deep.LoopGhost
import Derived.Deep.RegionHeld3
namespace Go.Proofs.Ytcelhendfjiicaa.fairNobody
open Go.ChangeShapes Go.WideShapes Go.ChangeAt Go.RowKit
open Go.ChangeMaps (open_string shut_string)
set_option linter.unusedVariables false
set_option linter.unusedSimpArgs false
open Go.Proofs.YtcelhendfjiicaaW.PrintWords Go.Proofs.YtcelhendfjiicaaW.PrintLast Go.Proofs.YtcelhendfjiicaaW.PrintMore

theorem own : ownKnob Try.prog.godebug = none := by kernel_rfl
theorem laidOut : laidOutB Try.prog = true := by kernel_rfl

set_option maxRecDepth 100000
attribute [local go_sem] gb_max2 gb_min2 gb_max_two gb_min_two gb_max_three gb_min_three
theorem slice_came {α : Type} {e : Nat} {d : Kd α} {w : World} {a : Option Addr} {len cap : Nat} {xs : List α} (h : (Kd.slice e d).K w xs [.slice a len cap]) : len = xs.length ∧ xs.length ≤ cap ∧ d.C w a xs.length xs := by
  obtain ⟨A, c, he, hl, hC⟩ := h
  simp only [List.cons.injEq, Value.slice.injEq, and_true] at he
  obtain ⟨rfl, rfl, rfl⟩ := he
  exact ⟨rfl, hl, hC⟩
set_option maxHeartbeats 4000000 in
theorem walk (cs0 : Array Value) (x0 : FStV) (a1 : Option Addr) (len1 cap1 : Nat) (x1 : List FStV) (w : World) (k0 : KFSt.K w x0 cs0.toList) (gd0 : (FStG) x0) (k1 : (Kd.slice 62 KFSt).K w x1 [.slice a1 len1 cap1]) (gd1 : (fun xs => (∀ x ∈ xs, FStG x) ∧ xs.length ≤ maxLen) x1) :
    Calls Try.prog 9 #[.agg cs0, .slice a1 len1 cap1] w fun e w' => e = .returned (.bool true) ∧ Below w.heap.size w w' := by
  have hcs := fst_cells k0
  subst hcs
  obtain ⟨kd, fl, co, id0⟩ := x0
  dsimp only at *
  obtain ⟨rfl, hcx, hx⟩ := slice_came k1
  obtain ⟨hgd, hml⟩ := gd1
  have HX := Lib.hid (fun (W' : World) (hb : Below w.heap.size w W') => Kd.C_below hx hb)
  have HGD := Lib.hid hgd
  have HSHO := Lib.hid (fun (W' : World) => short35_any a1 x1.length cap1 hcx W')
  obtain ⟨N, hN⟩ : ∃ N, x1.length = N := ⟨_, rfl⟩
  rw [hN] at hcx HSHO ⊢
  have HN := Lib.hid hN
  obtain ⟨M, hM⟩ : ∃ M, min N 120 = M := ⟨_, rfl⟩
  rw [hM] at HSHO
  have hMN : M ≤ N := by omega
  have hM2 : M ≤ 120 := by omega
  clear k0 k1 gd0 hgd hx hN hM hml
  go_enter Try.func9, Try.ntmps9
  obtain ⟨W0, hW0⟩ : ∃ W0, w.alloc (.cells #[.int .u8 kd, .int .u64 fl, .int .i64 co, .int .u64 id0] 62) = W0 := ⟨_, rfl⟩
  obtain ⟨g, hg⟩ : ∃ g, w.heap.size = g := ⟨_, rfl⟩
  have hb0 : Below w.heap.size w W0 := by rw [← hW0]; exact below_alloc (Below.refl _ _) _
  have hx0 : W0.heap[g]? = some (.cells #[.int .u8 kd, .int .u64 fl, .int .i64 co, .int .u64 id0] 62 (0, 0)) := by rw [← hW0, ← hg]; exact heap_alloc_new _ _
  obtain ⟨W1, hW1⟩ : ∃ W1, W0.alloc (.cells #[.int .i64 0, .int .i64 0, .int .i64 0, .map none, .slice none 0 0, .bool false, .map none] 89) = W1 := ⟨_, rfl⟩
  obtain ⟨h0, hh0⟩ : ∃ h, W0.heap.size = h := ⟨_, rfl⟩
  have hb1 : Below W0.heap.size W0 W1 := by rw [← hW1]; exact below_alloc (Below.refl _ _) _
  have hx1 : W1.heap[h0]? = some (.cells #[.int .i64 0, .int .i64 0, .int .i64 0, .map none, .slice none 0 0, .bool false, .map none] 89 (0, 0)) := by rw [← hW1, ← hh0]; exact heap_alloc_new _ _
  obtain ⟨W2, hW2⟩ : ∃ W2, W1.alloc (.cells #[.pointer none, .pointer (some ⟨h0, 0, none⟩)] 35) = W2 := ⟨_, rfl⟩
  obtain ⟨gs, hgs⟩ : ∃ h, W1.heap.size = h := ⟨_, rfl⟩
  have hb2 : Below W1.heap.size W1 W2 := by rw [← hW2]; exact below_alloc (Below.refl _ _) _
  have hx2 : W2.heap[gs]? = some (.cells #[.pointer none, .pointer (some ⟨h0, 0, none⟩)] 35 (0, 0)) := by rw [← hW2, ← hgs]; exact heap_alloc_new _ _
  have HB2 := Lib.hid (below_then (below_then hb0 hb0.size hb1) (Nat.le_trans hb0.size hb1.size) hb2)
  have HG := Lib.hid (blk_below (blk_below hx0 hb1) hb2)
  have HH := Lib.hid (blk_below hx1 hb2)
  have HS := Lib.hid hx2
  clear hb0 hb1 hb2 hx0 hx1 hx2
  go_wp2_with fail
  clear hW0 hg hW1 hh0 hW2 hgs
  go_loopg [22] 2 (fun gk v wr => ∃ j : Nat, j + gk = 2 ∧ v = .int .i64 j ∧ Hid (Below W2.heap.size W2 wr))
  case atStart => exact ⟨0, by omega, rfl, Lib.hid (Below.refl _ _)⟩
  case round =>
    obtain ⟨j, hj, rfl, HBr⟩ := hrel
    by_cases hj2 : j < 2
    · obtain ⟨v, hv, hnq⟩ : ∃ v, wr.cell? ⟨gs, j, none⟩ = some v ∧ NoQ wr v := by
        have hb := blk_below HS.out HBr.out
        have hh := blk_below HH.out HBr.out
        have : j = 0 ∨ j = 1 := by omega
        rcases this with rfl | rfl
        · exact ⟨.pointer none, blk_cell hb 0, .inl rfl⟩
        · exact ⟨.pointer (some ⟨h0, 0, none⟩), blk_cell hb 1, .inr ⟨h0, rfl, blk_cell hh 3⟩⟩
      have HNQ := Lib.hid hnq
      clear hnq
      go_wp2_with fail
      refine (fqpop_no wr v HNQ.out).mono ?_
      rintro e w4 ⟨rfl, hb4⟩
      go_wp2_with fail
      obtain ⟨W5, hW5⟩ : ∃ W5, w4.alloc (.cells #[.int .u64 0, .int .i64 0, .int .u64 0] 43) = W5 := ⟨_, rfl⟩
      obtain ⟨xb, hxb⟩ : ∃ b, w4.heap.size = b := ⟨_, rfl⟩
      have hb5 : Below w4.heap.size w4 W5 := by rw [← hW5]; exact below_alloc (Below.refl _ _) _
      have hx5 : W5.heap[xb]? = some (.cells #[.int .u64 0, .int .i64 0, .int .u64 0] 43 (0, 0)) := by rw [← hW5, ← hxb]; exact heap_alloc_new _ _
      rw [hW5]
      try rw [hxb]
      have hbd := below_drew (below_then hb4 hb4.size hb5)
      have HBD := Lib.hid (HBr.out.trans (hbd.mono HBr.out.size))
      have HXD := Lib.hid (blk_below hx5 (below_drew (Below.refl _ _)))
      have HNQ5 := Lib.hid (HNQ.out.below hbd)
      have HGD5 := Lib.hid (blk_below HG.out HBD.out)
      have HS0 := Lib.hid (show W5.drew.cell? ⟨g, 1, none⟩ = some (.int .u64 fl) ∧ W5.drew.cell? ⟨g, 2, none⟩ = some (.int .i64 co) ∧ W5.drew.cell? ⟨xb, 0, none⟩ = some (.int .u64 0) ∧ W5.drew.cell? ⟨xb, 1, none⟩ = some (.int .i64 0) ∧ W5.drew.cell? ⟨xb, 2, none⟩ = some (.int .u64 0) from ⟨blk_cell HGD5.out 1, blk_cell HGD5.out 2, blk_cell HXD.out 0, blk_cell HXD.out 1, blk_cell HXD.out 2⟩)
      clear hW5 hxb hb4 hb5 hx5 hbd hv
      go_region_held3 (fun w' => w'.cell? ⟨g, 1, none⟩ = some (.int .u64 fl) ∧ w'.cell? ⟨g, 2, none⟩ = some (.int .i64 co) ∧ w'.cell? ⟨xb, 0, none⟩ = some (.int .u64 0) ∧ w'.cell? ⟨xb, 1, none⟩ = some (.int .i64 0) ∧ w'.cell? ⟨xb, 2, none⟩ = some (.int .u64 0))
        (first | exact HS0.out | exact HS1.out)
        (first
          | (go_at_call 18; refine (fqpush_no W5.drew v HNQ5.out (fl, co, 0)).mono ?_; rintro e w7 ⟨rfl, hb7⟩; have HNQ7 := Lib.hid (HNQ5.out.below hb7); have HB7 := Lib.hid (HBD.out.trans (hb7.mono HBD.out.size)); have hgd7 := blk_below HGD5.out hb7; have hxd7 := blk_below HXD.out hb7; have HS1 := Lib.hid (show w7.cell? ⟨g, 1, none⟩ = some (.int .u64 fl) ∧ w7.cell? ⟨g, 2, none⟩ = some (.int .i64 co) ∧ w7.cell? ⟨xb, 0, none⟩ = some (.int .u64 0) ∧ w7.cell? ⟨xb, 1, none⟩ = some (.int .i64 0) ∧ w7.cell? ⟨xb, 2, none⟩ = some (.int .u64 0) from ⟨blk_cell hgd7 1, blk_cell hgd7 2, blk_cell hxd7 0, blk_cell hxd7 1, blk_cell hxd7 2⟩); clear hb7 hgd7 hxd7)
          | (go_at_call 17; refine (fqweight_no _ v HNQ7.out fl co).mono ?_; rintro e w8 ⟨rfl, hw⟩; replace hw := hw.symm; subst hw)
          | (go_at_call 40; refine (fqdrop_no _ v HNQ7.out fl).mono ?_; rintro e w8 ⟨rfl, hw⟩; replace hw := hw.symm; subst hw)
          | (go_at_call 28; refine (fqlen_no _ v HNQ7.out).mono ?_; rintro e w8 ⟨rfl, hw⟩; replace hw := hw.symm; subst hw)
          | (go_at_call 19; refine (fqof_no _ v HNQ7.out fl).mono ?_; rintro e w8 ⟨rfl, hw⟩; replace hw := hw.symm; subst hw)
          | (go_at_call 29; refine (fqflows_no _ v HNQ7.out).mono ?_; rintro e w8 ⟨rfl, hw⟩; replace hw := hw.symm; subst hw))
      all_goals
        clear HS0 HS1 HNQ7 HNQ5
        go_wp2_with fail
        go_roundg (2 - (j + 1))
        case measure => omega
        case rel => exact ⟨j + 1, by omega, by go_num, HB7⟩
    · obtain rfl : j = 2 := by omega
      have HBW := Lib.hid (HB2.out.trans (HBr.out.mono HB2.out.size))
      have HG0 := Lib.hid (blk_below HG.out HBr.out)
      clear HG HH HS
      go_wp2_with fail
      refine (qnew_any wr w.heap.size HBW.out.size 4096 5 (by omega) (by omega) (by omega) (by omega)).mono ?_
      rintro e w3 ⟨p, F, rfl, hq, hF, hb⟩
      have HI := Lib.hid (show QV w3 w.heap.size F p 4096 5 false [] [] ∧ FqJ false [] ∧ totF [] ≤ 0 ∧ BxK w3 F g (.cells #[.int .u8 kd, .int .u64 fl, .int .i64 co, .int .u64 id0] 62 (0, 0)) ∧ Below w.heap.size w w3 from ⟨hq, trivial, Nat.le_refl _, ⟨blk_below HG0.out hb, fun h => by have h1 := hF g h; have h2 := blk_lt HG0.out; omega⟩, HBW.out.trans (hb.mono HBW.out.size)⟩)
      clear hq hF hb
      go_wp2_with fail
      refine (HSHO.out w3).mono ?_
      rintro e w' ⟨rfl, rfl⟩
      go_wp2_with fail
      go_loopg [91] M (fun gk v wr => ∃ (i : Nat) (F' : Nat → Prop) (l : List Fl), i + gk = M ∧ v = .int .i64 i ∧ Hid (QV wr w.heap.size F' p 4096 5 false l [] ∧ FqJ false l ∧ totF l ≤ i ∧ BxK wr F' g (.cells #[.int .u8 kd, .int .u64 fl, .int .i64 co, .int .u64 id0] 62 (0, 0)) ∧ Below w.heap.size w wr))
      case atStart => exact ⟨0, F, [], by omega, rfl, HI⟩
      case round =>
        clear HI HBr HBW HG0
        obtain ⟨i, F', l, hi, rfl, HI⟩ := hrel
        by_cases hiM : i < M
        · obtain ⟨ad, x, e1, -, hxm, q0, q1, q2, q3⟩ := fsts_at (HX.out wr HI.out.2.2.2.2) i (by rw [HN.out]; omega)
          subst e1
          obtain ⟨x0, x1', x2, x3⟩ := x
          dsimp only at q0 q1 q2 q3
          have hwf := i64wf (HGD.out _ hxm).2.2.1
          dsimp only at hwf
          have hb6 := below_alloc (Below.refl wr.heap.size wr) (.cells #[.int .u8 x0, .int .u64 x1', .int .i64 x2, .int .u64 x3] 62)
          have hx6 := heap_alloc_new wr (.cells #[.int .u8 x0, .int .u64 x1', .int .i64 x2, .int .u64 x3] 62)
          obtain ⟨W6, hW6⟩ : ∃ W6, wr.alloc (.cells #[.int .u8 x0, .int .u64 x1', .int .i64 x2, .int .u64 x3] 62) = W6 := ⟨_, rfl⟩
          obtain ⟨xb, hxb⟩ : ∃ b, wr.heap.size = b := ⟨_, rfl⟩
          rw [hW6] at hb6 hx6
          rw [hxb] at hx6
          have z1 := blk_cell hx6 1
          have z2 := blk_cell hx6 2
          have z3 := blk_cell hx6 3
          have HI6 := Lib.hid (show QV W6 w.heap.size F' p 4096 5 false l [] ∧ FqJ false l ∧ totF l ≤ i ∧ BxK W6 F' g (.cells #[.int .u8 kd, .int .u64 fl, .int .i64 co, .int .u64 id0] 62 (0, 0)) ∧ Below w.heap.size w W6 from ⟨HI.out.1.below hb6, HI.out.2.1, HI.out.2.2.1, HI.out.2.2.2.1.below hb6, below_then HI.out.2.2.2.2 HI.out.2.2.2.2.size hb6⟩)
          have hll := len_tot HI.out.2.1
          have htl := HI.out.2.2.1
          have HLL := Lib.hid (And.intro hll htl)
          clear hb6 hx6 hxm hll htl
          by_cases hc : 1 ≤ x2 ∧ x2 ≤ 1048576
          · have HP := Lib.hid (qpush_ok HI6.out.1 (x1', x2, x3) hc.1 hc.2 (by have := HLL.out; omega) (by have := HLL.out; omega) (by have := HLL.out; omega))
            dsimp only at HP
            have HC := Lib.hid hc
            clear hc
            go_wp2_with fail
            clear hW6 hxb
            refine HP.out.mono ?_
            rintro e w7 ⟨rfl, F7, hq7, hF7, hT7⟩
            have HI7 := Lib.hid (show QV w7 w.heap.size F7 p 4096 5 false (pushE l (x1', x2, x3)) [] ∧ FqJ false (pushE l (x1', x2, x3)) ∧ totF (pushE l (x1', x2, x3)) ≤ i + 1 ∧ BxK w7 F7 g (.cells #[.int .u8 kd, .int .u64 fl, .int .i64 co, .int .u64 id0] 62 (0, 0)) ∧ Below w.heap.size w w7 from ⟨hq7, push_J HI.out.2.1 HC.out.1 HC.out.2, by rw [push_tot HI.out.1.nd]; have := HLL.out; omega, HI6.out.2.2.2.1.qr hT7 hF7, HI6.out.2.2.2.2.trans (hT7.below (fun k hk => (HI6.out.1.flt k hk).1) HI6.out.2.2.2.2.size)⟩)
            clear hq7 hF7 hT7 z1 z2 z3
            go_wp2_with fail
            go_roundg (M - (i + 1))
            case measure => omega
            case rel => exact ⟨i + 1, F7, _, by omega, by go_num, HI7⟩
          · have HP := Lib.hid (qpush_bad HI6.out.1 (x1', x2, x3) (by show x2 < 1 ∨ 1048576 < x2; omega))
            dsimp only at HP
            clear hc
            go_wp2_with fail
            clear hW6 hxb
            refine HP.out.mono ?_
            rintro e w7 ⟨rfl, hb7⟩
            have HI7 := Lib.hid (show QV w7 w.heap.size F' p 4096 5 false l [] ∧ FqJ false l ∧ totF l ≤ i + 1 ∧ BxK w7 F' g (.cells #[.int .u8 kd, .int .u64 fl, .int .i64 co, .int .u64 id0] 62 (0, 0)) ∧ Below w.heap.size w w7 from ⟨HI6.out.1.below hb7, HI.out.2.1, by have := HLL.out; omega, HI6.out.2.2.2.1.below hb7, below_then HI6.out.2.2.2.2 HI6.out.2.2.2.2.size hb7⟩)
            clear hb7 z1 z2 z3
            go_wp2_with fail
            go_roundg (M - (i + 1))
            case measure => omega
            case rel => exact ⟨i + 1, F', _, by omega, by go_num, HI7⟩
        · obtain rfl : M = i := by omega
          obtain ⟨nn, hnn⟩ : ∃ m, totF l = m := ⟨_, rfl⟩
          obtain ⟨kk, hkk⟩ : ∃ m, ofE l fl = m := ⟨_, rfl⟩
          have hI := HI.out
          have hqd := hI.1.below (below_drew (Below.refl _ _))
          have hgd := hI.2.2.2.1.below (below_drew (Below.refl _ _))
          have HLEN := Lib.hid (qlen_any hqd nn hnn)
          have HOF := Lib.hid (qof_any hqd fl kk hkk)
          have hll := len_tot hI.2.1
          have htl := hI.2.2.1
          rw [hnn] at hll htl
          have HDR := Lib.hid (qdrop_any hqd (by omega) (by rw [hnn]; omega) fl kk hkk)
          have HID := Lib.hid (show QV wr.drew w.heap.size F' p 4096 5 false l [] ∧ FqJ false l ∧ BxK wr.drew F' g (.cells #[.int .u8 kd, .int .u64 fl, .int .i64 co, .int .u64 id0] 62 (0, 0)) ∧ Below w.heap.size w wr.drew from ⟨hqd, hI.2.1, hgd, below_drew hI.2.2.2.2⟩)
          have HNK := Lib.hid (show totF l = nn ∧ ofE l fl = kk from ⟨hnn, hkk⟩)
          have HS0 := Lib.hid (show wr.drew.cell? ⟨g, 1, none⟩ = some (.int .u64 fl) from blk_cell hgd.1 1)
          have hnn9 : nn ≤ 120 := by omega
          clear hI hqd hgd hnn hkk hll htl HI
          go_wp2_with fail
          go_region_held3 (fun w' => w'.cell? ⟨g, 1, none⟩ = some (.int .u64 fl))
            (first | exact HS0.out)
            (first
              | (go_at_call 28; refine HLEN.out.mono ?_; rintro e w8 ⟨rfl, hw⟩; replace hw := hw.symm; subst hw)
              | (go_at_call 19; refine HOF.out.mono ?_; rintro e w8 ⟨rfl, hw⟩; replace hw := hw.symm; subst hw))
          all_goals
            have z1 := HS0.out
            clear HS0 HLEN HOF
            go_wp2_with fail
            refine HDR.out.mono ?_
            rintro e w4 ⟨A4, c4, b4, l4, rfl, hd4, F4, hq4, hF4, hT4⟩
            obtain ⟨hoff, htot⟩ := hd4.off HID.out.1.nd
            rw [HNK.out.1, HNK.out.2] at htot
            have hj4 := hd4.J HID.out.2.1
            have hg4 := HID.out.2.2.1.qr hT4 hF4
            obtain ⟨aa, haa⟩ : ∃ m, totF l4 = m := ⟨_, rfl⟩
            rw [haa] at htot
            have hof4 : ofE l4 fl = 0 := by unfold ofE; rw [mlook_none.2 hoff]
            have HI4 := Lib.hid (show QV w4 w.heap.size F4 p 4096 5 b4 l4 [] ∧ FqJ b4 l4 ∧ BxK w4 F4 g (.cells #[.int .u8 kd, .int .u64 fl, .int .i64 co, .int .u64 id0] 62 (0, 0)) ∧ Below w.heap.size w w4 ∧ totF l4 = aa ∧ fl ∉ mkeys l4 from ⟨hq4, hj4, hg4, HID.out.2.2.2.trans (hT4.below (fun k hk => (HID.out.1.flt k hk).1) HID.out.2.2.2.size), haa, hoff⟩)
            have HLEN := Lib.hid (qlen_any hq4 aa haa)
            have HOF := Lib.hid (qof_any hq4 fl 0 hof4)
            have hll := len_tot hj4
            rw [haa] at hll
            have HDR2 := Lib.hid (qdrop_any hq4 (by omega) (by rw [haa]; omega) fl 0 hof4)
            have hnk : (nn : Int) - (kk : Int) = (aa : Int) := by omega
            have z4 := blk_cell hg4.1 1
            have haa9 : aa ≤ 120 := by omega
            clear hd4 hq4 hF4 hT4 hoff htot hj4 hg4 haa hof4 hll z1
            go_wp2_with fail
            refine HLEN.out.mono ?_
            rintro e w' ⟨rfl, rfl⟩
            go_wp2_with fail
            refine HOF.out.mono ?_
            rintro e w' ⟨rfl, rfl⟩
            go_wp2_with fail
            refine HDR2.out.mono ?_
            rintro e w5 ⟨A5, c5, b5, l5, rfl, hd5, F5, hq5, hF5, hT5⟩
            have h5 : b5 = b4 ∧ l5 = l4 := by
              rcases hd5 with ⟨-, e1, e2⟩ | ⟨l1, f, l2, e1, e2, -, -⟩
              · exact ⟨e1, e2⟩
              · exact absurd (show fl ∈ mkeys l4 by rw [e1]; unfold mkeys; simp [e2]) HI4.out.2.2.2.2.2
            obtain ⟨rfl, rfl⟩ := h5
            have HI5 := Lib.hid (show QV w5 w.heap.size F5 p 4096 5 b5 l5 [] ∧ FqJ b5 l5 ∧ BxK w5 F5 g (.cells #[.int .u8 kd, .int .u64 fl, .int .i64 co, .int .u64 id0] 62 (0, 0)) ∧ Below w.heap.size w w5 ∧ totF l5 + 0 = aa ∧ fl ∉ mkeys l5 from ⟨hq5, HI4.out.2.1, HI4.out.2.2.1.qr hT5 hF5, HI4.out.2.2.2.1.trans (hT5.below (fun k hk => (HI4.out.1.flt k hk).1) HI4.out.2.2.2.1.size), HI4.out.2.2.2.2.1, HI4.out.2.2.2.2.2⟩)
            clear hd5 hq5 hF5 hT5 z4
            go_wp2_with fail
            go_loopg [145] aa (fun gk v wr => ∃ (i : Nat) (F' : Nat → Prop) (b : Bool) (l : List Fl), i + gk = aa ∧ v = .int .i64 i ∧ Hid (QV wr w.heap.size F' p 4096 5 b l [] ∧ FqJ b l ∧ BxK wr F' g (.cells #[.int .u8 kd, .int .u64 fl, .int .i64 co, .int .u64 id0] 62 (0, 0)) ∧ Below w.heap.size w wr ∧ totF l + i = aa ∧ fl ∉ mkeys l))
            case atStart => exact ⟨0, F5, b5, l5, by omega, rfl, HI5⟩
            case round =>
              clear HI5 HI4 HID HNK HDR HDR2 HLEN HOF
              obtain ⟨i, F6, b6, l6, hi, rfl, HI⟩ := hrel
              by_cases hia : i < aa
              · have hne : l6 ≠ [] := fun e => by
                  have h := HI.out.2.2.2.2.1
                  rw [e] at h
                  have h2 : totF [] = 0 := rfl
                  omega
                obtain ⟨y, hy⟩ := popRun_some (wt := []) (q := 5) WtJ.nil (by omega) (by omega) HI.out.2.1 hne
                obtain ⟨hk1, hk2, hk3⟩ := pop_gen WtJ.nil (by omega) (by omega) HI.out.2.1 hy
                have hjy := popRun_J WtJ.nil (by omega) (by omega) HI.out.2.1 hy
                have hll := len_tot HI.out.2.1
                have htt := HI.out.2.2.2.2.1
                have HPP := Lib.hid (qpop_ok HI.out.1 WtJ.nil (by omega) (by omega) HI.out.2.1 (by omega) (by omega) y hy)
                obtain ⟨⟨y1, y2, y3⟩, b7, l7⟩ := y
                dsimp only at hk1 hk2 hk3 hjy
                have hyf : (y1 == fl) = false := by
                  have : y1 ≠ fl := fun e => HI.out.2.2.2.2.2 (e ▸ hk1)
                  simpa using this
                unfold popAns at HPP
                dsimp only at HPP
                have HK := Lib.hid (And.intro hk2 (And.intro hk3 (And.intro hjy htt)))
                clear hy hk1 hk2 hk3 hjy hll htt hne
                go_wp2_with fail
                refine HPP.out.mono ?_
                rintro e w7 ⟨rfl, F7, hq7, hF7, hT7⟩
                have hb8 := below_alloc (Below.refl w7.heap.size w7) (.cells #[.int .u64 y1, .int .i64 y2, .int .u64 y3] 43)
                have hg7 := HI.out.2.2.1.qr hT7 hF7
                have hg8 := hg7.below hb8
                have z1 : (w7.alloc (.cells #[.int .u64 y1, .int .i64 y2, .int .u64 y3] 43)).cell? ⟨g, 1, none⟩ = some (.int .u64 fl) := blk_cell hg8.1 1
                have HI8 := Lib.hid (show QV (w7.alloc (.cells #[.int .u64 y1, .int .i64 y2, .int .u64 y3] 43)) w.heap.size F7 p 4096 5 b7 l7 [] ∧ FqJ b7 l7 ∧ BxK (w7.alloc (.cells #[.int .u64 y1, .int .i64 y2, .int .u64 y3] 43)) F7 g (.cells #[.int .u8 kd, .int .u64 fl, .int .i64 co, .int .u64 id0] 62 (0, 0)) ∧ Below w.heap.size w (w7.alloc (.cells #[.int .u64 y1, .int .i64 y2, .int .u64 y3] 43)) ∧ totF l7 + (i + 1) = aa ∧ fl ∉ mkeys l7 from ⟨hq7.below hb8, HK.out.2.2.1, hg8, by
                  have h1 := HI.out.2.2.2.1.trans (hT7.below (fun k hk => (HI.out.1.flt k hk).1) HI.out.2.2.2.1.size)
                  exact below_then h1 h1.size hb8, by have h1 := HK.out.2.1; have h2 := HK.out.2.2.2; omega, fun h => HI.out.2.2.2.2.2 (HK.out.1 _ h)⟩)
                clear hq7 hF7 hT7 hb8 hg7 hg8
                go_wp2_with fail
                go_roundg (aa - (i + 1))
                case measure => omega
                case rel => exact ⟨i + 1, F7, b7, l7, by omega, by go_num, HI8⟩
              · have ht0 : totF l6 = 0 := by have h := HI.out.2.2.2.2.1; omega
                have HLEN := Lib.hid (qlen_any HI.out.1 0 ht0)
                clear ht0
                go_wp2_with fail
                refine HLEN.out.mono ?_
                rintro e w' ⟨rfl, rfl⟩
                go_wp2_with fail
                refine (alive35_any _).mono ?_
                rintro e w9 ⟨rfl, hb⟩
                have HB9 := Lib.hid (below_then HI.out.2.2.2.1 HI.out.2.2.2.1.size hb)
                clear hb
                go_wp2_with fail
                go_ret
                exact ⟨rfl, HB9.out⟩

set_option maxRecDepth 100000 in
theorem lifted (os : Os) (started : os.Started) (H : Type) (enc : TypeId × Value → H) :
    ReturnsInHanded {} Try.checked os 9 .any (Rows.fairNobodySpec.pre6 enc Try.prog Try.f9 Rows.fairNobodyRow.domain false) (Rows.fairNobodySpec.post enc Try.prog Try.f9 false true false false) := by
  refine returnsInHanded_of_change (C := Try.checked) own started (by kernel_rfl) Try.func9
    (ChangeSpec.witness6 (enc := enc) (C := Try.checked) false ⟨#[], #[.agg #[.int .u8 0, .int .u64 0, .int .i64 0, .int .u64 0], .slice none 0 0], []⟩ 8 (by kernel_rfl) (by kernel_rfl) (by kernel_rfl) (by kernel_rfl)) ?_
  intro W base args ds gs before hval0 hW hcnd _
  have hval : ∀ (j : Nat) t v, Try.f9.params[j]? = some t → args[j]? = some v → Value.okWide Try.prog W .any base t v := hval0
  have hW' := hW
  obtain ⟨p, q, hA0, hV, rfl, hfz, hnd⟩ := hW
  have hA : DataW.TrodAll enc Try.prog W 0 (fun _ => true) true Try.f9.params.toList args.toList ds p := hA0
  rw [Try.params9] at hA hval
  obtain ⟨v0, vs0, d0, ds0, p0, q0, hargs, rfl, rfl, h0, r0⟩ := trodAll_cons hA
  obtain ⟨v1, vs1, d1, ds1, p1, q1, rfl, rfl, rfl, h1, r1⟩ := trodAll_cons r0
  obtain ⟨rfl, rfl, rfl⟩ := trodAll_nil r1
  obtain rfl : args = #[v0, v1] := by cases args; simp_all
  obtain ⟨rfl, rfl⟩ := trodVars_none hV
  have k0 := h0
  have lt0 : ∀ x ∈ p0, x.block < W.heap.size := by obtain ⟨m, hm⟩ := k0; exact DataW.trod_lt m _ _ _ hm
  obtain ⟨cs0, rfl, _⟩ := okWide_struct Try.underlying62 (hval 0 62 v0 rfl rfl)
  obtain ⟨x0, y0, g0⟩ : ∃ x, KFSt.K W x cs0.toList ∧ (FStG) x := by obtain ⟨m, hm⟩ := k0; exact op_fst _ _ _ m _ _ hm
  have k1 := h1
  have lt1 : ∀ x ∈ p1, x.block < W.heap.size := by obtain ⟨m, hm⟩ := k1; exact DataW.trod_lt m _ _ _ hm
  obtain ⟨a1, len1, cap1, rfl⟩ := okWide_slice Try.underlying57 (hval 1 57 v1 rfl rfl)
  obtain ⟨x1, y1, g1⟩ : ∃ x, (Kd.slice 62 KFSt).K W x [.slice a1 len1 cap1] ∧ (fun xs => (∀ x ∈ xs, FStG x) ∧ xs.length ≤ maxLen) x := by obtain ⟨m, hm⟩ := k1; exact op_fsts _ _ _ m _ _ hm
  clear hA0 hval0
  refine (walk cs0 x0 a1 len1 cap1 x1 W y0 g0 y1 g1).mono fun e W' ⟨he, bel⟩ => ?_
  subst he
  exact ⟨_, rfl, _, _, _, [], _, [], hW', trodAll_mk1 (shut_bool Try.underlying4 _), (trodAll_cons_mk (Below.trod laidOut (by kernel_rfl) (of_decide_eq_true (by kernel_rfl)) k0 bel lt0) (trodAll_cons_mk (Below.trod laidOut (by kernel_rfl) (of_decide_eq_true (by kernel_rfl)) k1 bel lt1) trodAll_mk0)), rfl, bel.frame _, fun h => by cases h⟩

theorem over : Rows.fairNobodyRow.holds Try.pinned (OpenSpec.ofChange Rows.fairNobodySpec) :=
  OpenClaim.holds_of_wide 9 Try.f9 rfl rfl rfl rfl rfl rfl rfl ⟨rfl, rfl, rfl, rfl, rfl⟩ rfl rfl rfl rfl rfl (by kernel_rfl) Try.func9 (by kernel_rfl)
    (of_decide_eq_true (by kernel_rfl)) (by unfold Func.isWrapper; first | (rw [if_pos (by decide +kernel)]; kernel_rfl) | (rw [if_neg (by decide +kernel)]; exact ⟨rfl, rfl⟩))
    (fun os started H enc _ => lifted os started H enc)

theorem proved : Rows.FairNobodySaid := over
end Go.Proofs.Ytcelhendfjiicaa.fairNobody
