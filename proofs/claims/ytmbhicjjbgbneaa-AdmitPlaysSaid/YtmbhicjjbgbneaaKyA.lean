/- The keys of a map, one by one, collected: maps.Keys, slices.AppendSeq, slices.Collect. -/
import Derived.Test.YtmbhicjjbgbneaaMpR
import Derived.RangeFuncBox
import Derived.RangeFuncNested
import Derived.RangeFuncBound
import Derived.RangeFuncCalls
import Derived.RangeFuncLeaves
import Derived.Shelf.Abstract
import Derived.Shelf.AbstractIn
import Derived.Shelf.RegionOpen
import Derived.WalkKit
import Derived.OwnWalkIn
import Derived.TacticsInMore
import Derived.LoopNIn
import Derived.LoopIn
import Derived.Maps.AppendAt
import Derived.Test.YtmbhicjjbgbneaaTnA
namespace Go.Proofs.Ytmbhicjjbgbneaa
open Go.RowKit Go.Shelf Go.Proofs.YtmbhicjjbgbneaaW.PrintWords Go.Proofs.YtmbhicjjbgbneaaW.PrintLast Go.Proofs.YtmbhicjjbgbneaaW.PrintMore
set_option linter.unusedVariables false
set_option linter.unusedSimpArgs false
set_option maxRecDepth 100000
attribute [local go_sem] Oper.semAt_some
theorem rg_of_walks {W W' : World} {b r : Nat} {L left : List (Int × Value)} (h : Rg (Value.int .u64) W b r L left) (hk : KeepsWalks W W') : Rg (Value.int .u64) W' b r L left := by
  have h' := h
  obtain ⟨Z, es, clock, since, c0, seen, hb, h1, h2, h3, h4, h5, hr, hrest⟩ := h
  exact h'.move ((hk.same b _ hb rfl).trans hb.symm) ((hk.same r _ hr rfl).trans hr.symm)
set_option maxHeartbeats 1000000 in
theorem mkeys1_in (F : Fence) (n : Nat) (h8 : F.fn 76) (hro : F.round = none) (hn : 1 ≤ n) (l Bm b : Nat) (L : List (Int × Value)) (J Jx : List Int → World → Prop)
    (hY : ∀ pre x W, J pre W → pre.length < L.length → YieldAt F (n - 1) Try.prog l #[.int .u64 x] W fun e W' =>
      (e = .returned (.bool true) ∧ J (pre ++ [x]) W' ∧ KeepsWalks W W') ∨ (e = .returned (.bool false) ∧ Jx (pre ++ [x]) W'))
    (W : World) (hJ : AbidesFrom W.heap.size J) (hm : W.cell? ⟨Bm, 0, none⟩ = some (.map (some b))) (hmp : IsMp (Value.int .u64) W b (L)) (h0 : J [] W) :
    CallsIn F n Try.prog 76 #[.func (.yield l) #[] #[], .pointer (some ⟨Bm, 0, none⟩)] W fun e W' => (∃ v, e = .returned v) ∧
      ((∃ xs, xs.Perm (L.map Prod.fst) ∧ J xs W') ∨ (∃ pre, True ∧ Jx pre W')) := by
  obtain ⟨w0, hrun, hrg, hb, hsz⟩ := run_mrange (P := Try.prog) Try.underlying54 hmp
  have HJ0 := Lib.hid (hJ [] W w0 none h0 ⟨hb.os, hb.tape, hb.output, hb.size, fun k hk _ => hb.block k hk⟩ (fun r e => by cases e))
  have HRG := Lib.hid hrg
  have HJ := Lib.hid hJ
  have HY := Lib.hid hY
  clear hmp h0 hrg hb hsz hJ hY
  refine callsIn_of_wp Try.func76 rfl h8 ?_ hro
  simp only [Try.ntmps76, List.size_toArray, List.length_cons, List.length_nil, Nat.reduceAdd, Nat.reduceSub, Array.replicate_succ, Array.replicate_zero, List.push_toArray, List.append_toArray, List.nil_append, List.cons_append]
  gi_wp2
  gi_loopw [3] (fun _ wr => ∃ (left : List (Int × Value)) (ss : List Int), Hid (Rg (Value.int .u64) wr b W.heap.size (L) (left)) ∧ Hid ((ss ++ left.map Prod.fst).Perm (L.map Prod.fst)) ∧ Hid (J ss wr))
    (fun _ wr => wr.rangeLeft b W.heap.size)
  case atStart => exact ⟨L, [], HRG, Lib.hid (List.Perm.refl _), HJ0⟩
  case round =>
    obtain ⟨left, ss, HR, HP, HJs⟩ := hrel
    have HME := Lib.hid HR.out.left_eq
    rcases run_mnext (P := Try.prog) HR.out 0 with ⟨hl0, hrun⟩ | ⟨e, a, c, w', hl0, hrun, hrg, hg, hsz, hen⟩
    · subst hl0
      gi_wp2
      go_end0
      exact ⟨⟨_, rfl⟩, .inl ⟨ss, by have := HP.out; simpa using this, HJs.out⟩⟩
    · subst hl0
      obtain ⟨q, k⟩ := e
      dsimp only at hrun hen
      have HRG2 := Lib.hid (show Rg (Value.int .u64) w' b W.heap.size L (a ++ c) from hrg)
      have hJ2 : J ss w' := HJ.out ss wr w' (some W.heap.size) HJs.out hg (fun r e => by
        cases e
        obtain ⟨Z, es, clock, since, c0, seen, hb, h1, h2, h3, h4, h5, hr, -⟩ := HR.out
        exact ⟨Nat.le_refl _, _, hr, rfl⟩)
      have HP2 := Lib.hid (show ((ss ++ [q]) ++ (a ++ c).map Prod.fst).Perm (L.map Prod.fst) from by
        refine List.Perm.trans ?_ HP.out
        rw [List.map_append, List.map_append, List.map_cons]
        show ((ss ++ [q]) ++ (a.map Prod.fst ++ c.map Prod.fst)).Perm (ss ++ (a.map Prod.fst ++ q :: c.map Prod.fst))
        rw [List.append_assoc]
        exact List.Perm.append_left ss (List.perm_middle (l₁ := a.map Prod.fst)).symm)
      have hlen : ss.length < L.length := by
        have := HP2.out.length_eq
        simp at this; omega
      have HMS := Lib.hid (show (a ++ c).length < (a ++ (q, k) :: c).length by simp)
      obtain ⟨fn, tmps, assign, body, hy, hR⟩ := HY.out ss q w' hJ2 hlen
      clear hrg hg hsz hJ2 hlen
      gi_wp2
      refine hR.mono ?_
      rintro e W3 (⟨rfl, hJ3, hk3⟩ | ⟨rfl, hJx3⟩)
      · have HJ3 := Lib.hid hJ3
        have HRG3 := Lib.hid (rg_of_walks HRG2.out hk3)
        clear hJ3 hk3
        gi_wp2
        go_roundw
        case rel => exact ⟨a ++ c, ss ++ [q], HRG3, HP2, HJ3⟩
        case measure =>
          rw [HRG3.out.left_eq, HME.out]
          exact HMS.out
      · gi_wp2
        refine bodyPost_ret (results_none rfl _ _ _) rfl ?_
        exact ⟨⟨_, rfl⟩, .inr ⟨ss ++ [q], trivial, hJx3⟩⟩
theorem mkeys_any (W : World) (mb : Option Nat) : Calls Try.prog 57 #[.map mb] W fun e w' => e = .returned (.func (.func 76) #[] #[.pointer (some ⟨W.heap.size, 0, none⟩)]) ∧ w' = W.alloc (.cells #[.map mb] 54) := by
  go_enter Try.func57, Try.ntmps57
  go_wp2_with fail
  go_ret
  exact ⟨rfl, rfl⟩
theorem mkeys_stops (F : Fence) (n : Nat) (h8 : F.fn 76) (hro : F.round = none) (hn : 1 ≤ n) (Bm b : Nat) (L : List (Int × Value)) (w : World) (hBm : Bm < w.heap.size)
    (hm : w.cell? ⟨Bm, 0, none⟩ = some (.map (some b))) (hmp : IsMp (Value.int .u64) w b (L)) :
    SeqStopsK F n Try.prog 76 #[.pointer (some ⟨Bm, 0, none⟩)] (fun q : Int => #[.int .u64 q]) KeepsWalks (fun xs => xs.Perm (L.map Prod.fst)) (fun _ => True) L.length w := fun l J Jx W hW hJ _ hY h0 =>
  mkeys1_in F n h8 hro hn l Bm b L J Jx hY W hJ ((hW.cell (p := ⟨Bm, 0, none⟩) hBm).trans hm) (hmp.below hW) h0
theorem infoKy : (Try.prog.info? 22).map (fun i => (i.zero, i.size, i.bytes)) = some (some (.int .u64 0), 1, 8) := by kernel_rfl
def CollK (W : World) (L : List (Int × Value)) (e : Ending) (w' : World) : Prop := ∃ (xs : List Int) (v : Value), e = .returned v ∧ xs.Perm (L.map Prod.fst) ∧ w'.ownsRow W.heap.size 22 1 v xs.length (xs.map (Value.int .u64)) ∧ (v = .slice none 0 0 ↔ xs = []) ∧ Below W.heap.size W w'
set_option maxHeartbeats 2000000 in
theorem mkseq_in (F : Fence) (n : Nat) (h3 : F.fn 82) (h8 : F.fn 76) (hro : F.round = none) (hn : 3 ≤ n) (Bm b : Nat) (L : List (Int × Value)) (w : World) (hBm : Bm < w.heap.size)
    (hm : w.cell? ⟨Bm, 0, none⟩ = some (.map (some b))) (hmp : IsMp (Value.int .u64) w b (L)) (hL : L.length ≤ 1000000) :
    CallsIn F n Try.prog 82 #[.slice none 0 0, .func (.func 76) #[] #[.pointer (some ⟨Bm, 0, none⟩)]] w (CollK w L) := by
  have h1 : 1 ≤ n := by omega
  unfold CollK
  obtain ⟨i0, hi, hz0, hz1, hz2⟩ := info_parts infoKy
  refine callsIn_of_wp_marks Try.func82 rfl h3 ?_ hro
  simp only [Try.ntmps82, List.size_toArray, List.length_cons, List.length_nil, Nat.reduceAdd, Nat.reduceSub, Array.replicate_succ, Array.replicate_zero, List.push_toArray, List.append_toArray, List.nil_append, List.cons_append]
  gi_wp2
  have bO := Boxed.new w 38 (.slice none 0 0)
  have hB0 : Below w.heap.size w (w.alloc (.cells #[.slice none 0 0] 38)) := (Below.refl _ w).alloc (Nat.le_refl _) _
  have hsz : (w.alloc (.cells #[.slice none 0 0] 38)).heap.size = w.heap.size + 1 := by simp
  refine wpIn_rangeFunc_ownF hro h1 (gf := 76) (lb := #[.pointer (some ⟨Bm, 0, none⟩)]) rfl h8 (enters_of Try.func76 (by kernel_rfl) rfl)
    (mkeys_stops F (n - 1) h8 hro (by omega) Bm b L _ (by rw [hsz]; omega) ((hB0.cell (p := ⟨Bm, 0, none⟩) hBm).trans hm) (hmp.below hB0)) walksK_t walksK_b (Below.refl _ _) (fun _ => rfl)
    (fun pre W => (∃ v, Boxed W w.heap.size 38 v ∧ W.ownsRow w.heap.size 22 1 v pre.length (pre.map (Value.int .u64)) ∧ (v = .slice none 0 0 ↔ pre = [])) ∧ Below w.heap.size w W)
    (fun _ _ _ => False)
    (OwnFrom.and (Own.from (holdsRow_own w.heap.size w.heap.size 38 22 1 (fun pre => pre.length) (fun pre => pre.map (Value.int .u64)) (fun pre v => v = .slice none 0 0 ↔ pre = [])) _) (ownFrom_below (Nat.le_refl _) (by rw [hsz]; omega)))
    (fun _ _ _ _ _ hs _ _ => hs)
    ⟨⟨_, bO, World.ownsRow_nil _ _ _ _, by simp⟩, hB0⟩
    (fun x => { tmps := #[.slice none 0 0, .func (.func 76) #[] #[.pointer (some ⟨Bm, 0, none⟩)], .pointer (some ⟨w.heap.size, 0, none⟩), undef, .slice none 0 0, .int .u64 x, .func (.func 76) #[] #[.pointer (some ⟨Bm, 0, none⟩)], .int .u64 x, undef, undef, undef, undef, undef], defers := [] }) ?assign ?body ?done ?stop
  case assign =>
    intro l x W K hK
    gi_wp2
    exact hK
  case body =>
    rintro l pre x W ⟨⟨v, hv, hrow, hnil⟩, hB⟩ hlt
    have hc := hv.cell
    have hmx : 1000001 ≤ maxLen := by decide
    gi_wp2_with (gi_at_builtin; refine wpListIn_append_own _ rfl _ _ 38 rfl w.heap.size 22 i0 (.int .u64 0) 1 8 Try.underlying38 hi hz0 hz1 hz2 rfl (by decide) _ _ _ rfl (hrow.alloc _) ⟨W.heap.size, 0, none⟩ 1 1 [.int .u64 x] rfl rfl (cell_one_new _ _ _) (by simp [Value.oneCell']) (by omega) (by omega) (by have := hB.size; simp; omega) ?_; intro v' w1 hown' hgrow _; obtain ⟨g', cap', rfl⟩ := ownsRow_succ hown'; obtain ⟨hv1, hv2, hr2, hk2, hb2⟩ := hv.appended (by decide) hrow hB.size (Nat.le_refl _) hown' hgrow; have hc1 := hv1.cell; have hf1 := hv1.frozen)
    exact ⟨hk2, hk2.walks, ⟨_, hv2, by have h9 := hr2; rw [List.length_append, List.map_append]; exact h9, by simp⟩, hB.trans hb2⟩
  case done =>
    rintro D ys W hD hp ⟨⟨v, hv, hrow, hnil⟩, hB⟩ hK
    have hc := hv.cell
    gi_wp2
    refine ⟨by simp, .inl ⟨_, _, rfl, run_takeDeferred hK, ?_⟩⟩
    exact ⟨_, results_tmp rfl _ _ _, ys, v, rfl, hp, ownsRow_putObj hrow _ hK rfl, hnil, hB.trans (belowK_b (w := w) (Nat.le_refl _) W D _ _ (by rw [hsz] at hD; omega) hK rfl rfl)⟩
  case stop =>
    rintro D c pre W _ _ h _
    exact h.elim
theorem mkcollect_any (Bm b : Nat) (L : List (Int × Value)) (w : World) (hBm : Bm < w.heap.size) (hm : w.cell? ⟨Bm, 0, none⟩ = some (.map (some b))) (hmp : IsMp (Value.int .u64) w b (L)) (hL : L.length ≤ 1000000) :
    Calls Try.prog 74 #[.func (.func 76) #[] #[.pointer (some ⟨Bm, 0, none⟩)]] w (CollK w L) := by
  have HA := Lib.hid (callsIn_wide.1 (mkseq_in Fence.wide 3 trivial trivial rfl (Nat.le_refl _) Bm b L w hBm hm hmp hL))
  clear hBm hm hmp
  go_enter Try.func74, Try.ntmps74
  go_wp2_with fail
  refine HA.out.mono ?_
  rintro e w' ⟨xs, v, rfl, hp, hr, hn, hb⟩
  have HH := Lib.hid (And.intro hp (And.intro hr (And.intro hn hb)))
  clear hp hr hn hb
  go_wp2_with fail
  go_ret
  obtain ⟨hp, hr, hn, hb⟩ := HH.out
  exact ⟨xs, v, rfl, hp, hr, hn, hb⟩
end Go.Proofs.Ytmbhicjjbgbneaa
