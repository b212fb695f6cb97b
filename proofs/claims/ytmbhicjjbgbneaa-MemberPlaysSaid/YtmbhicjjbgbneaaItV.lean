/- The values of a map of pointers, one by one: maps.Values, slices.AppendSeq, slices.Collect. -/
import Derived.Test.YtmbhicjjbgbneaaMpR
import Derived.RangeFuncBox
import Derived.RangeFuncNested
import Derived.RangeFuncBound
import Derived.RangeFuncCalls
import Derived.RangeFuncLeaves
import Derived.Shelf.Abstract
import Derived.Shelf.AbstractIn
import Derived.Shelf.RegionOpen
import Derived.WalkKit
import Derived.OwnWalkIn
import Derived.TacticsInMore
import Derived.LoopNIn
import Derived.LoopIn
import Derived.Maps.AppendAt
import Derived.Test.YtmbhicjjbgbneaaTnA
namespace Go.Proofs.Ytmbhicjjbgbneaa
open Go.RowKit Go.Shelf Go.Proofs.YtmbhicjjbgbneaaW.PrintWords Go.Proofs.YtmbhicjjbgbneaaW.PrintLast Go.Proofs.YtmbhicjjbgbneaaW.PrintMore
set_option linter.unusedVariables false
set_option linter.unusedSimpArgs false
set_option maxRecDepth 100000
attribute [local go_sem] Oper.semAt_some
def ptV (q : Nat) : Value := .pointer (some ⟨q, 0, none⟩)
def ptL (L : List (Int × Nat)) : List (Int × Value) := L.map (fun e => (e.1, ptV e.2))
theorem ptL_split {L : List (Int × Nat)} {l1 l2 : List (Int × Value)} {p : Int × Value} (h : ptL L = l1 ++ p :: l2) : ∃ a e c, L = a ++ e :: c ∧ l1 = ptL a ∧ p = (e.1, ptV e.2) ∧ l2 = ptL c := by
  unfold ptL at h
  obtain ⟨a, r, h1, h2, h3⟩ := List.map_eq_append_iff.1 h
  obtain ⟨e, c, h4, h5, h6⟩ := List.map_eq_cons_iff.1 h3
  exact ⟨a, e, c, by rw [h1, h4], h2.symm, h5.symm, h6.symm⟩
theorem Rg.of_walks {W W' : World} {b r : Nat} {L left : List (Int × Value)} (h : Rg (Value.int .u64) W b r L left) (hk : KeepsWalks W W') : Rg (Value.int .u64) W' b r L left := by
  have h' := h
  obtain ⟨Z, es, clock, since, c0, seen, hb, h1, h2, h3, h4, h5, hr, hrest⟩ := h
  exact h'.move ((hk.same b _ hb rfl).trans hb.symm) ((hk.same r _ hr rfl).trans hr.symm)
set_option maxHeartbeats 1000000 in
theorem mvals1_in (F : Fence) (n : Nat) (h8 : F.fn 79) (hro : F.round = none) (hn : 1 ≤ n) (l Bm b : Nat) (L : List (Int × Nat)) (J Jx : List Nat → World → Prop)
    (hY : ∀ pre x W, J pre W → pre.length < L.length → YieldAt F (n - 1) Try.prog l #[ptV x] W fun e W' =>
      (e = .returned (.bool true) ∧ J (pre ++ [x]) W' ∧ KeepsWalks W W') ∨ (e = .returned (.bool false) ∧ Jx (pre ++ [x]) W'))
    (W : World) (hJ : AbidesFrom W.heap.size J) (hm : W.cell? ⟨Bm, 0, none⟩ = some (.map (some b))) (hmp : IsMp (Value.int .u64) W b (ptL L)) (h0 : J [] W) :
    CallsIn F n Try.prog 79 #[.func (.yield l) #[] #[], .pointer (some ⟨Bm, 0, none⟩)] W fun e W' => (∃ v, e = .returned v) ∧
      ((∃ xs, xs.Perm (L.map Prod.snd) ∧ J xs W') ∨ (∃ pre, True ∧ Jx pre W')) := by
  obtain ⟨w0, hrun, hrg, hb, hsz⟩ := run_mrange (P := Try.prog) Try.underlying93 hmp
  have HJ0 := Lib.hid (hJ [] W w0 none h0 ⟨hb.os, hb.tape, hb.output, hb.size, fun k hk _ => hb.block k hk⟩ (fun r e => by cases e))
  have HRG := Lib.hid hrg
  have HJ := Lib.hid hJ
  have HY := Lib.hid hY
  clear hmp h0 hrg hb hsz hJ hY
  refine callsIn_of_wp Try.func79 rfl h8 ?_ hro
  simp only [Try.ntmps79, List.size_toArray, List.length_cons, List.length_nil, Nat.reduceAdd, Nat.reduceSub, Array.replicate_succ, Array.replicate_zero, List.push_toArray, List.append_toArray, List.nil_append, List.cons_append]
  gi_wp2
  gi_loopw [4] (fun _ wr => ∃ (left : List (Int × Nat)) (ss : List Nat), Hid (Rg (Value.int .u64) wr b W.heap.size (ptL L) (ptL left)) ∧ Hid ((ss ++ left.map Prod.snd).Perm (L.map Prod.snd)) ∧ Hid (J ss wr))
    (fun _ wr => wr.rangeLeft b W.heap.size)
  case atStart => exact ⟨L, [], HRG, Lib.hid (List.Perm.refl _), HJ0⟩
  case round =>
    obtain ⟨left, ss, HR, HP, HJs⟩ := hrel
    have HME := Lib.hid HR.out.left_eq
    rcases run_mnext (P := Try.prog) HR.out 0 with ⟨hl0, hrun⟩ | ⟨p, l1, l2, w', hl0, hrun, hrg, hg, hsz, hen⟩
    · have hnil : left = [] := by
        unfold ptL at hl0
        exact List.map_eq_nil_iff.1 hl0
      subst hnil
      clear hl0
      gi_wp2
      go_end0
      exact ⟨⟨_, rfl⟩, .inl ⟨ss, by have := HP.out; simpa using this, HJs.out⟩⟩
    · obtain ⟨a, e, c, rfl, rfl, rfl, rfl⟩ := ptL_split hl0
      obtain ⟨k, q⟩ := e
      dsimp only at hrun hen
      have HRG2 := Lib.hid (show Rg (Value.int .u64) w' b W.heap.size (ptL L) (ptL (a ++ c)) by unfold ptL at hrg ⊢; rw [List.map_append]; exact hrg)
      have hJ2 : J ss w' := HJ.out ss wr w' (some W.heap.size) HJs.out hg (fun r e => by
        cases e
        obtain ⟨Z, es, clock, since, c0, seen, hb, h1, h2, h3, h4, h5, hr, -⟩ := HR.out
        exact ⟨Nat.le_refl _, _, hr, rfl⟩)
      have HP2 := Lib.hid (show ((ss ++ [q]) ++ (a ++ c).map Prod.snd).Perm (L.map Prod.snd) from by
        refine List.Perm.trans ?_ HP.out
        rw [List.map_append, List.map_append, List.map_cons]
        show ((ss ++ [q]) ++ (a.map Prod.snd ++ c.map Prod.snd)).Perm (ss ++ (a.map Prod.snd ++ q :: c.map Prod.snd))
        rw [List.append_assoc]
        exact List.Perm.append_left ss (List.perm_middle (l₁ := a.map Prod.snd)).symm)
      have hlen : ss.length < L.length := by
        have := HP2.out.length_eq
        simp at this; omega
      have HMS := Lib.hid (show (a ++ c).length < (a ++ (k, q) :: c).length by simp)
      obtain ⟨fn, tmps, assign, body, hy, hR⟩ := HY.out ss q w' hJ2 hlen
      clear hl0 hrg hg hsz hJ2 hlen
      unfold ptV at hrun hen hy
      gi_wp2
      refine hR.mono ?_
      rintro e W3 (⟨rfl, hJ3, hk3⟩ | ⟨rfl, hJx3⟩)
      · have HJ3 := Lib.hid hJ3
        have HRG3 := Lib.hid (HRG2.out.of_walks hk3)
        clear hJ3 hk3
        gi_wp2
        go_roundw
        case rel => exact ⟨a ++ c, ss ++ [q], HRG3, HP2, HJ3⟩
        case measure =>
          rw [HRG3.out.left_eq, HME.out]
          unfold ptL
          rw [List.length_map, List.length_map]
          exact HMS.out
      · gi_wp2
        refine bodyPost_ret (results_none rfl _ _ _) rfl ?_
        exact ⟨⟨_, rfl⟩, .inr ⟨ss ++ [q], trivial, hJx3⟩⟩
end Go.Proofs.Ytmbhicjjbgbneaa
