/- The document's member list: Remove over plain values; whether two lists are the same. -/
import Derived.Test.YtmbhicjjbgbneaaMbV
namespace Go.Proofs.Ytmbhicjjbgbneaa
open Go.RowKit Go.Shelf Go.Proofs.YtmbhicjjbgbneaaW.PrintWords Go.Proofs.YtmbhicjjbgbneaaW.PrintLast Go.Proofs.YtmbhicjjbgbneaaW.PrintMore
set_option linter.unusedVariables false
set_option linter.unusedSimpArgs false
set_option maxRecDepth 100000
section
variable {W W' : World} {G : Nat → Prop} {q : Nat} {T last : Int} {V : List Rp}
theorem rlremove (hr : RL W G q T last V) (hn : (mkeys V).Nodup) (h8 : V.length ≤ 1000) (t id wt : Int) (hrr : ∀ r, mlook V id = some r → 0 ≤ r.2.2.2 ∧ r.2.2.2 ≤ lat T t ∧ lat T t ≤ 1099511627776) : Calls Try.prog 42 #[.pointer (some ⟨q, 0, none⟩), .int .i64 t, .int .u64 id, .int .i64 wt] W fun e w' => e = .returned (.int .i64 (pRem (lat T t) id wt V).1) ∧ RL w' (Nw W w' G) q (lat T t) last (pRem (lat T t) id wt V).2 ∧ Tn G W w' := by
  unfold pRem
  cases hl : mlook V id with
  | none =>
    refine (rlremove_miss hr h8 t id wt hl).mono ?_
    rintro e w' ⟨rfl, h, ht⟩
    exact ⟨rfl, h.up ht, ht⟩
  | some r =>
    dsimp only
    by_cases hs : RemB (lat T t) wt r
    · rw [if_pos hs]
      exact rlremove_ok hr hn h8 t id wt r hl hs (hrr r hl)
    · rw [if_neg hs]
      refine (rlremove_state hr hn h8 t id wt r hl hs (hrr r hl)).mono ?_
      rintro e w' ⟨rfl, h, ht⟩
      exact ⟨rfl, h.up ht, ht⟩
theorem eqA_Rr (d : Nat) (w : World) (a0 b0 a1 b1 a2 b2 a3 b3 a4 b4 : Int) : (Op.equalIn (d + 2) 124 (.agg #[.int .u64 a0, .int .i64 a1, .int .u64 a2, .int .i64 a3, .int .i64 a4]) (.agg #[.int .u64 b0, .int .i64 b1, .int .u64 b2, .int .i64 b3, .int .i64 b4])).run Try.prog w = .ok (a0 == b0 && (a1 == b1 && (a2 == b2 && (a3 == b3 && a4 == b4)))) w := by
  refine eqA_of Try.underlying124 (by kernel_rfl) ?_
  refine eqf_cons (by rfl) (by go_simp; rfl) (by go_simp; rfl) (by go_simp) ?_
  refine eqf_cons (by rfl) (by go_simp; rfl) (by go_simp; rfl) (by go_simp) ?_
  refine eqf_cons (by rfl) (by go_simp; rfl) (by go_simp; rfl) (by go_simp) ?_
  refine eqf_cons (by rfl) (by go_simp; rfl) (by go_simp; rfl) (by go_simp) ?_
  exact eqf_last (by rfl) (by go_simp; rfl) (by go_simp; rfl) (by go_simp)
theorem eqRr_all (w : World) (a0 a1 a2 a3 a4 : Int) : (Op.equalIn 10000 124 (.agg #[.int .u64 a0, .int .i64 a1, .int .u64 a2, .int .i64 a3, .int .i64 a4]) (.agg #[.int .u64 a0, .int .i64 a1, .int .u64 a2, .int .i64 a3, .int .i64 a4])).run Try.prog w = .ok true w := by
  have h := eqA_Rr 9998 w a0 a0 a1 a1 a2 a2 a3 a3 a4 a4
  simp only [beq_self_eq_true, Bool.and_self] at h
  exact h
theorem eqRr_one (w : World) (a0 a1 a2 a3 a4 : Int) : (Op.equal 124 (.agg #[.int .u64 a0, .int .i64 a1, .int .u64 a2, .int .i64 a3, .int .i64 a4]) (.agg #[.int .u64 a0, .int .i64 a1, .int .u64 a2, .int .i64 a3, .int .i64 a4])).run Try.prog w = .ok true w := by
  have h := eqRr_all w a0 a1 a2 a3 a4
  simp [Op.equal, Op.maxDepth, h]
set_option maxHeartbeats 2000000 in
theorem same24_any (W : World) (A B : Option Addr) (c c' n : Nat) (V : List Rp) (hn : V.length = n) (hA : KRp.C W A n V) (hB : KRp.C W B n V) (h8 : n ≤ 1000) (hc : n ≤ c) (hc' : n ≤ c') : Calls Try.prog 45 #[.slice A n c, .slice B n c'] W fun e w' => e = .returned (.bool true) ∧ Below W.heap.size W w' := by
  have HA := Lib.hid (fun (W' : World) (hb : Below W.heap.size W W') => Kd.C_below hA hb)
  have HB := Lib.hid (fun (W' : World) (hb : Below W.heap.size W W') => Kd.C_below hB hb)
  have HN := Lib.hid hn
  clear hA hB hn
  go_enter Try.func45, Try.ntmps45
  go_wp2_with fail
  go_loopw [14] (fun iv wr => ∃ i : Nat, iv = .int .i64 i ∧ i ≤ n ∧ Hid (Below W.heap.size W wr)) (fun iv _ => n - (intOf iv).toNat)
  case atStart => exact ⟨0, rfl, by omega, Lib.hid (Below.refl _ _)⟩
  case round =>
    obtain ⟨i, rfl, hi, HBr⟩ := hrel
    by_cases hin : i < n
    · obtain ⟨ad, x, rfl, hx, c0, c1, c2, c3, c4⟩ := rps_at (by rw [HN.out]; exact HA.out wr HBr.out) i (by rw [HN.out]; exact hin)
      obtain ⟨ad2, x2, rfl, hx2, d0, d1, d2, d3, d4⟩ := rps_at (by rw [HN.out]; exact HB.out wr HBr.out) i (by rw [HN.out]; exact hin)
      rw [hx] at hx2
      injection hx2 with hx2
      subst hx2
      obtain ⟨a0, a1, a2, a3, a4⟩ := x
      dsimp only at c0 c1 c2 c3 c4 d0 d1 d2 d3 d4
      have he1 := fun w : World => eqRr_all w a0 a1 a2 a3 a4
      have he2 := fun w : World => eqRr_one w a0 a1 a2 a3 a4
      obtain ⟨Y, hY⟩ : ∃ Y, wr.alloc (.cells #[.int .u64 a0, .int .i64 a1, .int .u64 a2, .int .i64 a3, .int .i64 a4] 75) = Y := ⟨_, rfl⟩
      obtain ⟨g, hg⟩ : ∃ g, wr.heap.size = g := ⟨_, rfl⟩
      have hb := below_alloc (Below.refl wr.heap.size wr) (.cells #[.int .u64 a0, .int .i64 a1, .int .u64 a2, .int .i64 a3, .int .i64 a4] 75)
      have hbx := heap_alloc_new wr (.cells #[.int .u64 a0, .int .i64 a1, .int .u64 a2, .int .i64 a3, .int .i64 a4] 75)
      rw [hY] at hb hbx
      rw [hg] at hbx
      have y0 := blk_cell hbx 0
      have y1 := blk_cell hbx 1
      have y2 := blk_cell hbx 2
      have y3 := blk_cell hbx 3
      have y4 := blk_cell hbx 4
      have e0 := pw_cell_below hb d0
      have e1 := pw_cell_below hb d1
      have e2 := pw_cell_below hb d2
      have e3 := pw_cell_below hb d3
      have e4 := pw_cell_below hb d4
      have HBY := Lib.hid (below_then HBr.out HBr.out.size hb)
      have HBZ := Lib.hid (fun u : Nat => pw_below_drewN HBY.out u)
      clear hb hbx hx d0 d1 d2 d3 d4
      go_upto_region 6 with fail
      clear hY hg
      go_quiet (fail)
      go_wp2_with fail
      go_roundw
      case rel => exact ⟨i + 1, by go_num, by omega, Lib.hid (HBZ.out _)⟩
      case measure => simp [intOf]; omega
    · have hin2 : i = n := by omega
      subst hin2
      go_wp2_with fail
      go_ret
      exact ⟨rfl, HBr.out⟩
end
end Go.Proofs.Ytmbhicjjbgbneaa
