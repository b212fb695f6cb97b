/- The document's member list: Remove. -/
import Derived.Test.YtmbhicjjbgbneaaMbU
namespace Go.Proofs.Ytmbhicjjbgbneaa
open Go.RowKit Go.Shelf Go.Proofs.YtmbhicjjbgbneaaW.PrintWords Go.Proofs.YtmbhicjjbgbneaaW.PrintLast Go.Proofs.YtmbhicjjbgbneaaW.PrintMore
set_option linter.unusedVariables false
set_option linter.unusedSimpArgs false
set_option maxRecDepth 100000
section
variable {W W' : World} {G : Nat → Prop} {q : Nat} {T last : Int} {V : List Rp} {A : Option Addr} {c : Nat}
theorem rp_take {w : World} {Ad : Option Addr} {n i : Nat} (h : KRp.C w Ad n V) (hi : i ≤ n) : KRp.C w Ad i (V.take i) := by
  obtain ⟨h1, h2, h3⟩ := h
  refine ⟨by rw [List.length_take]; omega, by omega, fun h0 => ?_⟩
  obtain ⟨ad, e, hc⟩ := h3 (by omega)
  refine ⟨ad, e, fun j p hj => hc j p ?_⟩
  have hji : j < i := by
    have := (List.getElem?_eq_some_iff.1 hj).1
    rw [List.length_take] at this; omega
  rw [List.getElem?_take_of_lt hji] at hj
  exact hj
theorem rp_drop {w : World} {g n i : Nat} (h : KRp.C w (some ⟨g, 0, none⟩) n V) (hi : i ≤ n) (hn9 : n ≤ 1000) : KRp.C w (some ⟨g, i * 5, none⟩) (n - i) (V.drop i) := by
  obtain ⟨h1, h2, h3⟩ := h
  refine ⟨by rw [List.length_drop]; omega, by omega, fun h0 => ⟨_, rfl, fun j p hj => ?_⟩⟩
  obtain ⟨ad, e, hc⟩ := h3 (by omega)
  injection e with e
  subst e
  rw [List.getElem?_drop] at hj
  obtain ⟨cs, l, hk, hcell⟩ := hc (i + j) p hj
  refine ⟨cs, l, hk, fun k u hu => ?_⟩
  have := hcell k u hu
  have hs : KRp.sz = 5 := rfl
  rw [hs, add_plain] at this
  rw [hs]
  have e2 : ((⟨g, i * 5, none⟩ : Addr).add (j * 5 + k)) = ⟨g, (i + j) * 5 + k, none⟩ := by
    unfold Addr.add
    split
    · rename_i h0
      have : i * 5 = (i + j) * 5 + k := by simp at h0; omega
      rw [this]
    · simp; omega
  rw [e2]; exact this
theorem rp_end {w : World} {Ad : Option Addr} {i : Nat} (h : V.length = i + 1) : KRp.C w Ad 0 (V.drop (i + 1)) := by
  rw [List.drop_eq_nil_of_le (by omega)]
  exact ⟨rfl, by omega, fun h => absurd h (by omega)⟩
set_option maxHeartbeats 8000000 in
theorem rlremove_ok (hr : RL W G q T last V) (hn : (mkeys V).Nodup) (h8 : V.length ≤ 1000) (t id wt : Int) (r : R4) (hl : mlook V id = some r) (hs : RemB (lat T t) wt r) (hrr : 0 ≤ r.2.2.2 ∧ r.2.2.2 ≤ lat T t ∧ lat T t ≤ 1099511627776) : Calls Try.prog 42 #[.pointer (some ⟨q, 0, none⟩), .int .i64 t, .int .u64 id, .int .i64 wt] W fun e w' => e = .returned (.int .i64 0) ∧ RL w' (Nw W w' G) q (lat T t) last (mdel V id) ∧ Tn G W w' := by
  have HLT := Lib.hid (rllater hr t)
  have H8 := Lib.hid h8
  have HL := Lib.hid hl
  have HN := Lib.hid hn
  obtain ⟨tn, htn⟩ : ∃ x, lat T t = x := ⟨_, rfl⟩
  rw [htn] at HLT hs hrr ⊢
  clear hr h8 htn hl hn
  go_enter Try.func42, Try.ntmps42
  go_wp2_with fail
  refine HLT.out.mono ?_
  rintro e w1 ⟨rfl, hR1, hT1⟩
  have HR1 := Lib.hid hR1
  have HT1 := Lib.hid hT1
  have HP := Lib.hid (rlplace hR1 id H8.out)
  clear hR1 hT1
  go_wp2_with fail
  refine HP.out.mono ?_
  rintro e w' ⟨hp, rfl⟩
  rcases hp with ⟨i, x, hx, hxn, rfl⟩ | ⟨hno, rfl⟩
  · obtain ⟨l1, -, ldel⟩ := plc_some HN.out hx hxn
    rw [HL.out] at l1
    injection l1 with l1
    subst l1
    have hi : i < V.length := (List.getElem?_eq_some_iff.1 hx).1
    obtain ⟨A, c, h⟩ := HR1.out
    obtain ⟨⟨k0, k1, k2⟩, -⟩ := h.at_
    obtain ⟨g, rfl, hg, hgq, ⟨c0, c1, c2, c3, c4⟩, -⟩ := h.el i hi x hx
    obtain ⟨id', s, ic, b, sn⟩ := x
    dsimp only at c0 c1 c2 c3 c4 hrr hxn
    subst hxn
    obtain ⟨W2, hW2⟩ : ∃ W2, w1.alloc (.cells #[.int .u64 id', .int .i64 s, .int .u64 ic, .int .i64 b, .int .i64 sn] 124) = W2 := ⟨_, rfl⟩
    obtain ⟨b0, hb0⟩ : ∃ b0, w1.heap.size = b0 := ⟨_, rfl⟩
    have hbl : Below w1.heap.size w1 W2 := by rw [← hW2]; exact below_alloc (Below.refl _ _) _
    have hbx := heap_alloc_new w1 (.cells #[.int .u64 id', .int .i64 s, .int .u64 ic, .int .i64 b, .int .i64 sn] 124)
    rw [hW2] at hbx
    have HAT := Lib.hid (fun u : Nat => rem_at h i _ hx W2 hbl hbx u)
    rw [hb0] at HAT
    dsimp only at HAT
    obtain ⟨z0, z1, z3, z4⟩ := HAT.out 0
    have HXU := Lib.hid (fun u : Nat => (h.below hbl).below (pw_below_drewN (Below.refl _ _) u))
    have HLD := Lib.hid ldel
    have HF := Lib.hid (fun u : Nat => And.intro (show RL (W2.drewN u) G q tn last V from ⟨_, _, (h.below hbl).below (pw_below_drewN (Below.refl _ _) u)⟩) ((HT1.out.bel hbl).bel (pw_below_drewN (Below.refl W2.heap.size W2) u)))
    obtain ⟨m, hm⟩ : ∃ m, V.length = m := ⟨_, rfl⟩
    have HM := Lib.hid hm
    have HM9 := Lib.hid (show m ≤ 1000 by rw [← hm]; exact H8.out)
    rw [hm] at k2 hi
    clear ldel
    have z0' : W2.cell? ⟨q, 0, none⟩ = some (.int .i64 tn) := z0
    have z1' : W2.cell? ⟨b0, 1, none⟩ = some (.int .i64 s) := z1
    have z3' : W2.cell? ⟨b0, 3, none⟩ = some (.int .i64 b) := z3
    have z4' : W2.cell? ⟨b0, 4, none⟩ = some (.int .i64 sn) := z4
    clear h hm hg hgq hx hbl hbx HR1 z0 z1 z3 z4
    obtain ⟨rfl, hs⟩ := hs
    dsimp only at hs
    have HEQ := Lib.hid (show V.take i ++ V.drop (i + 1) = mdel V id' from by rw [HLD.out, List.eraseIdx_eq_take_drop_succ])
    have hmc : m ≤ c := by
      obtain ⟨A', c', e, h9, -⟩ := Kd.R_reads (rp_of_own (HXU.out 0).2.1)
      injection e with e1 e2 e3
      rw [e3, ← HM.out]; exact h9
    have hend : ∀ nq : Nat, True := fun _ => trivial
    clear hend
    by_cases hce : c = i + 1
    · obtain rfl : m = i + 1 := by omega
      subst hce
      have hi9 : i ≤ 1000 := by have := HM9.out; omega
      have hwi : IntKind.i64.wrap ((i : Int) + 1) = (i : Int) + 1 := by unfold IntKind.wrap; simp [IntKind.bits, IntKind.signed]; omega
      have hwt : ((i : Int) + 1).toNat = i + 1 := by omega
      have hw0 : (0 : Int) ≤ (i : Int) + 1 := by omega
      have hic : i ≤ i + 1 := by omega
      have hic3 : (i : Int) ≤ (i : Int) + 1 := by omega
      by_cases hb1 : 0 < b
      · have hb2 : ¬ tn - sn < wt := fun h => hs ⟨hb1, h⟩
        have hd1 : decide (0 < b) = true := decide_eq_true hb1
        have hd2 : decide (tn - sn < wt) = false := decide_eq_false hb2
        clear hs
        go_upto_region 6 with fail
        clear hW2 hb0
        go_quiet (fail)
        go_upto_region 8 with fail
        clear hd1 hd2 hb1 hb2 k0 k1 k2 z0' z1' z3' z4'
        have HX4 := Lib.hid (HXU.out nq)
        have HT4 := Lib.hid (HF.out nq).2
        obtain ⟨W4, hW4⟩ : ∃ W4, W2.drewN nq = W4 := ⟨_, rfl⟩
        rw [hW4] at HX4 HT4 ⊢
        clear hW4 HXU HF
        have HBD := Lib.hid (below_drew (Below.refl W4.heap.size W4))
        have HC4 := Lib.hid (show KRp.C W4.drew (some ⟨g, 0, none⟩) (i + 1) V from by have h := (HX4.out.below HBD.out).row; rw [HM.out] at h; exact h)
        have HFU := Lib.hid (fun (w5 : World) (hb : Below W4.heap.size W4 w5) => show (w5.cell? ⟨q, 2, none⟩ = some (.slice (some ⟨g, 0, none⟩) (i + 1) (i + 1)) ∧ w5.frozen? ⟨q, 2, none⟩ = false) ∧ KRp.C w5 (some ⟨g, 0, none⟩) (i + 1) V from by
          have h := HX4.out.below hb
          have h2 := h.row
          have h3 := h.at_.1.2.2
          rw [HM.out] at h2 h3
          exact ⟨⟨h3, h.at_.2.2.2⟩, h2⟩)
        have k9 : W4.drew.cell? ⟨q, 2, none⟩ = some (.slice (some ⟨g, 0, none⟩) (i + 1) (i + 1)) := (HFU.out _ HBD.out).1.1
        go_region_law (first
          | (refine Kd.R_append_rows_step KRp (Rr := KRp.K w5) (w0 := W4) (W := w5) W4.heap.size rfl _ _ 81 124 (.agg #[.int .u64 0, .int .i64 0, .int .u64 0, .int .i64 0, .int .i64 0]) 40 rfl Try.underlying81 infoRef (by rfl) (by decide) (by decide) (.slice A5 i c5) (V.take i) (V.drop (i + 1)) (some ⟨g, 0, none⟩) 0 0 (fun _ => True) (fun _ => False) (by rfl) (by rfl) HR5.out (rp_end HM.out) (fun x cs h => by rw [rp_K h]; exact rp_M _ _ _ _) (fun _ h => h.elim) (fun _ _ => trivial) HB5.out HB5.out.size (by rw [List.length_take]; have := HM9.out; omega) ?_; intro v6 w6 hr6 hb6 hg6 hat6; rw [HEQ.out] at hr6; obtain ⟨A6, c6, e6⟩ := Kd.R_slice hr6; subst e6; have HFIN := Lib.hid (HX4.out.new hb6 rfl hr6); have g5 := (HFU.out w6 hb6).1.1; have f5 := (HFU.out w6 hb6).1.2; clear hr6 hb6 hg6 hat6)
          | (refine Kd.R_append_rows_step KRp (Rr := KRp.K W4.drew) (w0 := W4) (W := W4.drew) W4.heap.size rfl _ _ 81 124 (.agg #[.int .u64 0, .int .i64 0, .int .u64 0, .int .i64 0, .int .i64 0]) 40 rfl Try.underlying81 infoRef (by rfl) (by decide) (by decide) (.slice none 0 0) [] (V.take i) (some ⟨g, 0, none⟩) i (i + 1) (fun _ => True) (fun _ => False) (by rfl) (by rfl) (Kd.R_nil _ _ _ _ _) (rp_take HC4.out (by omega)) (fun x cs h => by rw [rp_K h]; exact rp_M _ _ _ _) (fun _ h => h.elim) (fun _ _ => trivial) HBD.out HBD.out.size (by have := HM9.out; simp; omega) ?_; intro v5 w5 hr5 hb5 hg5 hat5; obtain ⟨A5, c5, e5⟩ := Kd.R_slice hr5; rw [List.nil_append, List.length_take, HM.out, show min i (i + 1) = i by omega] at e5; subst e5; have HR5 := Lib.hid (show KRp.R 124 w5 W4.heap.size (fun _ => True) (.slice A5 i c5) (V.take i) from hr5); have HB5 := Lib.hid hb5; have HC5 := Lib.hid (HFU.out w5 hb5).2; have p2 := (HFU.out w5 hb5).1.1; clear hr5 hb5 hg5 hat5))
        all_goals
          have HG := Lib.hid (rl_up2 (by simp [World.setCell]) HFIN.out.1 HT4.out HFIN.out.2)
          clear g5 f5 HFIN
          go_wp2_with fail
          go_ret
          exact ⟨rfl, HG.out.1, HG.out.2⟩
      · have hd1 : decide (0 < b) = false := decide_eq_false hb1
        clear hs
        go_upto_region 6 with fail
        clear hW2 hb0
        go_quiet (fail)
        go_upto_region 8 with fail
        clear hd1 hb1 k0 k1 k2 z0' z1' z3' z4'
        have HX4 := Lib.hid (HXU.out nq)
        have HT4 := Lib.hid (HF.out nq).2
        obtain ⟨W4, hW4⟩ : ∃ W4, W2.drewN nq = W4 := ⟨_, rfl⟩
        rw [hW4] at HX4 HT4 ⊢
        clear hW4 HXU HF
        have HBD := Lib.hid (below_drew (Below.refl W4.heap.size W4))
        have HC4 := Lib.hid (show KRp.C W4.drew (some ⟨g, 0, none⟩) (i + 1) V from by have h := (HX4.out.below HBD.out).row; rw [HM.out] at h; exact h)
        have HFU := Lib.hid (fun (w5 : World) (hb : Below W4.heap.size W4 w5) => show (w5.cell? ⟨q, 2, none⟩ = some (.slice (some ⟨g, 0, none⟩) (i + 1) (i + 1)) ∧ w5.frozen? ⟨q, 2, none⟩ = false) ∧ KRp.C w5 (some ⟨g, 0, none⟩) (i + 1) V from by
          have h := HX4.out.below hb
          have h2 := h.row
          have h3 := h.at_.1.2.2
          rw [HM.out] at h2 h3
          exact ⟨⟨h3, h.at_.2.2.2⟩, h2⟩)
        have k9 : W4.drew.cell? ⟨q, 2, none⟩ = some (.slice (some ⟨g, 0, none⟩) (i + 1) (i + 1)) := (HFU.out _ HBD.out).1.1
        go_region_law (first
          | (refine Kd.R_append_rows_step KRp (Rr := KRp.K w5) (w0 := W4) (W := w5) W4.heap.size rfl _ _ 81 124 (.agg #[.int .u64 0, .int .i64 0, .int .u64 0, .int .i64 0, .int .i64 0]) 40 rfl Try.underlying81 infoRef (by rfl) (by decide) (by decide) (.slice A5 i c5) (V.take i) (V.drop (i + 1)) (some ⟨g, 0, none⟩) 0 0 (fun _ => True) (fun _ => False) (by rfl) (by rfl) HR5.out (rp_end HM.out) (fun x cs h => by rw [rp_K h]; exact rp_M _ _ _ _) (fun _ h => h.elim) (fun _ _ => trivial) HB5.out HB5.out.size (by rw [List.length_take]; have := HM9.out; omega) ?_; intro v6 w6 hr6 hb6 hg6 hat6; rw [HEQ.out] at hr6; obtain ⟨A6, c6, e6⟩ := Kd.R_slice hr6; subst e6; have HFIN := Lib.hid (HX4.out.new hb6 rfl hr6); have g5 := (HFU.out w6 hb6).1.1; have f5 := (HFU.out w6 hb6).1.2; clear hr6 hb6 hg6 hat6)
          | (refine Kd.R_append_rows_step KRp (Rr := KRp.K W4.drew) (w0 := W4) (W := W4.drew) W4.heap.size rfl _ _ 81 124 (.agg #[.int .u64 0, .int .i64 0, .int .u64 0, .int .i64 0, .int .i64 0]) 40 rfl Try.underlying81 infoRef (by rfl) (by decide) (by decide) (.slice none 0 0) [] (V.take i) (some ⟨g, 0, none⟩) i (i + 1) (fun _ => True) (fun _ => False) (by rfl) (by rfl) (Kd.R_nil _ _ _ _ _) (rp_take HC4.out (by omega)) (fun x cs h => by rw [rp_K h]; exact rp_M _ _ _ _) (fun _ h => h.elim) (fun _ _ => trivial) HBD.out HBD.out.size (by have := HM9.out; simp; omega) ?_; intro v5 w5 hr5 hb5 hg5 hat5; obtain ⟨A5, c5, e5⟩ := Kd.R_slice hr5; rw [List.nil_append, List.length_take, HM.out, show min i (i + 1) = i by omega] at e5; subst e5; have HR5 := Lib.hid (show KRp.R 124 w5 W4.heap.size (fun _ => True) (.slice A5 i c5) (V.take i) from hr5); have HB5 := Lib.hid hb5; have HC5 := Lib.hid (HFU.out w5 hb5).2; have p2 := (HFU.out w5 hb5).1.1; clear hr5 hb5 hg5 hat5))
        all_goals
          have HG := Lib.hid (rl_up2 (by simp [World.setCell]) HFIN.out.1 HT4.out HFIN.out.2)
          clear g5 f5 HFIN
          go_wp2_with fail
          go_ret
          exact ⟨rfl, HG.out.1, HG.out.2⟩
    · have hic : i ≤ c := by omega
      have hi9 : i ≤ 1000 := by have := HM9.out; omega
      have hwi : IntKind.i64.wrap ((i : Int) + 1) = (i : Int) + 1 := by unfold IntKind.wrap; simp [IntKind.bits, IntKind.signed]; omega
      have hwt : ((i : Int) + 1).toNat = i + 1 := by omega
      have hw0 : (0 : Int) ≤ (i : Int) + 1 := by omega
      have hic2 : (i : Int) + 1 ≤ (m : Int) := by omega
      by_cases hb1 : 0 < b
      · have hb2 : ¬ tn - sn < wt := fun h => hs ⟨hb1, h⟩
        have hd1 : decide (0 < b) = true := decide_eq_true hb1
        have hd2 : decide (tn - sn < wt) = false := decide_eq_false hb2
        clear hs
        go_upto_region 6 with fail
        clear hW2 hb0
        go_quiet (fail)
        go_upto_region 8 with fail
        clear hd1 hd2 hb1 hb2 k0 k1 k2 z0' z1' z3' z4'
        have HX4 := Lib.hid (HXU.out nq)
        have HT4 := Lib.hid (HF.out nq).2
        obtain ⟨W4, hW4⟩ : ∃ W4, W2.drewN nq = W4 := ⟨_, rfl⟩
        rw [hW4] at HX4 HT4 ⊢
        clear hW4 HXU HF
        have HBD := Lib.hid (below_drew (Below.refl W4.heap.size W4))
        have HC4 := Lib.hid (show KRp.C W4.drew (some ⟨g, 0, none⟩) m V from by have h := (HX4.out.below HBD.out).row; rw [HM.out] at h; exact h)
        have HFU := Lib.hid (fun (w5 : World) (hb : Below W4.heap.size W4 w5) => show (w5.cell? ⟨q, 2, none⟩ = some (.slice (some ⟨g, 0, none⟩) m c) ∧ w5.frozen? ⟨q, 2, none⟩ = false) ∧ KRp.C w5 (some ⟨g, 0, none⟩) m V from by
          have h := HX4.out.below hb
          have h2 := h.row
          have h3 := h.at_.1.2.2
          rw [HM.out] at h2 h3
          exact ⟨⟨h3, h.at_.2.2.2⟩, h2⟩)
        have k9 : W4.drew.cell? ⟨q, 2, none⟩ = some (.slice (some ⟨g, 0, none⟩) m c) := (HFU.out _ HBD.out).1.1
        go_region_law (first
          | (refine Kd.R_append_rows_step KRp (Rr := KRp.K w5) (w0 := W4) (W := w5) W4.heap.size rfl _ _ 81 124 (.agg #[.int .u64 0, .int .i64 0, .int .u64 0, .int .i64 0, .int .i64 0]) 40 rfl Try.underlying81 infoRef (by rfl) (by decide) (by decide) (.slice A5 i c5) (V.take i) (V.drop (i + 1)) (some ⟨g, (i + 1) * 5, none⟩) (m - (i + 1)) (c - (i + 1)) (fun _ => True) (fun _ => False) (by rfl) (by rfl) HR5.out (rp_drop HC5.out (by omega) HM9.out) (fun x cs h => by rw [rp_K h]; exact rp_M _ _ _ _) (fun _ h => h.elim) (fun _ _ => trivial) HB5.out HB5.out.size (by rw [List.length_take]; have := HM9.out; omega) ?_; intro v6 w6 hr6 hb6 hg6 hat6; rw [HEQ.out] at hr6; obtain ⟨A6, c6, e6⟩ := Kd.R_slice hr6; subst e6; have HFIN := Lib.hid (HX4.out.new hb6 rfl hr6); have g5 := (HFU.out w6 hb6).1.1; have f5 := (HFU.out w6 hb6).1.2; clear hr6 hb6 hg6 hat6)
          | (refine Kd.R_append_rows_step KRp (Rr := KRp.K W4.drew) (w0 := W4) (W := W4.drew) W4.heap.size rfl _ _ 81 124 (.agg #[.int .u64 0, .int .i64 0, .int .u64 0, .int .i64 0, .int .i64 0]) 40 rfl Try.underlying81 infoRef (by rfl) (by decide) (by decide) (.slice none 0 0) [] (V.take i) (some ⟨g, 0, none⟩) i c (fun _ => True) (fun _ => False) (by rfl) (by rfl) (Kd.R_nil _ _ _ _ _) (rp_take HC4.out (by omega)) (fun x cs h => by rw [rp_K h]; exact rp_M _ _ _ _) (fun _ h => h.elim) (fun _ _ => trivial) HBD.out HBD.out.size (by have := HM9.out; simp; omega) ?_; intro v5 w5 hr5 hb5 hg5 hat5; obtain ⟨A5, c5, e5⟩ := Kd.R_slice hr5; rw [List.nil_append, List.length_take, HM.out, show min i m = i by omega] at e5; subst e5; have HR5 := Lib.hid (show KRp.R 124 w5 W4.heap.size (fun _ => True) (.slice A5 i c5) (V.take i) from hr5); have HB5 := Lib.hid hb5; have HC5 := Lib.hid (HFU.out w5 hb5).2; have p2 := (HFU.out w5 hb5).1.1; clear hr5 hb5 hg5 hat5))
        all_goals
          have HG := Lib.hid (rl_up2 (by simp [World.setCell]) HFIN.out.1 HT4.out HFIN.out.2)
          clear g5 f5 HFIN
          go_wp2_with fail
          go_ret
          exact ⟨rfl, HG.out.1, HG.out.2⟩
      · have hd1 : decide (0 < b) = false := decide_eq_false hb1
        clear hs
        go_upto_region 6 with fail
        clear hW2 hb0
        go_quiet (fail)
        go_upto_region 8 with fail
        clear hd1 hb1 k0 k1 k2 z0' z1' z3' z4'
        have HX4 := Lib.hid (HXU.out nq)
        have HT4 := Lib.hid (HF.out nq).2
        obtain ⟨W4, hW4⟩ : ∃ W4, W2.drewN nq = W4 := ⟨_, rfl⟩
        rw [hW4] at HX4 HT4 ⊢
        clear hW4 HXU HF
        have HBD := Lib.hid (below_drew (Below.refl W4.heap.size W4))
        have HC4 := Lib.hid (show KRp.C W4.drew (some ⟨g, 0, none⟩) m V from by have h := (HX4.out.below HBD.out).row; rw [HM.out] at h; exact h)
        have HFU := Lib.hid (fun (w5 : World) (hb : Below W4.heap.size W4 w5) => show (w5.cell? ⟨q, 2, none⟩ = some (.slice (some ⟨g, 0, none⟩) m c) ∧ w5.frozen? ⟨q, 2, none⟩ = false) ∧ KRp.C w5 (some ⟨g, 0, none⟩) m V from by
          have h := HX4.out.below hb
          have h2 := h.row
          have h3 := h.at_.1.2.2
          rw [HM.out] at h2 h3
          exact ⟨⟨h3, h.at_.2.2.2⟩, h2⟩)
        have k9 : W4.drew.cell? ⟨q, 2, none⟩ = some (.slice (some ⟨g, 0, none⟩) m c) := (HFU.out _ HBD.out).1.1
        go_region_law (first
          | (refine Kd.R_append_rows_step KRp (Rr := KRp.K w5) (w0 := W4) (W := w5) W4.heap.size rfl _ _ 81 124 (.agg #[.int .u64 0, .int .i64 0, .int .u64 0, .int .i64 0, .int .i64 0]) 40 rfl Try.underlying81 infoRef (by rfl) (by decide) (by decide) (.slice A5 i c5) (V.take i) (V.drop (i + 1)) (some ⟨g, (i + 1) * 5, none⟩) (m - (i + 1)) (c - (i + 1)) (fun _ => True) (fun _ => False) (by rfl) (by rfl) HR5.out (rp_drop HC5.out (by omega) HM9.out) (fun x cs h => by rw [rp_K h]; exact rp_M _ _ _ _) (fun _ h => h.elim) (fun _ _ => trivial) HB5.out HB5.out.size (by rw [List.length_take]; have := HM9.out; omega) ?_; intro v6 w6 hr6 hb6 hg6 hat6; rw [HEQ.out] at hr6; obtain ⟨A6, c6, e6⟩ := Kd.R_slice hr6; subst e6; have HFIN := Lib.hid (HX4.out.new hb6 rfl hr6); have g5 := (HFU.out w6 hb6).1.1; have f5 := (HFU.out w6 hb6).1.2; clear hr6 hb6 hg6 hat6)
          | (refine Kd.R_append_rows_step KRp (Rr := KRp.K W4.drew) (w0 := W4) (W := W4.drew) W4.heap.size rfl _ _ 81 124 (.agg #[.int .u64 0, .int .i64 0, .int .u64 0, .int .i64 0, .int .i64 0]) 40 rfl Try.underlying81 infoRef (by rfl) (by decide) (by decide) (.slice none 0 0) [] (V.take i) (some ⟨g, 0, none⟩) i c (fun _ => True) (fun _ => False) (by rfl) (by rfl) (Kd.R_nil _ _ _ _ _) (rp_take HC4.out (by omega)) (fun x cs h => by rw [rp_K h]; exact rp_M _ _ _ _) (fun _ h => h.elim) (fun _ _ => trivial) HBD.out HBD.out.size (by have := HM9.out; simp; omega) ?_; intro v5 w5 hr5 hb5 hg5 hat5; obtain ⟨A5, c5, e5⟩ := Kd.R_slice hr5; rw [List.nil_append, List.length_take, HM.out, show min i m = i by omega] at e5; subst e5; have HR5 := Lib.hid (show KRp.R 124 w5 W4.heap.size (fun _ => True) (.slice A5 i c5) (V.take i) from hr5); have HB5 := Lib.hid hb5; have HC5 := Lib.hid (HFU.out w5 hb5).2; have p2 := (HFU.out w5 hb5).1.1; clear hr5 hb5 hg5 hat5))
        all_goals
          have HG := Lib.hid (rl_up2 (by simp [World.setCell]) HFIN.out.1 HT4.out HFIN.out.2)
          clear g5 f5 HFIN
          go_wp2_with fail
          go_ret
          exact ⟨rfl, HG.out.1, HG.out.2⟩
  · exfalso
    have := look_no hno
    rw [HL.out] at this
    cases this
end
end Go.Proofs.Ytmbhicjjbgbneaa
