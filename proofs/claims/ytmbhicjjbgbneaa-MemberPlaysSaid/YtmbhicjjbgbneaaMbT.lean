/- The document's member list: Add. -/
import Derived.Test.YtmbhicjjbgbneaaMbS
import Derived.Deep.RegionHeldLaw
namespace Go.Proofs.Ytmbhicjjbgbneaa
open Go.RowKit Go.Shelf Go.Proofs.YtmbhicjjbgbneaaW.PrintWords Go.Proofs.YtmbhicjjbgbneaaW.PrintLast Go.Proofs.YtmbhicjjbgbneaaW.PrintMore
set_option linter.unusedVariables false
set_option linter.unusedSimpArgs false
set_option maxRecDepth 100000
theorem infoRef : (Try.prog.info? 124).map (fun i => (i.zero, i.size, i.bytes)) = some (some (.agg #[.int .u64 0, .int .i64 0, .int .u64 0, .int .i64 0, .int .i64 0]), 5, 40) := by kernel_rfl
theorem reps_flat (W : World) (base : Nat) (ok : Nat → Prop) (V : List Rp) : Reps (KRp.M W base ok) 5 V (flat V) := by
  refine ⟨flat_len V, fun j p hj => ?_⟩
  have hi : j < V.length := (List.getElem?_eq_some_iff.1 hj).1
  have hp : V[j] = p := by rw [List.getElem?_eq_getElem hi] at hj; injection hj
  have : ((flat V).drop (j * 5)).take 5 = rpL p := by
    apply List.ext_getElem?
    intro k
    by_cases hk : k < 5
    · rw [List.getElem?_take_of_lt hk, List.getElem?_drop, flat_get V j k hi hk, hp]
    · rw [List.getElem?_take_eq_none (by omega), List.getElem?_eq_none (by show 5 ≤ k; omega)]
  rw [this]
  exact rp_M W base ok p
theorem flat_reps {W : World} {base : Nat} {ok : Nat → Prop} {V : List Rp} {inner : List Value} (h : Reps (KRp.M W base ok) 5 V inner) : inner = flat V := by
  obtain ⟨h1, h2⟩ := h
  apply List.ext_getElem?
  intro k
  by_cases hk : k < V.length * 5
  · have hj : k / 5 < V.length := by omega
    have h3 := rp_K (KRp.K_of_M (h2 (k / 5) _ (List.getElem?_eq_getElem hj)))
    have h4 : ((inner.drop (k / 5 * 5)).take 5)[k % 5]? = (rpL V[k / 5])[k % 5]? := by rw [h3]
    rw [List.getElem?_take_of_lt (by omega), List.getElem?_drop] at h4
    have h5 := flat_get V (k / 5) (k % 5) hj (by omega)
    have h6 : k / 5 * 5 + k % 5 = k := by omega
    rw [h6] at h4 h5
    rw [h4, h5]
  · rw [List.getElem?_eq_none (by omega), List.getElem?_eq_none (by rw [flat_len]; omega)]
theorem own_of_rp {W : World} {base e : Nat} {ok : Nat → Prop} {v : Value} {V : List Rp} (h : KRp.R e W base ok v V) : W.ownsRow base e 5 v V.length (flat V) := by
  obtain ⟨-, inner, ho, hr⟩ := h
  rw [← flat_reps hr]
  exact ho
theorem rp_of_own {W : World} {base e : Nat} {v : Value} {V : List Rp} (h : W.ownsRow base e 5 v V.length (flat V)) : KRp.R e W base (fun k => v.ownBlock = some k) v V := ⟨fun _ h => h, flat V, h, reps_flat _ _ _ _⟩
section
variable {W W' : World} {G : Nat → Prop} {q : Nat} {T last : Int} {V : List Rp} {A : Option Addr} {c : Nat}
theorem RLx.row (h : RLx W G q T last V A c) : KRp.C W A V.length V := by
  obtain ⟨A', c', e, -, hC⟩ := Kd.R_reads (rp_of_own h.2.1)
  injection e with e1 e2 e3
  rw [e1]; exact hC
theorem RLx.new (h : RLx W G q T last V A c) (hb : Below W.heap.size W W') {ok : Nat → Prop} {A5 : Option Addr} {c5 : Nat} {V5 : List Rp} {n5 : Nat} (hn : V5.length = n5) (hr : KRp.R 124 W' W.heap.size ok (.slice A5 n5 c5) V5) :
    RL (W'.setCell ⟨q, 2, none⟩ (.slice A5 n5 c5)) (Nw W W' G) q T last V5 ∧ Tn G W (W'.setCell ⟨q, 2, none⟩ (.slice A5 n5 c5)) := by
  subst hn
  have hq := (hb.block q (h.2.2.2.2 q h.2.2.1)).trans h.1
  have ho := own_of_rp hr
  have hbx : (W'.setCell ⟨q, 2, none⟩ (.slice A5 V5.length c5)).heap[q]? = some (.cells #[.int .i64 T, .int .u64 last, .slice A5 V5.length c5] 83 (0, 0)) := blk_set hq 2 _
  refine ⟨⟨A5, c5, hbx, own_weaken (own_setCell ho (rl_ne hq ho) _) (Nat.zero_le _), .inl h.2.2.1, fun k hk => .inr ⟨own_base ho k hk, own_lt ho k hk⟩, fun k hk => ?_⟩, ((Tn.refl G W).bel hb).put q 2 _ (.inl h.2.2.1)⟩
  have : k < W'.heap.size := by
    rcases hk with hk | hk
    · exact Nat.lt_of_lt_of_le (h.2.2.2.2 k hk) hb.size
    · exact hk.2
  simpa [World.setCell] using this
theorem RL.up (h : RL W' G q T last V) (ht : Tn G W W') : RL W' (Nw W W' G) q T last V := by
  obtain ⟨A, c, h1, h2, h3, h4, h5⟩ := h
  exact ⟨A, c, h1, h2, .inl h3, fun k hk => .inl (h4 k hk), fun k hk => by
    rcases hk with hk | hk
    · exact h5 k hk
    · exact hk.2⟩
theorem rp_one {w : World} {b : Nat} {x : Rp} {e : TypeId} (h : w.heap[b]? = some (.cells (rpL x).toArray e (0, 0))) : KRp.C w (some ⟨b, 0, none⟩) 1 [x] := by
  refine ⟨rfl, by decide, fun _ => ⟨_, rfl, fun j p hj => ?_⟩⟩
  match j, hj with
  | 0, hj =>
    obtain rfl : x = p := by simpa using hj
    refine ⟨rpL x, rfl, KRp.K_of_M (rp_M w 0 (fun _ => True) x), fun i u hu => ?_⟩
    rw [Nat.zero_mul, Nat.zero_add, add_plain, blk_cell h, ← hu]
    simp
  | j + 1, hj => simp at hj
theorem rl_01 (h : RL W G q T last V) : W.cell? ⟨q, 0, none⟩ = some (.int .i64 T) ∧ W.cell? ⟨q, 1, none⟩ = some (.int .u64 last) := by
  obtain ⟨A, c, h⟩ := h
  exact ⟨h.at_.1.1, h.at_.1.2.1⟩
theorem rl_up2 {W3 W4 W5 : World} (hz : W4.heap.size = W5.heap.size) (h : RL W5 (Nw W3 W4 G) q T last V) (ht : Tn G W W3) (ht2 : Tn G W3 W5) : RL W5 (Nw W W5 G) q T last V ∧ Tn G W W5 := by
  obtain ⟨A, c, h1, h2, h3, h4, h5⟩ := h
  have hs := ht.size
  have hm : ∀ k, Nw W3 W4 G k → Nw W W5 G k := fun k hk => hk.imp (fun h => h) (fun h => ⟨Nat.le_trans hs h.1, by rw [← hz]; exact h.2⟩)
  refine ⟨⟨A, c, h1, h2, hm _ h3, fun k hk => hm _ (h4 k hk), fun k hk => ?_⟩, ht.trans ht2 (fun k hk => .inl hk)⟩
  rcases hk with hk | hk
  · exact h5 k (.inl hk)
  · exact hk.2
theorem rladd_many (hr : RL W G q T last V) (h8 : V.length = 8) (t : Int) : Calls Try.prog 39 #[.pointer (some ⟨q, 0, none⟩), .int .i64 t] W fun e w' => e = .returned (.tuple #[.int .u64 0, .int .i64 5]) ∧ RL w' G q (lat T t) last V ∧ Tn G W w' := by
  have HLT := Lib.hid (rllater hr t)
  obtain ⟨tn, htn⟩ : ∃ x, lat T t = x := ⟨_, rfl⟩
  rw [htn] at HLT ⊢
  have HN := Lib.hid h8
  clear hr htn h8
  go_enter Try.func39, Try.ntmps39
  go_wp2_with fail
  refine HLT.out.mono ?_
  rintro e w1 ⟨rfl, hR1, hT1⟩
  have HT1 := Lib.hid hT1
  have HR1 := Lib.hid hR1
  obtain ⟨A, c, h⟩ := hR1
  obtain ⟨⟨k0, k1, k2⟩, f0, f1, f2⟩ := h.at_
  rw [HN.out] at k2
  clear h hT1
  go_wp2_with fail
  go_ret2
  exact ⟨rfl, HR1.out, HT1.out⟩
set_option maxHeartbeats 4000000 in
theorem rladd_ok (hr : RL W G q T last V) (n : Nat) (hn : V.length = n) (h8 : n < 8) (hl0 : 0 ≤ last) (hl9 : last < 9223372036854775807) (t : Int) : Calls Try.prog 39 #[.pointer (some ⟨q, 0, none⟩), .int .i64 t] W fun e w' => e = .returned (.tuple #[.int .u64 (last + 1), .int .i64 0]) ∧ RL w' (Nw W w' G) q (lat T t) (last + 1) (V ++ [(last + 1, 1, 0, 0, lat T t)]) ∧ Tn G W w' := by
  have HLT := Lib.hid (rllater hr t)
  obtain ⟨tn, htn⟩ : ∃ x, lat T t = x := ⟨_, rfl⟩
  rw [htn] at HLT ⊢
  have HN := Lib.hid hn
  clear hr htn hn
  go_enter Try.func39, Try.ntmps39
  go_wp2_with fail
  refine HLT.out.mono ?_
  rintro e w1 ⟨rfl, hR1, hT1⟩
  obtain ⟨A, c, h⟩ := hR1
  obtain ⟨⟨k0, k1, k2⟩, f0, f1, f2⟩ := h.at_
  rw [HN.out] at k2
  have hwr : IntKind.u64.wrap (last + 1) = last + 1 := by unfold IntKind.wrap; simp [IntKind.bits, IntKind.signed]; omega
  have HX := Lib.hid (h.put1 (last + 1))
  have HTX := Lib.hid (hT1.put q 1 (.int .u64 (last + 1)) (.inl h.2.2.1))
  clear h hT1
  go_upto_region 5 with fail
  obtain ⟨W3, hW3⟩ : ∃ W3, w1.setCell ⟨q, 1, none⟩ (.int .u64 (last + 1)) = W3 := ⟨_, rfl⟩
  rw [hW3] at HX HTX ⊢
  clear hW3 k0 k1 k2 f0 f1 f2
  obtain ⟨⟨k0, k1, k2⟩, f0, f1, f2⟩ := HX.out.at_
  rw [HN.out] at k2
  have hbD := below_drew (Below.refl W3.heap.size W3)
  have hbA := below_alloc hbD (.cells #[.int .u64 (last + 1), .int .i64 1, .int .u64 0, .int .i64 0, .int .i64 tn] 124)
  have HC0 := Lib.hid (show KRp.C W3.drew A n V from by have h := (HX.out.below hbD).row; rw [HN.out] at h; exact h)
  have HC1 := Lib.hid (show KRp.C (W3.alloc (.cells #[.int .u64 (last + 1), .int .i64 1, .int .u64 0, .int .i64 0, .int .i64 tn] 124)).drew A n V from by have h := (HX.out.below hbA).row; rw [HN.out] at h; exact h)
  obtain ⟨⟨x0, x1, x2⟩, y0, y1, y2⟩ := (HX.out.below hbD).at_
  rw [HN.out] at x2
  obtain ⟨⟨u0, u1, u2⟩, v0, v1, v2⟩ := (HX.out.below hbA).at_
  rw [HN.out] at u2
  have HS0 := Lib.hid (show W3.drew.cell? ⟨q, 0, none⟩ = some (.int .i64 tn) ∧ W3.drew.cell? ⟨q, 1, none⟩ = some (.int .u64 (last + 1)) from ⟨x0, x1⟩)
  have HS1 := Lib.hid (show (W3.alloc (.cells #[.int .u64 (last + 1), .int .i64 1, .int .u64 0, .int .i64 0, .int .i64 tn] 124)).drew.cell? ⟨q, 0, none⟩ = some (.int .i64 tn) ∧ (W3.alloc (.cells #[.int .u64 (last + 1), .int .i64 1, .int .u64 0, .int .i64 0, .int .i64 tn] 124)).drew.cell? ⟨q, 1, none⟩ = some (.int .u64 (last + 1)) from ⟨u0, u1⟩)
  have HBX := Lib.hid (show (W3.alloc (.cells #[.int .u64 (last + 1), .int .i64 1, .int .u64 0, .int .i64 0, .int .i64 tn] 124)).drew.heap[W3.heap.size]? = some (.cells #[.int .u64 (last + 1), .int .i64 1, .int .u64 0, .int .i64 0, .int .i64 tn] 124 (0, 0)) from heap_alloc_new W3 _)
  have HFU := Lib.hid (fun (w5 : World) (hb : Below W3.heap.size W3 w5) => (HX.out.below hb).at_)
  have u2' : (W3.alloc (.cells #[.int .u64 (last + 1), .int .i64 1, .int .u64 0, .int .i64 0, .int .i64 tn] 124)).drew.cell? ⟨q, 2, none⟩ = some (.slice A n c) := u2
  have HBD := Lib.hid hbD
  have HBA := Lib.hid hbA
  clear hbD hbA
  go_region_law (first
      | (refine Kd.R_append_step KRp (w0 := W3) (W := w4) W3.heap.size rfl _ _ 81 124 (.agg #[.int .u64 0, .int .i64 0, .int .u64 0, .int .i64 0, .int .i64 0]) 40 rfl Try.underlying81 infoRef (by rfl) (by decide) (by decide) (.slice A4 n c4) V (last + 1, 1, 0, 0, tn) (rpL (last + 1, 1, 0, 0, tn)) (fun _ => True) (fun _ => False) (by rfl) (by rfl) (rp_M _ _ _ _) (fun _ h => h.elim) (fun _ _ => trivial) HR4.out HB4.out HB4.out.size (by rw [HN.out]; omega) ?_; intro v5 w5 hr5 hb5 hg5 hat5; obtain ⟨A5, c5, e5⟩ := Kd.R_slice hr5; rw [List.length_append, List.length_singleton, HN.out] at e5; subst e5; have HFIN := Lib.hid (HX.out.new hb5 (by rw [List.length_append, List.length_singleton, HN.out]) hr5); have g5 := (HFU.out w5 hb5).1.2.2; have f5 := (HFU.out w5 hb5).2.2.2; clear hr5 hb5 hg5 hat5)
      | (refine Kd.R_append_rows_step KRp (Rr := KRp.K w4) (w0 := W3) (W := w4) W3.heap.size rfl _ _ 81 124 (.agg #[.int .u64 0, .int .i64 0, .int .u64 0, .int .i64 0, .int .i64 0]) 40 rfl Try.underlying81 infoRef (by rfl) (by decide) (by decide) (.slice A6 n c6) V [(last + 1, 1, 0, 0, tn)] (some ⟨W3.heap.size, 0, none⟩) 1 1 (fun _ => True) (fun _ => False) (by rfl) (by rfl) HR6.out HX6.out (fun x cs h => by rw [rp_K h]; exact rp_M _ _ _ _) (fun _ h => h.elim) (fun _ _ => trivial) HB6.out HB6.out.size (by rw [HN.out]; omega) ?_; intro v5 w5 hr5 hb5 hg5 hat5; obtain ⟨A5, c5, e5⟩ := Kd.R_slice hr5; rw [List.length_append, List.length_singleton, HN.out] at e5; subst e5; have HFIN := Lib.hid (HX.out.new hb5 (by rw [List.length_append, List.length_singleton, HN.out]) hr5); have g5 := (HFU.out w5 hb5).1.2.2; have f5 := (HFU.out w5 hb5).2.2.2; clear hr5 hb5 hg5 hat5)
      | (refine Kd.R_append_rows_step KRp (Rr := KRp.K W3.drew) (w0 := W3) (W := W3.drew) W3.heap.size rfl _ _ 81 124 (.agg #[.int .u64 0, .int .i64 0, .int .u64 0, .int .i64 0, .int .i64 0]) 40 rfl Try.underlying81 infoRef (by rfl) (by decide) (by decide) (.slice none 0 0) [] V A n c (fun _ => True) (fun _ => False) (by rfl) (by rfl) (Kd.R_nil _ _ _ _ _) HC0.out (fun x cs h => by rw [rp_K h]; exact rp_M _ _ _ _) (fun _ h => h.elim) (fun _ _ => trivial) HBD.out HBD.out.size (by simp; omega) ?_; intro v4 w4 hr4 hb4 hg4 hat4; obtain ⟨A4, c4, e4⟩ := Kd.R_slice hr4; rw [List.nil_append, HN.out] at e4; subst e4; have HR4 := Lib.hid (show KRp.R 124 w4 W3.heap.size (fun _ => True) (.slice A4 n c4) V from hr4); have HB4 := Lib.hid hb4; have p0 := (HFU.out w4 hb4).1.1; have p1 := (HFU.out w4 hb4).1.2.1; clear hr4 hb4 hg4 hat4)
      | (refine Kd.R_append_rows_step KRp (Rr := KRp.K (W3.alloc (.cells #[.int .u64 (last + 1), .int .i64 1, .int .u64 0, .int .i64 0, .int .i64 tn] 124)).drew) (w0 := W3) (W := (W3.alloc (.cells #[.int .u64 (last + 1), .int .i64 1, .int .u64 0, .int .i64 0, .int .i64 tn] 124)).drew) W3.heap.size rfl _ _ 81 124 (.agg #[.int .u64 0, .int .i64 0, .int .u64 0, .int .i64 0, .int .i64 0]) 40 rfl Try.underlying81 infoRef (by rfl) (by decide) (by decide) (.slice none 0 0) [] V A n c (fun _ => True) (fun _ => False) (by rfl) (by rfl) (Kd.R_nil _ _ _ _ _) HC1.out (fun x cs h => by rw [rp_K h]; exact rp_M _ _ _ _) (fun _ h => h.elim) (fun _ _ => trivial) HBA.out (Nat.le_trans (Nat.le_refl _) HBA.out.size) (by simp; omega) ?_; intro v4 w4 hr4 hb4 hg4 hat4; obtain ⟨A6, c6, e6⟩ := Kd.R_slice hr4; rw [List.nil_append, HN.out] at e6; subst e6; have HR6 := Lib.hid (show KRp.R 124 w4 W3.heap.size (fun _ => True) (.slice A6 n c6) V from hr4); have HB6 := Lib.hid hb4; have HX6 := Lib.hid (rp_one (x := (last + 1, 1, 0, 0, tn)) ((hg4.block _ (blk_lt HBX.out) (by intro e; cases e)).trans HBX.out)); have HW6 := Lib.hid (Eq.refl w4); have p0 := (HFU.out w4 hb4).1.1; have p1 := (HFU.out w4 hb4).1.2.1; clear hr4 hb4 hg4 hat4))
  all_goals
    have hfin := HFIN.out
    obtain ⟨hrl, htn⟩ := hfin
    have HG := Lib.hid (rl_up2 (by simp [World.setCell]) hrl HTX.out htn)
    have hl1 := (rl_01 hrl).2
    have hl1' := hl1
    clear hrl htn
    go_wp2_with fail
    go_ret2
    exact ⟨rfl, HG.out.1, HG.out.2⟩
theorem rladd (hr : RL W G q T last V) (h8 : V.length ≤ 8) (hl0 : 0 ≤ last) (hl9 : last < 9223372036854775807) (t : Int) : Calls Try.prog 39 #[.pointer (some ⟨q, 0, none⟩), .int .i64 t] W fun e w' => e = .returned (.tuple #[.int .u64 (pAdd (lat T t) last V).1.1, .int .i64 (pAdd (lat T t) last V).1.2]) ∧ RL w' (Nw W w' G) q (lat T t) (pAdd (lat T t) last V).2.1 (pAdd (lat T t) last V).2.2 ∧ Tn G W w' := by
  unfold pAdd
  by_cases hn : V.length = 8
  · rw [if_pos hn]
    refine (rladd_many hr hn t).mono ?_
    rintro e w' ⟨rfl, h, ht⟩
    exact ⟨rfl, h.up ht, ht⟩
  · rw [if_neg hn]
    exact rladd_ok hr V.length rfl (by omega) hl0 hl9 t
end
end Go.Proofs.Ytmbhicjjbgbneaa
