/- The document's link: Send, Turn, New. -/
import Derived.Test.YtcelhendfjiicaaLnK
namespace Go.Proofs.Ytcelhendfjiicaa
open Go.RowKit Go.Shelf Go.Proofs.YtcelhendfjiicaaW.PrintWords Go.Proofs.YtcelhendfjiicaaW.PrintLast Go.Proofs.YtcelhendfjiicaaW.PrintMore
set_option linter.unusedVariables false
set_option linter.unusedSimpArgs false
set_option maxRecDepth 100000
attribute [local go_sem] gb_max2 gb_min2 gb_max_two gb_min_two gb_max_three gb_min_three
section
variable {W W' : World} {base q : Nat} {room : Int} {ts : List SlT} {s c d t : Int}
theorem RF.sent (h : RF W base q room ts s c d t) (u : Int) : RF (W.setCell ⟨q, 2, none⟩ (.int .u32 u)) base q room ts u c d t := by
  obtain ⟨hq, A, k, h1, h2⟩ := h
  exact ⟨hq, A, k, h1.putS u, h2.far h1 2 _⟩
theorem RF.dropped (h : RF W base q room ts s c d t) (u : Int) : RF (W.setCell ⟨q, 4, none⟩ (.int .u32 u)) base q room ts s c u t := by
  obtain ⟨hq, A, k, h1, h2⟩ := h
  exact ⟨hq, A, k, h1.putD u, h2.far h1 4 _⟩
theorem RF.turned (h : RF W base q room ts s c d t) (u : Int) : RF (W.setCell ⟨q, 5, none⟩ (.int .u32 u)) base q room ts s c d u := by
  obtain ⟨hq, A, k, h1, h2⟩ := h
  exact ⟨hq, A, k, h1.putT u, h2.far h1 5 _⟩
theorem RF.cells (h : RF W base q room ts s c d t) (n : Nat) (hn : ts.length = n) : ∃ A k, W.cell? ⟨q, 0, none⟩ = some (.int .i64 room) ∧ W.cell? ⟨q, 1, none⟩ = some (.slice A n k) ∧ W.cell? ⟨q, 2, none⟩ = some (.int .u32 s) ∧ W.cell? ⟨q, 3, none⟩ = some (.int .u32 c) ∧ W.cell? ⟨q, 4, none⟩ = some (.int .u32 d) ∧ W.cell? ⟨q, 5, none⟩ = some (.int .u32 t) ∧ n ≤ k ∧ KTs.C W A n ts ∧ ∀ j, W.frozen? ⟨q, j, none⟩ = false := by
  subst hn
  obtain ⟨A, k, h1, h2, hk, hC, -⟩ := h.parts
  obtain ⟨-, a0, a1, a2, a3, a4, a5⟩ := h1.at_
  exact ⟨A, k, a0, a1, a2, a3, a4, a5, hk, hC, fun j => h1.frz j⟩
theorem RvO.set {b n k : Nat} (h : RvO W base (.slice (some ⟨b, 0, none⟩) n k) ts) (i : Nat) (x : SlT) : RvO (W.setCell ⟨b, i, none⟩ (encT x)) base (.slice (some ⟨b, 0, none⟩) n k) (ts.set i x) := by
  obtain ⟨A', k', e, -, -⟩ := h.reads
  injection e with e1 e2 e3
  subst e2
  have h1 := Kd.own_of_R (enc := encT) (h1 := fun _ => rfl) h
  have h2 := (own_store_of (enc := encT) h1 (i : Int) x).1
  rw [show (i : Int).toNat = i by omega] at h2
  exact Kd.R_of_own (enc := encT) (h1 := fun _ => rfl) (by rw [List.length_set]; exact h2) (fun _ _ => trivial)
theorem RvO.form {A : Option Addr} {n k : Nat} (h : RvO W base (.slice A n k) ts) (hn : 0 < n) : ∃ b cells, A = some ⟨b, 0, none⟩ ∧ base ≤ b ∧ b < W.heap.size ∧ W.heap[b]? = some (.cells cells 28 (0, 0)) := by
  have h1 := Kd.own_of_R (enc := encT) (h1 := fun _ => rfl) h
  obtain ⟨-, ⟨h0, -⟩ | ⟨b, k', cur, e, hbg, hb, hnc, hcm, hcs, htk⟩⟩ := h1
  · injection h0 with e1 e2 e3
    omega
  · injection e with e1 e2 e3
    exact ⟨b, cur, e1, hbg, blk_lt hb, hb⟩
end
theorem RN.trans {W W' w2 : World} {q : Nat} (h : RN W W' q) (h' : RN W' w2 q) (hs : W.heap.size ≤ W'.heap.size) : RN W w2 q := by
  intro v hv
  rcases h' v hv with h1 | h1
  · exact h v h1
  · exact .inr (fun kk hkk => Nat.le_trans hs (h1 kk hkk))
theorem Tx8.kept {W W' : World} {B : Nat} {v : Value} {xs : List Int} (h : Tx8 W B v xs) (hk : ∀ k, B ≤ k → k < W.heap.size → W'.heap[k]? = W.heap[k]?) : Tx8 W' B v xs :=
  Kd.R_mono (Kd.R_step (Kd.R_bound h) (fun k hk' hlt => hk k hk'.2.1 hlt)) (fun _ _ => trivial)
set_option maxHeartbeats 1000000 in
theorem rsend_full (W : World) (base q : Nat) (room : Int) (ts : List SlT) (s c d t : Int) (h : RF W base q room ts s c d t) (hf : room ≤ (ts.length : Int)) (hs0 : 0 ≤ s) (hs1 : s ≤ 4294967295) (hd0 : 0 ≤ d) (hd1 : d ≤ 4294967295) (A : Option Addr) (m k : Nat) :
    Calls Try.prog 38 #[.pointer (some ⟨q, 0, none⟩), .slice A m k] W fun e w' => e = .returned (.int .i64 9) ∧ RfP W base q room ts (up s 1) c (up d 1) t w' := by
  have HUS := Lib.hid (fun W => rup_any s hs0 hs1 W)
  have HUD := Lib.hid (fun W => rup_any d hd0 hd1 W)
  have HR := Lib.hid h
  obtain ⟨n, hn⟩ : ∃ n, ts.length = n := ⟨_, rfl⟩
  have HN := Lib.hid hn
  obtain ⟨us, hus⟩ : ∃ u, up s 1 = u := ⟨_, rfl⟩
  obtain ⟨ud, hud⟩ : ∃ u, up d 1 = u := ⟨_, rfl⟩
  rw [hus] at HUS ⊢
  rw [hud] at HUD ⊢
  obtain ⟨A0, k0, q0, q1, q2, q3, q4, q5, -, -, ff⟩ := h.cells n hn
  have f2 := ff 2
  rw [hn] at hf
  clear h hus hud ff hn
  go_enter Try.func38, Try.ntmps38
  go_wp2_with fail
  refine (HUS.out _).mono ?_
  rintro e w' ⟨rfl, rfl⟩
  go_upto_region 2 with fail
  have HR2 := Lib.hid (HR.out.sent us)
  have HL2 := Lib.hid ((Lg.refl q none W).put 2 (.int .u32 us))
  have HNW2 := Lib.hid ((RN.refl W q).put HR.out 2 (.int .u32 us) (by decide))
  obtain ⟨w2, hw2⟩ : ∃ w2, W.setCell ⟨q, 2, none⟩ (.int .u32 us) = w2 := ⟨_, rfl⟩
  rw [hw2] at HR2 HL2 HNW2 ⊢
  clear q0 q1 q2 q3 q4 q5 f2 hw2
  obtain ⟨A1, k1, q0, q1, -, -, q4, -, -, -, ff⟩ := HR2.out.cells n HN.out
  have f4 := ff 4
  clear ff
  go_quiet (fail)
  have HR3 := Lib.hid (HR2.out.below (pw_below_drewN (Below.refl _ w2) nq))
  have HL3 := Lib.hid (HL2.out.bel (pw_below_drewN (Below.refl _ w2) nq))
  have HNW3 := Lib.hid (HNW2.out.bel HR2.out (pw_below_drewN (Below.refl _ w2) nq))
  obtain ⟨w3, hw3⟩ : ∃ w3, w2.drewN nq = w3 := ⟨_, rfl⟩
  rw [hw3] at HR3 HL3 HNW3 ⊢
  clear q0 q1 q4 f4 hw3
  obtain ⟨A1, k1, q0, q1, -, -, q4, -, -, -, ff⟩ := HR3.out.cells n HN.out
  have f4 := ff 4
  clear ff
  go_wp2_with fail
  refine (HUD.out _).mono ?_
  rintro e w' ⟨rfl, rfl⟩
  go_wp2_with fail
  go_ret
  exact ⟨rfl, HR3.out.dropped ud, HL3.out.put 4 _, HNW3.out.put HR3.out 4 _ (by decide)⟩
set_option maxHeartbeats 2000000 in
theorem rsend_ok (W : World) (base q : Nat) (room : Int) (ts : List SlT) (s c d t : Int) (h : RF W base q room ts s c d t) (hf : (ts.length : Int) < room) (hn9 : ts.length ≤ 1000000) (hs0 : 0 ≤ s) (hs1 : s ≤ 4294967295) (A : Option Addr) (m k : Nat) (bs : List Int) (hm : bs.length = m) (hmk : m ≤ k) (hm9 : m ≤ 140737488351232) (hx : (Kd.int .u8).C W A m bs) (hA : ∀ ad, A = some ad → 0 < m → ad.block ≠ q) :
    Calls Try.prog 38 #[.pointer (some ⟨q, 0, none⟩), .slice A m k] W fun e w' => e = .returned (.int .i64 0) ∧ ∃ x, Tx8 w' W.heap.size (encT x) bs ∧ RfP W base q room (ts ++ [x]) (up s 1) c d t w' := by
  have HUS := Lib.hid (fun W => rup_any s hs0 hs1 W)
  have HR := Lib.hid h
  obtain ⟨n, hn⟩ : ∃ n, ts.length = n := ⟨_, rfl⟩
  have HN := Lib.hid hn
  obtain ⟨us, hus⟩ : ∃ u, up s 1 = u := ⟨_, rfl⟩
  rw [hus] at HUS ⊢
  obtain ⟨A0, k0, q0, q1, q2, q3, q4, q5, -, -, ff⟩ := h.cells n hn
  have f2 := ff 2
  rw [hn] at hf hn9
  have HM := Lib.hid hm
  have HX2 := Lib.hid (show (Kd.int .u8).C (W.setCell ⟨q, 2, none⟩ (.int .u32 us)) A m bs by
    refine ⟨hx.1, hx.2.1, fun hp => ?_⟩
    obtain ⟨ad, e, hc⟩ := hx.2.2 hp
    refine ⟨ad, e, fun j p hj => ?_⟩
    obtain ⟨cs, h1, h2, h3⟩ := hc j p hj
    refine ⟨cs, h1, h2, fun i u hu => ?_⟩
    rw [← h3 i u hu]
    unfold World.cell?
    rw [Below.heap_setCell W ⟨q, 2, none⟩ _ _ (by rw [add_block]; exact hA ad e (by omega))])
  clear h hus ff hn hx hm hA
  go_enter Try.func38, Try.ntmps38
  go_wp2_with fail
  refine (HUS.out _).mono ?_
  rintro e w' ⟨rfl, rfl⟩
  go_upto_region 2 with fail
  have HR2 := Lib.hid (HR.out.sent us)
  have HL2 := Lib.hid ((Lg.refl q none W).put 2 (.int .u32 us))
  have HNW2 := Lib.hid ((RN.refl W q).put HR.out 2 (.int .u32 us) (by decide))
  obtain ⟨w2, hw2⟩ : ∃ w2, W.setCell ⟨q, 2, none⟩ (.int .u32 us) = w2 := ⟨_, rfl⟩
  rw [hw2] at HR2 HL2 HNW2 HX2 ⊢
  clear q0 q1 q2 q3 q4 q5 f2 hw2
  obtain ⟨A1, k1, q0, q1, -, -, q4, -, -, -, -⟩ := HR2.out.cells n HN.out
  go_quiet (fail)
  have hbq := pw_below_drewN (Below.refl w2.heap.size w2) nq
  have HR3 := Lib.hid (HR2.out.below hbq)
  have HL3 := Lib.hid (HL2.out.bel hbq)
  have HNW3 := Lib.hid (HNW2.out.bel HR2.out hbq)
  have HX3 := Lib.hid (Kd.C_below HX2.out hbq)
  obtain ⟨w3, hw3⟩ : ∃ w3, w2.drewN nq = w3 := ⟨_, rfl⟩
  rw [hw3] at HR3 HL3 HNW3 HX3 ⊢
  clear q0 q1 q4 hw3 hbq
  obtain ⟨A1, k1, -, q1, -, -, -, -, hk1, hC1, -⟩ := HR3.out.cells n HN.out
  have HC1 := Lib.hid hC1
  have HS3 := Lib.hid (show W.heap.size ≤ w3.heap.size from HL3.out.size)
  clear hC1
  go_wp2_with (first
    | (at_builtin; refine Kd.R_append_rows KTs (Rr := KTs.K w3) (w0 := w3) (W := w3) w3.heap.size rfl _ _ 22 28 (.slice none 0 0) 24 rfl Try.underlying22 infoBytes (by rfl) (by decide) (by decide) (.slice none 0 0) [] ts A1 n k1 (fun _ => True) (fun _ => False) (by rfl) (by rfl) (Kd.R_nil _ _ _ _ _) HC1.out (fun _ _ h => h) (fun _ h => h.elim) (fun _ _ => trivial) (Below.refl _ _) (Nat.le_refl _) (by simp; omega) ?_; intro v4 w4 hr4 hb4 hg4 hat4; have hv4 := RvO.reads (show RvO w4 w3.heap.size v4 ts from hr4); obtain ⟨A4, k4, hv4, -, -⟩ := hv4; rw [HN.out] at hv4; subst hv4; have HR4 := Lib.hid (show RvO w4 w3.heap.size (.slice A4 n k4) ts from hr4); have HB4 := Lib.hid hb4; have HX4 := Lib.hid (Kd.C_below HX3.out hb4); clear hr4 hb4 hg4 hat4)
    | (at_builtin; refine Kd.R_append_row (w0 := w4) (W := w4) (Value.int .u8) 0 (h1 := fun _ => rfl) w4.heap.size rfl _ _ 28 5 (.int .u8 0) 1 rfl Try.underlying28 infoU8b rfl (by decide) (.slice none 0 0) [] bs A m k (fun _ => True) (by rfl) (by rfl) (fun _ _ => trivial) (Kd.R_nil _ _ _ _ _) HX4.out (Below.refl _ _) (Nat.le_refl _) (by simp; omega) ?_; intro v5 w5 hr5 hb5 hg5 hat5; obtain ⟨A5, k5, hv5, -, -⟩ := Kd.R_reads hr5; rw [List.nil_append, HM.out] at hv5; subst hv5; have HT5 := Lib.hid (show Tx8 w5 w4.heap.size (.slice A5 m k5) bs from hr5); have HR5 := Lib.hid (HR4.out.below hb5); have HB5 := Lib.hid (below_then HB4.out HB4.out.size hb5); have HW5 := Lib.hid (Nat.le_trans HB4.out.size hb5.size); have HW4 := Lib.hid HB4.out.size; clear hr5 hb5 hg5 hat5)
    | (at_builtin; refine Kd.R_append KTs (w0 := w3) (W := w5) w3.heap.size rfl _ _ 22 28 (.slice none 0 0) 24 rfl Try.underlying22 infoBytes (by rfl) (by decide) (by decide) (.slice A4 n k4) ts (A5, m, k5) [.slice A5 m k5] (fun _ => True) (fun _ => False) (by rfl) (by rfl) rfl (fun _ h => h.elim) (fun _ _ => trivial) HR5.out HB5.out HW5.out (by rw [HN.out]; omega) ?_; intro v6 w6 hr6 hb6 hg6 hat6; have hv6 := RvO.reads (show RvO w6 w3.heap.size v6 (ts ++ [(A5, m, k5)]) from hr6); obtain ⟨A6, k6, hv6, -, -⟩ := hv6; subst hv6; have HP := Lib.hid (HR3.out.turn hb6 (show RvO w6 w3.heap.size _ (ts ++ [(A5, m, k5)]) from hr6)); have HT6 := Lib.hid (show Tx8 w6 w4.heap.size (.slice A5 m k5) bs from HT5.out.kept (fun kk hkk hlt => hg6.block kk hlt (fun e => by have := own_lt (Kd.own_of_R (enc := encT) (h1 := fun _ => rfl) HR4.out) kk e.symm; omega))); obtain ⟨A7, k7, -, q1, -, -, -, -, -, -, ff⟩ := (HR3.out.below hb6).cells n HN.out; have f1 := ff 1; clear ff hr6 hb6 hg6 hat6))
  go_ret
  have hq : q < W.heap.size := by obtain ⟨_, _, _, _, _, _, _, hq⟩ := HR.out.parts; exact hq
  have h34 := HW4.out
  have hS3 := HS3.out
  have hP := HP.out
  rw [List.length_append, List.length_singleton] at hP
  exact ⟨rfl, (A5, m, k5), (HT6.out.far (by omega) 1 _).lower (by omega), hP.1, HL3.out.trans hP.2.1 (GN.refl _ _), RN.trans HNW3.out hP.2.2 HL3.out.size⟩
end Go.Proofs.Ytcelhendfjiicaa
