/- What a link does: Send, Twice, Clear, Counts. -/
import Derived.Test.YtcelhendfjiicaaLnB
namespace Go.Proofs.Ytcelhendfjiicaa
open Go.RowKit Go.Shelf Go.Proofs.YtcelhendfjiicaaW.PrintWords Go.Proofs.YtcelhendfjiicaaW.PrintLast Go.Proofs.YtcelhendfjiicaaW.PrintMore
set_option linter.unusedVariables false
set_option linter.unusedSimpArgs false
set_option maxRecDepth 100000
attribute [local go_sem] gb_max2 gb_min2 gb_max_two gb_min_two gb_max_three gb_min_three

theorem clone8b_any (A : Option Addr) (c : Nat) (xs : List Int) (w : World) (hx : (Kd.int .u8).C w A xs.length xs) (hc : xs.length ≤ c) (hn : xs.length ≤ 140737488351232) :
    Calls Try.prog 44 #[.slice A xs.length c] w fun e w' => ∃ v, e = .returned v ∧ (Kd.int .u8).R 5 w' w.heap.size (fun _ => True) v xs ∧ Below w.heap.size w w' := by
  cases A with
  | none =>
    have h0 : xs = [] := by
      cases xs with
      | nil => rfl
      | cons x l => obtain ⟨ad, c, h, _⟩ := Kd.C_get hx 0 0 (by omega) (by simp); simp at h
    subst h0
    have he := fun W : World => Lib.run_eql_slice_nil (P := Try.prog) W 28 5 none 0 c 0 0 Try.underlying28
    clear hx
    go_enter Try.func44, Try.ntmps44
    go_wp2_with fail
    go_ret
    exact ⟨_, rfl, Kd.R_nil _ _ _ _ _, Below.refl _ _⟩
  | some a =>
    have HX := Lib.hid (Kd.C_below hx ((Below.refl _ w).alloc (Nat.le_refl _) (.cells #[] 5)))
    have HO := Lib.hid (R_empty8 w w.heap.size (Nat.le_refl _))
    have HB := Lib.hid ((Below.refl _ w).alloc (Nat.le_refl _) (.cells #[] 5))
    clear hx
    have he := fun W : World => Lib.run_eql_slice_nil (P := Try.prog) W 28 5 (some a) xs.length c 0 0 Try.underlying28
    go_enter Try.func44, Try.ntmps44
    go_wp2_with (at_builtin; refine Kd.R_append_row (w0 := w) (Value.int .u8) 0 (h1 := fun _ => rfl) w.heap.size rfl _ _ 28 5 (.int .u8 0) 1 rfl Try.underlying28 infoByte rfl (by decide) _ [] xs (some a) xs.length c (fun _ => True) rfl rfl (fun _ _ => trivial) HO.out HX.out HB.out (by simp) (by simp; omega) ?_; intro v1 w1 hr hb hg hat)
    go_ret
    exact ⟨_, rfl, hr, hb⟩
theorem clone8_k (A : Option Addr) (k : Nat) (bs : List Int) (m : Nat) (hm : bs.length = m) (W : World) (hx : (Kd.int .u8).C W A m bs) (hc : m ≤ k) (hl : m ≤ 140737488351232) : Calls Try.prog 44 #[.slice A m k] W (CloneR bs W) := by
  subst hm; exact clone8b_any A k bs W hx hc hl
set_option maxHeartbeats 1000000 in
theorem lnsend_full (W : World) (base p : Nat) (g : Option Nat) (room : Int) (vs : List Value) (s c d t : Int) (h : Ln W base p g room vs s c d t) (hr : 0 < room) (hf : (vs.length : Int) = room) (hn : vs.length ≤ 1000000) (hs0 : 0 ≤ s) (hs1 : s ≤ 4294967295) (hd0 : 0 ≤ d) (hd1 : d ≤ 4294967295) (A : Option Addr) (k : Nat) (bs : List Int) (hx : ∀ W', KB p W W' → (Kd.int .u8).C W' A bs.length bs) (hc : bs.length ≤ k) (hl : bs.length ≤ 140737488351232) :
    Calls Try.prog 12 #[.pointer (some ⟨p, 0, none⟩), .slice A bs.length k] W fun e w' => e = .returned (.int .i64 9) ∧ Ln w' base p g room vs (up s 1) c (up d 1) t ∧ Lg p g W w' := by
  have HLN := Lib.hid h
  have hbp := h.1
  have HX := Lib.hid hx
  obtain ⟨hpl, -, -, ⟨k2, k3⟩, -⟩ := h.at_
  obtain ⟨n, hnn⟩ : ∃ n, vs.length = n := ⟨_, rfl⟩
  obtain ⟨m, hmm⟩ : ∃ m, bs.length = m := ⟨_, rfl⟩
  have HN := Lib.hid hnn
  have HM := Lib.hid hmm
  have HO := Lib.hid (lnok_any W base p g room vs s c d t h hr)
  have HUP := Lib.hid (fun (W : World) => up_any s 1 W hs0 hs1 (by omega) (by omega))
  have HUD := Lib.hid (fun (W : World) => up_any d 1 W hd0 hd1 (by omega) (by omega))
  obtain ⟨u, hu⟩ : ∃ u, up s 1 = u := ⟨_, rfl⟩
  obtain ⟨ud, hud⟩ : ∃ ud, up d 1 = ud := ⟨_, rfl⟩
  unfold ctr at HUP HUD
  rw [hu] at HUP ⊢
  rw [hud] at HUD
  try rw [hud]
  rw [hnn] at hn hf
  rw [hmm] at hc hl HX ⊢
  clear h hx hnn hmm hu hud
  go_enter Try.func12, Try.ntmps12
  go_wp2_with fail
  refine HO.out.mono ?_
  rintro e w' ⟨rfl, rfl⟩
  go_wp2_with fail
  refine (HUP.out W).mono ?_
  rintro e w1 ⟨rfl, hb1⟩
  have HL1 := Lib.hid (HLN.out.below hb1)
  have HG1 := Lib.hid ((Lg.refl p g W).bel hb1)
  have HK1 := Lib.hid (KB.of (p := p) hb1)
  clear k2 k3 hb1
  obtain ⟨-, -, -, ⟨k2, k3⟩, -⟩ := HL1.out.at_
  have f2 := HL1.out.frz 2
  have f3 := HL1.out.frz 3
  go_wp2_with fail
  obtain ⟨W2, hW2⟩ : ∃ W2, (w1.setCell ⟨p, 2, none⟩ (.int .u32 u)).setCell ⟨p, 3, none⟩ (.int .u32 4294967295) = W2 := ⟨_, rfl⟩
  have hL2 := HL1.out.putS u
  have HG2 := Lib.hid (show Lg p g W W2 by rw [← hW2]; exact (HG1.out.put 2 _).put 3 _)
  have HK2 := Lib.hid (show KB p W W2 by rw [← hW2]; exact (HK1.out.set 2 _).set 3 _)
  rw [hW2] at hL2 ⊢
  obtain ⟨-, k0, ⟨A1, c1, k1, hc1, hgv, ho1⟩, -, -, ⟨k6, k7⟩, -⟩ := hL2.at_
  have f6 := hL2.frz 6
  have f7 := hL2.frz 7
  rw [HN.out] at k1 hc1 hgv ho1
  have HL2 := Lib.hid hL2
  have HGV := Lib.hid hgv
  have HO2 := Lib.hid ho1
  clear k2 k3 f2 f3 hW2 hL2 hgv ho1
  have g0 : ((n : Int) == room) = true := by simpa using hf
  clear hf
  go_quiet (fail)
  go_wp2_with fail
  refine (HUD.out _).mono ?_
  rintro e w3 ⟨rfl, hb3⟩
  have hbn := pw_below_drewN (Below.refl W2.heap.size W2) nq
  have HL3 := Lib.hid ((HL2.out.below hbn).below hb3)
  have HG3 := Lib.hid ((HG2.out.bel hbn).bel hb3)
  clear hb3 hbn k0 k1 k6 k7 f6 f7
  obtain ⟨-, -, -, -, -, ⟨k6, k7⟩, -⟩ := HL3.out.at_
  have f6 := HL3.out.frz 6
  have f7 := HL3.out.frz 7
  go_wp2_with fail
  go_ret
  exact ⟨rfl, HL3.out.putD ud, (HG3.out.put 6 _).put 7 _⟩
set_option maxHeartbeats 2000000 in
theorem lnsend_ok (W : World) (base p : Nat) (g : Option Nat) (room : Int) (vs : List Value) (s c d t : Int) (h : Ln W base p g room vs s c d t) (hr : 0 < room) (hf : (vs.length : Int) ≠ room) (hn : vs.length ≤ 1000000) (hs0 : 0 ≤ s) (hs1 : s ≤ 4294967295) (hd0 : 0 ≤ d) (hd1 : d ≤ 4294967295) (A : Option Addr) (k : Nat) (bs : List Int) (hx : ∀ W', KB p W W' → (Kd.int .u8).C W' A bs.length bs) (hc : bs.length ≤ k) (hl : bs.length ≤ 140737488351232) :
    Calls Try.prog 12 #[.pointer (some ⟨p, 0, none⟩), .slice A bs.length k] W fun e w' => ∃ x, Tx8 w' W.heap.size x bs ∧ e = .returned (.int .i64 0) ∧ LnP W base p g room (vs ++ [x]) (up s 1) c d t w' := by
  have HLN := Lib.hid h
  have hbp := h.1
  have HX := Lib.hid hx
  obtain ⟨hpl, -, -, ⟨k2, k3⟩, -⟩ := h.at_
  obtain ⟨n, hnn⟩ : ∃ n, vs.length = n := ⟨_, rfl⟩
  obtain ⟨m, hmm⟩ : ∃ m, bs.length = m := ⟨_, rfl⟩
  have HN := Lib.hid hnn
  have HM := Lib.hid hmm
  have HO := Lib.hid (lnok_any W base p g room vs s c d t h hr)
  have HUP := Lib.hid (fun (W : World) => up_any s 1 W hs0 hs1 (by omega) (by omega))
  have HUD := Lib.hid (fun (W : World) => up_any d 1 W hd0 hd1 (by omega) (by omega))
  obtain ⟨u, hu⟩ : ∃ u, up s 1 = u := ⟨_, rfl⟩
  obtain ⟨ud, hud⟩ : ∃ ud, up d 1 = ud := ⟨_, rfl⟩
  unfold ctr at HUP HUD
  rw [hu] at HUP ⊢
  rw [hud] at HUD
  try rw [hud]
  rw [hnn] at hn hf
  rw [hmm] at hc hl HX ⊢
  clear h hx hnn hmm hu hud
  go_enter Try.func12, Try.ntmps12
  go_wp2_with fail
  refine HO.out.mono ?_
  rintro e w' ⟨rfl, rfl⟩
  go_wp2_with fail
  refine (HUP.out W).mono ?_
  rintro e w1 ⟨rfl, hb1⟩
  have HL1 := Lib.hid (HLN.out.below hb1)
  have HG1 := Lib.hid ((Lg.refl p g W).bel hb1)
  have HK1 := Lib.hid (KB.of (p := p) hb1)
  clear k2 k3 hb1
  obtain ⟨-, -, -, ⟨k2, k3⟩, -⟩ := HL1.out.at_
  have f2 := HL1.out.frz 2
  have f3 := HL1.out.frz 3
  go_wp2_with fail
  obtain ⟨W2, hW2⟩ : ∃ W2, (w1.setCell ⟨p, 2, none⟩ (.int .u32 u)).setCell ⟨p, 3, none⟩ (.int .u32 4294967295) = W2 := ⟨_, rfl⟩
  have hL2 := HL1.out.putS u
  have HG2 := Lib.hid (show Lg p g W W2 by rw [← hW2]; exact (HG1.out.put 2 _).put 3 _)
  have HK2 := Lib.hid (show KB p W W2 by rw [← hW2]; exact (HK1.out.set 2 _).set 3 _)
  rw [hW2] at hL2 ⊢
  obtain ⟨-, k0, ⟨A1, c1, k1, hc1, hgv, ho1⟩, -, -, ⟨k6, k7⟩, -⟩ := hL2.at_
  have f6 := hL2.frz 6
  have f7 := hL2.frz 7
  rw [HN.out] at k1 hc1 hgv ho1
  have HL2 := Lib.hid hL2
  have HGV := Lib.hid hgv
  have HO2 := Lib.hid ho1
  clear k2 k3 f2 f3 hW2 hL2 hgv ho1
  have g0 : ((n : Int) == room) = false := by simpa using hf
  clear hf
  go_quiet (fail)
  go_wp2_with fail
  obtain ⟨W3, hW3⟩ : ∃ W3, W2.drewN nq = W3 := ⟨_, rfl⟩
  have hbn : Below W2.heap.size W2 W3 := by rw [← hW3]; exact pw_below_drewN (Below.refl _ W2) nq
  have HL3 := Lib.hid (HL2.out.below hbn)
  have HG3 := Lib.hid (HG2.out.bel hbn)
  have HO3 := Lib.hid (pw_own_below HO2.out hbn)
  have HK3 := Lib.hid (HK2.out.trans (KB.of hbn))
  rw [hW3]
  have hbs : base ≤ W3.heap.size := Nat.le_trans hbp (Nat.le_of_lt HL3.out.at_.1)
  have q1 := pw_cell_below hbn k1
  have q0 := pw_cell_below hbn k0
  have HQ1 := Lib.hid q1
  have HWS := Lib.hid (show W.heap.size ≤ W3.drew.heap.size from HG3.out.size)
  have HCL := Lib.hid (fun (W' : World) (hb : KB p W W') => clone8_k A k bs m HM.out W' (HX.out W' hb) hc hl)
  clear k0 k1 k6 k7 f6 f7 hbn q0 hW3
  go_region_law (first
      | (refine step_append_cells (w0 := W3) (W := w4) base rfl _ _ 22 28 (.slice none 0 0) 1 24 rfl Try.underlying22 infoBytes rfl (by decide) (by decide) (.slice A1 n c1) n vs [.slice A4 bs.length c4] rfl rfl rfl (by simp [Value.oneCell']) (pw_own_below HO3.out HB4.out) (HB4.out.mono hbs) (Nat.le_trans hbs HB4.out.size) (by omega) ?_; intro v5 w5 ho5 hb5 hg5 hat5; obtain ⟨A5, c5, hv5⟩ := own_slice ho5; subst hv5; have HO5 := Lib.hid ho5; have HG5 := Lib.hid (show w4.grownBy w5 g from HGV.out ▸ hg5); have HAT := Lib.hid (show GN w4 g (Value.slice A5 (n + 1) c5).ownBlock from HGV.out ▸ hat5); obtain ⟨⟨u5, q5⟩, f5⟩ := (HL3.out.below HB4.out).app_cell HG5.out; clear ho5 hb5 hg5 hat5 q4 q4')
      | (go_simp; go_at_call 44; refine (HCL.out _ (by first | exact HK3.out | exact ⟨HK3.out.1, HK3.out.2⟩)).mono ?_; unfold CloneR; rintro e w4 ⟨v4, rfl, hr4, hb4⟩; obtain ⟨A4, c4, hv4, -, -⟩ := Kd.R_reads hr4; subst hv4; have HB4 := Lib.hid (show Below W3.heap.size W3 w4 from ⟨hb4.os, hb4.tape, hb4.output, hb4.size, hb4.block⟩); have HR4 := Lib.hid (show Tx8 w4 W.heap.size (.slice A4 bs.length c4) bs from Kd.R_lower hr4 HWS.out); have q4 := pw_cell_below HB4.out (show W3.cell? ⟨p, 1, none⟩ = some (.slice A1 n c1) from HQ1.out); have q4' : ∀ o : Obj, (w4.alloc o).cell? ⟨p, 1, none⟩ = some (.slice A1 n c1) := (fun o => pw_cell_below (below_alloc (Below.refl _ w4) o) q4); clear hr4 hb4))
  all_goals
    have HF5 := Lib.hid (show Lg p g w4 (w5.setCell ⟨p, 1, none⟩ (.slice A5 (n + 1) c5)) from ((Lg.refl p g w4).grown HG5.out (fun k hk => .inl hk)).put 1 _)
    go_wp2_with fail
    go_ret
    exact ⟨_, HR4.out.keep (HL3.out.below HB4.out) HF5.out, rfl, Ln.app (HG3.out.bel HB4.out) (HL3.out.below HB4.out) ⟨_, _, _, rfl⟩ (by rw [HN.out]; exact HO5.out) HG5.out HAT.out⟩
set_option maxHeartbeats 1000000 in
theorem lntwice_full (W : World) (base p : Nat) (g : Option Nat) (room : Int) (vs : List Value) (s c d t : Int) (h : Ln W base p g room vs s c d t) (hr : 0 < room) (hf : (vs.length : Int) = room) (i : Nat) (hi : i < vs.length) :
    Calls Try.prog 24 #[.pointer (some ⟨p, 0, none⟩), .int .i64 i] W fun e w' => e = .returned (.int .i64 9) ∧ Below W.heap.size W w' := by
  have HA := Lib.hid (lnask_in W base p g room vs s c d t h hr i (by omega) (by omega))
  obtain ⟨-, k0, ⟨A1, c1, k1, hc1, hgv, ho1⟩, -⟩ := h.at_
  obtain ⟨n, hnn⟩ : ∃ n, vs.length = n := ⟨_, rfl⟩
  rw [hnn] at k1 hf
  have g0 : ((n : Int) == room) = true := by simpa using hf
  clear h hi hf hc1 hgv ho1 hnn
  go_enter Try.func24, Try.ntmps24
  go_wp2_with fail
  refine HA.out.mono ?_
  rintro e w' ⟨rfl, rfl⟩
  go_wp2_with fail
  go_quiet (fail)
  go_wp2_with fail
  go_ret
  exact ⟨rfl, pw_below_drewN (Below.refl W.heap.size W) _⟩
set_option maxHeartbeats 2000000 in
theorem lntwice_ok (W : World) (base p : Nat) (g : Option Nat) (room : Int) (vs : List Value) (s c d t : Int) (h : Ln W base p g room vs s c d t) (hr : 0 < room) (hf : (vs.length : Int) ≠ room) (i : Nat) (hi : i < vs.length) (hn : vs.length ≤ 1000000) (bs : List Int) (hT : Tx8 W base (vs.getD i undef) bs) (hl : bs.length ≤ 140737488351232) :
    Calls Try.prog 24 #[.pointer (some ⟨p, 0, none⟩), .int .i64 i] W fun e w' => ∃ x, Tx8 w' W.heap.size x bs ∧ e = .returned (.int .i64 0) ∧ LnP W base p g room (vs ++ [x]) s c d t w' := by
  have HLN := Lib.hid h
  have hbp := h.1
  have HA := Lib.hid (lnask_in W base p g room vs s c d t h hr i (by omega) (by omega))
  obtain ⟨b, c1, hgb, k1, hc1, ki, -, ho1⟩ := h.get i hi
  obtain ⟨Ax, cx, hxv, hcx, hC⟩ := hT.reads
  rw [hxv] at ki
  have k0 := h.at_.2.1
  obtain ⟨n, hnn⟩ : ∃ n, vs.length = n := ⟨_, rfl⟩
  obtain ⟨m, hmm⟩ : ∃ m, bs.length = m := ⟨_, rfl⟩
  rw [hnn] at k1 hf hc1 ho1 hi hn
  rw [hmm] at ki hcx hC hl
  have g0 : ((n : Int) == room) = false := by simpa using hf
  have HN := Lib.hid hnn
  have HM := Lib.hid hmm
  have HGV := Lib.hid (show (Value.slice (some ⟨b, 0, none⟩) n c1).ownBlock = g from hgb.symm)
  have HO2 := Lib.hid ho1
  have HC := Lib.hid hC
  clear h hf hgb ho1 hnn hmm hT hxv hC
  go_enter Try.func24, Try.ntmps24
  go_wp2_with fail
  refine HA.out.mono ?_
  rintro e w' ⟨rfl, rfl⟩
  go_wp2_with fail
  go_quiet (fail)
  go_wp2_with fail
  obtain ⟨W3, hW3⟩ : ∃ W3, W.drewN nq = W3 := ⟨_, rfl⟩
  have hbn : Below W.heap.size W W3 := by rw [← hW3]; exact pw_below_drewN (Below.refl _ W) nq
  have HL3 := Lib.hid (HLN.out.below hbn)
  have HG3 := Lib.hid ((Lg.refl p g W).bel hbn)
  have HO3 := Lib.hid (pw_own_below HO2.out hbn)
  rw [hW3]
  have hbs : base ≤ W3.heap.size := Nat.le_trans hbp (Nat.le_of_lt HL3.out.at_.1)
  have q1 := pw_cell_below hbn k1
  have qi := pw_cell_below hbn ki
  have HQ1 := Lib.hid q1
  have HWS := Lib.hid (show W.heap.size ≤ W3.drew.heap.size from HG3.out.size)
  have HCL := Lib.hid (fun (W' : World) (hb : Below W3.heap.size W3 W') => clone8_k Ax cx bs m HM.out W' (Kd.C_below (Kd.C_below HC.out hbn) hb) hcx hl)
  have HBD := Lib.hid (below_drew (Below.refl W3.heap.size W3))
  clear k0 k1 ki hbn hW3
  go_region_law (first
      | (refine step_append_cells (w0 := W3) (W := w4) base rfl _ _ 22 28 (.slice none 0 0) 1 24 rfl Try.underlying22 infoBytes rfl (by decide) (by decide) (.slice (some ⟨b, 0, none⟩) n c1) n vs [.slice A4 bs.length c4] rfl rfl rfl (by simp [Value.oneCell']) (pw_own_below HO3.out HB4.out) (HB4.out.mono hbs) (Nat.le_trans hbs HB4.out.size) (by omega) ?_; intro v5 w5 ho5 hb5 hg5 hat5; obtain ⟨A5, c5, hv5⟩ := own_slice ho5; subst hv5; have HO5 := Lib.hid ho5; have HG5 := Lib.hid (show w4.grownBy w5 g from HGV.out ▸ hg5); have HAT := Lib.hid (show GN w4 g (Value.slice A5 (n + 1) c5).ownBlock from HGV.out ▸ hat5); obtain ⟨⟨u5, q5⟩, f5⟩ := (HL3.out.below HB4.out).app_cell HG5.out; clear ho5 hb5 hg5 hat5 q4 q4')
      | (go_simp; go_at_call 44; refine (HCL.out _ (by first | exact HBD.out | exact ⟨HBD.out.os, HBD.out.tape, HBD.out.output, HBD.out.size, HBD.out.block⟩)).mono ?_; unfold CloneR; rintro e w4 ⟨v4, rfl, hr4, hb4⟩; obtain ⟨A4, c4, hv4, -, -⟩ := Kd.R_reads hr4; subst hv4; have HB4 := Lib.hid (show Below W3.heap.size W3 w4 from ⟨hb4.os, hb4.tape, hb4.output, hb4.size, hb4.block⟩); have HR4 := Lib.hid (show Tx8 w4 W.heap.size (.slice A4 bs.length c4) bs from Kd.R_lower hr4 HWS.out); have q4 := pw_cell_below HB4.out (show W3.cell? ⟨p, 1, none⟩ = some (.slice (some ⟨b, 0, none⟩) n c1) from HQ1.out); have q4' : ∀ o : Obj, (w4.alloc o).cell? ⟨p, 1, none⟩ = some (.slice (some ⟨b, 0, none⟩) n c1) := (fun o => pw_cell_below (below_alloc (Below.refl _ w4) o) q4); clear hr4 hb4))
  all_goals
    have HF5 := Lib.hid (show Lg p g w4 (w5.setCell ⟨p, 1, none⟩ (.slice A5 (n + 1) c5)) from ((Lg.refl p g w4).grown HG5.out (fun k hk => .inl hk)).put 1 _)
    go_wp2_with fail
    go_ret
    exact ⟨_, HR4.out.keep (HL3.out.below HB4.out) HF5.out, rfl, Ln.app (HG3.out.bel HB4.out) (HL3.out.below HB4.out) ⟨_, _, _, rfl⟩ (by rw [HN.out]; exact HO5.out) HG5.out HAT.out⟩

end Go.Proofs.Ytcelhendfjiicaa
