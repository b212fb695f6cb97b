/- The document's link: Turn, New, a second one where there is no room. -/
import Derived.Test.YtcelhendfjiicaaLnL
namespace Go.Proofs.Ytcelhendfjiicaa
open Go.RowKit Go.Shelf Go.Proofs.YtcelhendfjiicaaW.PrintWords Go.Proofs.YtcelhendfjiicaaW.PrintLast Go.Proofs.YtcelhendfjiicaaW.PrintMore
set_option linter.unusedVariables false
set_option linter.unusedSimpArgs false
set_option maxRecDepth 100000
attribute [local go_sem] gb_max2 gb_min2 gb_max_two gb_min_two gb_max_three gb_min_three
set_option maxHeartbeats 2000000 in
theorem rturn_in (W : World) (base q : Nat) (room : Int) (ts : List SlT) (s c d t : Int) (h : RF W base q room ts s c d t) (hn9 : ts.length ≤ 1000000) (ht0 : 0 ≤ t) (ht1 : t ≤ 4294967295) (i : Nat) (hi : i < ts.length) (at_ mask : Int) (hat0 : -9223372036854775808 ≤ at_) (hat1 : at_ ≤ 9223372036854775807)
    (A : Option Addr) (m k : Nat) (xs : List Int) (hv : ts.getD i (none, 0, 0) = (A, m, k)) (hby : By8 xs) (hm : xs.length = m) (hmk : m ≤ k) (hm9 : m ≤ 140737488351232) (hx : (Kd.int .u8).C W A m xs) :
    Calls Try.prog 36 #[.pointer (some ⟨q, 0, none⟩), .int .i64 i, .int .i64 at_, .int .u32 mask] W fun e w' => e = .returned (.int .i64 0) ∧ ∃ x, Tx8 w' W.heap.size (encT x) (vburst xs at_ mask) ∧ RfP W base q room (ts.set i x) s c d (up t 1) w' := by
  have HH := Lib.hid (rhas_yes h i hi)
  have HBU := Lib.hid (fun (W' : World) (hb : Below W.heap.size W W') => rburst_any xs hby m hm hm9 at_ mask hat0 hat1 A k W' (Kd.C_below hx hb) hmk)
  have HUP := Lib.hid (fun W => rup_any t ht0 ht1 W)
  have HR := Lib.hid h
  unfold BurR at HBU
  obtain ⟨u, hu⟩ : ∃ u, up t 1 = u := ⟨_, rfl⟩
  rw [hu] at HUP ⊢
  obtain ⟨n, hn⟩ : ∃ n, ts.length = n := ⟨_, rfl⟩
  have HN := Lib.hid hn
  obtain ⟨A1, k1, -, q1, -, -, -, -, hk1, hC1, -⟩ := h.cells n hn
  obtain ⟨ad, e1, qi⟩ := C_at hn hC1 i (by omega)
  subst e1
  rw [hv] at qi
  unfold encT at qi
  dsimp only at qi
  have HC1 := Lib.hid hC1
  rw [hn] at hi hn9
  have HQ := Lib.hid (show q < W.heap.size by obtain ⟨_, _, _, _, _, _, _, hq⟩ := h.parts; exact hq)
  clear h hu hn hC1 hv hx hm
  go_enter Try.func36, Try.ntmps36
  go_wp2_with fail
  refine HH.out.mono ?_
  rintro e w' ⟨rfl, rfl⟩
  go_wp2_with (at_builtin; refine Kd.R_append_rows KTs (Rr := KTs.K W) (w0 := W) (W := W) W.heap.size rfl _ _ 22 28 (.slice none 0 0) 24 rfl Try.underlying22 infoBytes (by rfl) (by decide) (by decide) (.slice none 0 0) [] ts (some ad) n k1 (fun _ => True) (fun _ => False) (by rfl) (by rfl) (Kd.R_nil _ _ _ _ _) HC1.out (fun _ _ h => h) (fun _ h => h.elim) (fun _ _ => trivial) (Below.refl _ _) (Nat.le_refl _) (by simp; omega) ?_; intro v4 w4 hr4 hb4 hg4 hat4; have hv4 := RvO.reads (show RvO w4 W.heap.size v4 ts from hr4); obtain ⟨A4, k4, hv4, -, -⟩ := hv4; rw [HN.out] at hv4; subst hv4; have HR4 := Lib.hid (show RvO w4 W.heap.size (.slice A4 n k4) ts from hr4); have HB4 := Lib.hid hb4; have q1 := pw_cell_below hb4 q1; have qi := pw_cell_below hb4 qi; clear hr4 hb4 hg4 hat4)
  obtain ⟨b4, cells4, e4, hb4l, hb4s, hb4c⟩ := HR4.out.form (by omega)
  subst e4
  have HBC := Lib.hid (And.intro hb4l (And.intro hb4s hb4c))
  clear hb4l hb4s hb4c
  refine (HBU.out _ HB4.out).mono ?_
  rintro e w5 ⟨v5, rfl, ht5, hb5⟩
  obtain ⟨A5, m5, k5, hv5⟩ := ht5.sl
  subst hv5
  have HT5 := Lib.hid ht5
  have HB5 := Lib.hid (below_then HB4.out HB4.out.size hb5)
  have HR5 := Lib.hid (HR4.out.below hb5)
  have hbc5 := blk_below HBC.out.2.2 hb5
  obtain ⟨A9, k9, -, q1', -, -, -, q5', -, -, ff⟩ := (HR.out.below HB5.out).cells n HN.out
  obtain ⟨vi, hvi⟩ : ∃ vi, w5.cell? ⟨b4, i, none⟩ = some vi := by
    obtain ⟨A', k', e', _, hC'⟩ := HR5.out.reads
    rw [HN.out] at e' hC'
    injection e' with e1 e2 e3
    subst e1
    obtain ⟨ad', ea, hq⟩ := C_at HN.out hC' i hi
    injection ea with ea
    subst ea
    rw [add_plain] at hq
    exact ⟨_, hq⟩
  have fi := blk_frozen hbc5 i
  have HTS := Lib.hid (show RvO (w5.setCell ⟨b4, i, none⟩ (.slice A5 m5 k5)) W.heap.size (.slice (some ⟨b4, 0, none⟩) n k4) (ts.set i (A5, m5, k5)) from HR5.out.set i (A5, m5, k5))
  have hb6 : Below W.heap.size W (w5.setCell ⟨b4, i, none⟩ (.slice A5 m5 k5)) := HB5.out.setCell (p := ⟨b4, i, none⟩) HBC.out.1 _
  have HL6 := Lib.hid (show (ts.set i (A5, m5, k5)).length = n by rw [List.length_set]; exact HN.out)
  have HP7 := Lib.hid (HR.out.turn hb6 (A := some ⟨b4, 0, none⟩) (k := k4) (us := ts.set i (A5, m5, k5)) (by rw [HL6.out]; exact HTS.out))
  rw [HL6.out] at HP7
  have HT6 := Lib.hid (show Tx8 (w5.setCell ⟨b4, i, none⟩ (.slice A5 m5 k5)) w4.heap.size (.slice A5 m5 k5) (vburst xs at_ mask) from HT5.out.far HBC.out.2.1 i _)
  have HW4 := Lib.hid (HB4.out.size)
  obtain ⟨A8, k8, -, p1, -, -, -, p5, -, -, pf⟩ := (HR.out.below hb6).cells n HN.out
  have pf1 := pf 1
  obtain ⟨w6, hw6⟩ : ∃ w6, w5.setCell ⟨b4, i, none⟩ (.slice A5 m5 k5) = w6 := ⟨_, rfl⟩
  rw [hw6] at HP7 HT6 p1 p5 pf1
  obtain ⟨w7, hw7⟩ : ∃ w7, w6.setCell ⟨q, 1, none⟩ (.slice (some ⟨b4, 0, none⟩) n k4) = w7 := ⟨_, rfl⟩
  rw [hw7] at HP7
  obtain ⟨A9, k9', -, -, -, -, -, r5, -, -, rf⟩ := HP7.out.1.cells n HL6.out
  have rf5 := rf 5
  have HW6 := Lib.hid hw6
  have HW7 := Lib.hid hw7
  rw [← hw7] at r5 rf5
  rw [← hw6] at p1 p5 pf1 r5 rf5
  clear ff pf rf hbc5 hb5 hb6 ht5 hw6 hw7 q1 qi q1' q5'
  go_wp2_with fail
  refine (HUP.out _).mono ?_
  rintro e w' ⟨rfl, rfl⟩
  go_wp2_with fail
  go_ret
  rw [HW6.out, HW7.out]
  have hq := HQ.out
  have h4 := HW4.out
  refine ⟨rfl, (A5, m5, k5), (Tx8.lower ?_ h4), HP7.out.1.turned u, HP7.out.2.1.put 5 _, HP7.out.2.2.put HP7.out.1 5 _ (by decide)⟩
  rw [← HW7.out]
  exact (HT6.out.far (by omega) 1 _).far (by omega) 5 _
end Go.Proofs.Ytcelhendfjiicaa
