/- What a link does: Deliver, Drop, Later, Twice, Send. -/
import Derived.Test.YtcelhendfjiicaaLnA
import Derived.Deep.RegionHeld3
namespace Go.Proofs.Ytcelhendfjiicaa
open Go.RowKit Go.Shelf Go.Proofs.YtcelhendfjiicaaW.PrintWords Go.Proofs.YtcelhendfjiicaaW.PrintLast Go.Proofs.YtcelhendfjiicaaW.PrintMore
set_option linter.unusedVariables false
set_option linter.unusedSimpArgs false
set_option maxRecDepth 100000
attribute [local go_sem] gb_max2 gb_min2 gb_max_two gb_min_two gb_max_three gb_min_three

def LnNew (w : World) (room : Int) (e : Ending) (w' : World) : Prop := ∃ p, e = .returned (.tuple #[.pointer (some ⟨p, 0, none⟩), .int .i64 0]) ∧ Ln w' w.heap.size p none room [] 0 0 0 0 ∧ Below w.heap.size w w'
theorem lnnew_any (room : Int) (w : World) (h0 : 1 ≤ room) (h1 : room ≤ 256) :
    Calls Try.prog 10 #[.int .i64 room] w (LnNew w room) := by
  have g0 : decide (room < 1) = false := decide_eq_false (by omega)
  have g1 : decide (256 < room) = false := decide_eq_false (by omega)
  unfold LnNew
  go_enter Try.func10, Try.ntmps10
  go_wp2_with fail
  refine (newc_any _).mono ?_
  unfold ctr
  rintro e w1 ⟨rfl, hb⟩
  have HB := Lib.hid hb
  clear hb
  go_wp2_with fail
  go_ret2
  exact ⟨w1.heap.size + 1, rfl, ⟨Nat.le_trans HB.out.size (Nat.le_succ _), by simp, .slice none 0 0, rfl, heap_alloc2_new _ _ _, own_nil _ _ _ _⟩, below_alloc (below_alloc HB.out _) _⟩
theorem lnnew_no (room : Int) (w : World) (h : room < 1 ∨ 256 < room) :
    Calls Try.prog 10 #[.int .i64 room] w fun e w' => e = .returned (.tuple #[.pointer none, .int .i64 1]) ∧ w = w' := by
  by_cases h1 : room < 1
  · have g0 : decide (room < 1) = true := decide_eq_true h1
    clear h
    go_enter Try.func10, Try.ntmps10
    go_wp2_with fail
    go_ret2
    exact ⟨rfl, rfl⟩
  · have g0 : decide (room < 1) = false := decide_eq_false h1
    have g1 : decide (256 < room) = true := decide_eq_true (by omega)
    clear h
    go_enter Try.func10, Try.ntmps10
    go_wp2_with fail
    go_ret2
    exact ⟨rfl, rfl⟩
def DelV (W : World) (base p : Nat) (g : Option Nat) (room : Int) (vs : List Value) (s c d t : Int) (i : Nat) (e : Ending) (w' : World) : Prop := e = .returned (.tuple #[vs.getD i undef, .int .i64 0]) ∧ Ln w' base p g room (eraseV vs i) s (up c 1) d t ∧ Lg p g W w'
set_option maxHeartbeats 1000000 in
theorem lndeliver_in (W : World) (base p : Nat) (g : Option Nat) (room : Int) (vs : List Value) (s c d t : Int) (h : Ln W base p g room vs s c d t) (hr : 0 < room) (i : Nat) (hi : i < vs.length) (hn : vs.length ≤ 1000000) (hc0 : 0 ≤ c) (hc1 : c ≤ 4294967295) :
    Calls Try.prog 14 #[.pointer (some ⟨p, 0, none⟩), .int .i64 i] W (DelV W base p g room vs s c d t i) := by
  have HLN := Lib.hid h
  have heg := enters_of Try.func45 (by kernel_rfl) rfl
  have HA := Lib.hid (lnask_in W base p g room vs s c d t h hr i (by omega) (by omega))
  have HT := Lib.hid (fun (W' : World) (h' : Ln W' base p g room vs s (up c 1) d t) => lntake_any W' base p g room vs s (up c 1) d t h' i hi hn)
  obtain ⟨hpl, -, -, -, ⟨k4, k5⟩, -⟩ := h.at_
  obtain ⟨x, hx⟩ : ∃ x, vs.getD i undef = x := ⟨_, rfl⟩
  unfold TakeV at HT
  unfold DelV
  rw [hx] at HT ⊢
  obtain ⟨u, hu⟩ : ∃ u, up c 1 = u := ⟨_, rfl⟩
  have HUP := Lib.hid (fun (W : World) => up_any c 1 W hc0 hc1 (by omega) (by omega))
  rw [hu] at HT HUP ⊢
  unfold ctr at HUP
  clear h hi hn hx hu
  go_enter Try.func14, Try.ntmps14
  go_wp2_with fail
  refine HA.out.mono ?_
  rintro e w' ⟨rfl, rfl⟩
  go_wp2_with fail
  refine (HUP.out _).mono ?_
  rintro e w1 ⟨rfl, hb1⟩
  have HL1 := Lib.hid (HLN.out.below hb1)
  have HG1 := Lib.hid ((Lg.refl p g W).bel hb1)
  clear hb1 k4 k5
  obtain ⟨-, -, -, -, ⟨k4, k5⟩, -⟩ := HL1.out.at_
  have f4 := HL1.out.frz 4
  have f5 := HL1.out.frz 5
  go_wp2_with fail
  refine (HT.out _ (HL1.out.putC u)).mono ?_
  rintro e w3 ⟨rfl, hL3, hg3⟩
  have HL3 := Lib.hid hL3
  have HG3 := Lib.hid (((HG1.out.put 4 (.int .u32 u)).put 5 (.int .u32 4294967295)).trans hg3 (GN.refl _ _))
  clear hL3 hg3 k4 k5 f4 f5
  go_wp2_with fail
  go_ret2
  exact ⟨rfl, HL3.out, HG3.out⟩
theorem lndeliver_out (W : World) (base p : Nat) (g : Option Nat) (room : Int) (vs : List Value) (s c d t : Int) (h : Ln W base p g room vs s c d t) (hr : 0 < room) (i : Int) (hi : i < 0 ∨ (vs.length : Int) ≤ i) :
    Calls Try.prog 14 #[.pointer (some ⟨p, 0, none⟩), .int .i64 i] W fun e w' => e = .returned (.tuple #[.slice none 0 0, .int .i64 6]) ∧ W = w' := by
  have heg := enters_of Try.func45 (by kernel_rfl) rfl
  have HA := Lib.hid (lnask_out W base p g room vs s c d t h hr i hi)
  clear h hi
  go_enter Try.func14, Try.ntmps14
  go_wp2_with fail
  refine HA.out.mono ?_
  rintro e w' ⟨rfl, rfl⟩
  go_wp2_with fail
  go_ret2
  exact ⟨rfl, rfl⟩
set_option maxHeartbeats 1000000 in
theorem lndrop_in (W : World) (base p : Nat) (g : Option Nat) (room : Int) (vs : List Value) (s c d t : Int) (h : Ln W base p g room vs s c d t) (hr : 0 < room) (i : Nat) (hi : i < vs.length) (hn : vs.length ≤ 1000000) (hd0 : 0 ≤ d) (hd1 : d ≤ 4294967295) :
    Calls Try.prog 23 #[.pointer (some ⟨p, 0, none⟩), .int .i64 i] W fun e w' => e = .returned (.int .i64 0) ∧ Ln w' base p g room (eraseV vs i) s c (up d 1) t ∧ Lg p g W w' := by
  have HLN := Lib.hid h
  have HA := Lib.hid (lnask_in W base p g room vs s c d t h hr i (by omega) (by omega))
  have HT := Lib.hid (fun (W' : World) (h' : Ln W' base p g room vs s c (up d 1) t) => lntake_any W' base p g room vs s c (up d 1) t h' i hi hn)
  obtain ⟨hpl, -, -, -, -, ⟨k4, k5⟩, -⟩ := h.at_
  unfold TakeV at HT
  obtain ⟨u, hu⟩ : ∃ u, up d 1 = u := ⟨_, rfl⟩
  obtain ⟨x, hx⟩ : ∃ x, vs.getD i undef = x := ⟨_, rfl⟩
  have HUP := Lib.hid (fun (W : World) => up_any d 1 W hd0 hd1 (by omega) (by omega))
  rw [hx, hu] at HT
  rw [hu] at HUP ⊢
  unfold ctr at HUP
  clear h hi hn hx hu
  go_enter Try.func23, Try.ntmps23
  go_wp2_with fail
  refine HA.out.mono ?_
  rintro e w' ⟨rfl, rfl⟩
  go_wp2_with fail
  refine (HUP.out _).mono ?_
  rintro e w1 ⟨rfl, hb1⟩
  have HL1 := Lib.hid (HLN.out.below hb1)
  have HG1 := Lib.hid ((Lg.refl p g W).bel hb1)
  clear hb1 k4 k5
  obtain ⟨-, -, -, -, -, ⟨k4, k5⟩, -⟩ := HL1.out.at_
  have f4 := HL1.out.frz 6
  have f5 := HL1.out.frz 7
  go_wp2_with fail
  refine (HT.out _ (HL1.out.putD u)).mono ?_
  rintro e w3 ⟨rfl, hL3, hg3⟩
  have HL3 := Lib.hid hL3
  have HG3 := Lib.hid (((HG1.out.put 6 (.int .u32 u)).put 7 (.int .u32 4294967295)).trans hg3 (GN.refl _ _))
  clear hL3 hg3 k4 k5 f4 f5
  go_wp2_with fail
  go_ret
  exact ⟨rfl, HL3.out, HG3.out⟩
theorem lndrop_out (W : World) (base p : Nat) (g : Option Nat) (room : Int) (vs : List Value) (s c d t : Int) (h : Ln W base p g room vs s c d t) (hr : 0 < room) (i : Int) (hi : i < 0 ∨ (vs.length : Int) ≤ i) :
    Calls Try.prog 23 #[.pointer (some ⟨p, 0, none⟩), .int .i64 i] W fun e w' => e = .returned (.int .i64 6) ∧ W = w' := by
  have HA := Lib.hid (lnask_out W base p g room vs s c d t h hr i hi)
  clear h hi
  go_enter Try.func23, Try.ntmps23
  go_wp2_with fail
  refine HA.out.mono ?_
  rintro e w' ⟨rfl, rfl⟩
  go_wp2_with fail
  go_ret
  exact ⟨rfl, rfl⟩
theorem lntwice_out (W : World) (base p : Nat) (g : Option Nat) (room : Int) (vs : List Value) (s c d t : Int) (h : Ln W base p g room vs s c d t) (hr : 0 < room) (i : Int) (hi : i < 0 ∨ (vs.length : Int) ≤ i) :
    Calls Try.prog 24 #[.pointer (some ⟨p, 0, none⟩), .int .i64 i] W fun e w' => e = .returned (.int .i64 6) ∧ W = w' := by
  have HA := Lib.hid (lnask_out W base p g room vs s c d t h hr i hi)
  clear h hi
  go_enter Try.func24, Try.ntmps24
  go_wp2_with fail
  refine HA.out.mono ?_
  rintro e w' ⟨rfl, rfl⟩
  go_wp2_with fail
  go_ret
  exact ⟨rfl, rfl⟩
theorem lnlater_out (W : World) (base p : Nat) (g : Option Nat) (room : Int) (vs : List Value) (s c d t : Int) (h : Ln W base p g room vs s c d t) (hr : 0 < room) (i : Int) (hi : i < 0 ∨ (vs.length : Int) ≤ i) :
    Calls Try.prog 25 #[.pointer (some ⟨p, 0, none⟩), .int .i64 i] W fun e w' => e = .returned (.int .i64 6) ∧ W = w' := by
  have HA := Lib.hid (lnask_out W base p g room vs s c d t h hr i hi)
  clear h hi
  go_enter Try.func25, Try.ntmps25
  go_wp2_with fail
  refine HA.out.mono ?_
  rintro e w' ⟨rfl, rfl⟩
  go_wp2_with fail
  go_ret
  exact ⟨rfl, rfl⟩
theorem lnturn_out (W : World) (base p : Nat) (g : Option Nat) (room : Int) (vs : List Value) (s c d t : Int) (h : Ln W base p g room vs s c d t) (hr : 0 < room) (i : Int) (hi : i < 0 ∨ (vs.length : Int) ≤ i) (at_ m : Int) :
    Calls Try.prog 35 #[.pointer (some ⟨p, 0, none⟩), .int .i64 i, .int .i64 at_, .int .u32 m] W fun e w' => e = .returned (.int .i64 6) ∧ W = w' := by
  have HA := Lib.hid (lnask_out W base p g room vs s c d t h hr i hi)
  clear h hi
  go_enter Try.func35, Try.ntmps35
  go_wp2_with fail
  refine HA.out.mono ?_
  rintro e w' ⟨rfl, rfl⟩
  go_wp2_with fail
  go_ret
  exact ⟨rfl, rfl⟩
set_option maxHeartbeats 1000000 in
theorem lnlater_in (W : World) (base p : Nat) (g : Option Nat) (room : Int) (vs : List Value) (s c d t : Int) (h : Ln W base p g room vs s c d t) (hr : 0 < room) (i : Nat) (hi : i < vs.length) (hn : vs.length ≤ 1000000) :
    Calls Try.prog 25 #[.pointer (some ⟨p, 0, none⟩), .int .i64 i] W fun e w' => e = .returned (.int .i64 0) ∧ LnP W base p g room (eraseV vs i ++ [vs.getD i undef]) s c d t w' := by
  have HA := Lib.hid (lnask_in W base p g room vs s c d t h hr i (by omega) (by omega))
  have HT := Lib.hid (lntake_any W base p g room vs s c d t h i hi hn)
  obtain ⟨A9, n9, c9, hx⟩ := SlV.at_ h.2.1 i hi
  unfold TakeV at HT
  have hel := eraseV_len vs i hi
  rw [hx] at HT ⊢
  obtain ⟨us, hus⟩ : ∃ us, eraseV vs i = us := ⟨_, rfl⟩
  rw [hus] at HT hel ⊢
  have HN := Lib.hid (show us.length ≤ 1000000 by omega)
  have HP := Lib.hid h.1
  have HSZ := Lib.hid h.at_.1
  have HGB := Lib.hid h.gb
  clear h hi hn hx hel hus
  go_enter Try.func25, Try.ntmps25
  go_wp2_with fail
  refine HA.out.mono ?_
  rintro e w' ⟨rfl, rfl⟩
  go_wp2_with fail
  refine HT.out.mono ?_
  rintro e w1 ⟨rfl, hL1, hg1⟩
  obtain ⟨h1p, -, ⟨A1, c1, k1, hc1, hgv, ho1⟩, -⟩ := hL1.at_
  have HL1 := Lib.hid hL1
  have HG1 := Lib.hid hg1
  have HO1 := Lib.hid ho1
  have HGV := Lib.hid hgv
  have H1P := Lib.hid h1p
  obtain ⟨m, hm⟩ : ∃ m, us.length = m := ⟨_, rfl⟩
  have HM := Lib.hid hm
  rw [hm] at k1 hc1 HGV HO1
  clear hL1 hg1 ho1 hgv h1p hm
  go_wp2_with (at_builtin; refine print_append_cells (w0 := w1) (W := w1) base rfl _ _ 22 28 (.slice none 0 0) 1 24 rfl Try.underlying22 infoBytes rfl (by decide) (by decide) (.slice A1 m c1) m us [.slice A9 n9 c9] (by rfl) (by rfl) rfl (by simp [Value.oneCell']) HO1.out (Below.refl _ _) (Nat.le_trans HP.out (Nat.le_of_lt H1P.out)) (by have := HN.out; have := HM.out; omega) ?_; intro v5 w5 ho5 hb5 hg5 hat5; obtain ⟨A5, c5, hv5⟩ := own_slice ho5; subst hv5; have HO5 := Lib.hid ho5; have HG5 := Lib.hid hg5; have HAT := Lib.hid hat5; clear ho5 hb5 hg5 hat5; obtain ⟨⟨u5, q5⟩, f5⟩ := HL1.out.app_cell (HGV.out ▸ HG5.out))
  go_ret
  exact ⟨rfl, Ln.app HG1.out HL1.out ⟨_, _, _, rfl⟩ (by rw [HM.out]; exact HO5.out) (HGV.out ▸ HG5.out) (HGV.out ▸ HAT.out)⟩

end Go.Proofs.Ytcelhendfjiicaa
