/- The document's link: Deliver, Later. -/
import Derived.Test.YtcelhendfjiicaaLnJ
namespace Go.Proofs.Ytcelhendfjiicaa
open Go.RowKit Go.Shelf Go.Proofs.YtcelhendfjiicaaW.PrintWords Go.Proofs.YtcelhendfjiicaaW.PrintLast Go.Proofs.YtcelhendfjiicaaW.PrintMore
set_option linter.unusedVariables false
set_option linter.unusedSimpArgs false
set_option maxRecDepth 100000
attribute [local go_sem] gb_max2 gb_min2 gb_max_two gb_min_two gb_max_three gb_min_three
set_option maxHeartbeats 1000000 in
theorem rdeliver_in (W : World) (base q : Nat) (room : Int) (ts : List SlT) (s c d t : Int) (h : RF W base q room ts s c d t) (hn9 : ts.length ≤ 1000000) (hc0 : 0 ≤ c) (hc1 : c ≤ 4294967295) (i : Nat) (hi : i < ts.length) :
    Calls Try.prog 31 #[.pointer (some ⟨q, 0, none⟩), .int .i64 i] W fun e w' => e = .returned (.tuple #[encT (ts.getD i (none, 0, 0)), .int .i64 0]) ∧ RfP W base q room (ersT ts i) s (up c 1) d t w' := by
  have HH := Lib.hid (rhas_yes h i hi)
  have HWO := Lib.hid (rwith_in h hn9 i hi)
  have HUP := Lib.hid (fun W => rup_any c hc0 hc1 W)
  have HR := Lib.hid h
  unfold WoR at HWO
  obtain ⟨u, hu⟩ : ∃ u, up c 1 = u := ⟨_, rfl⟩
  rw [hu] at HUP ⊢
  obtain ⟨A0, k0, h1, -, hk0, hC0, -⟩ := h.parts
  obtain ⟨ad, e0, qi⟩ := C_at rfl hC0 i hi
  subst e0
  have q0 := h1.at_.2.2.1
  obtain ⟨⟨xa, xn, xk⟩, hx⟩ : ∃ x, ts.getD i (none, 0, 0) = x := ⟨_, rfl⟩
  rw [hx] at qi ⊢
  unfold encT at qi ⊢
  dsimp only at qi ⊢
  obtain ⟨m0, hm0⟩ : ∃ m, ts.length = m := ⟨_, rfl⟩
  have HM0 := Lib.hid hm0
  rw [hm0] at q0 hk0
  have hi' : i < m0 := by rw [← hm0]; exact hi
  clear h hu h1 hC0 hx hm0 hi
  go_enter Try.func31, Try.ntmps31
  go_wp2_with fail
  refine HH.out.mono ?_
  rintro e w' ⟨rfl, rfl⟩
  go_wp2_with fail
  refine HWO.out.mono ?_
  rintro e w1 ⟨A1, k1, rfl, ho, hb⟩
  have HP := Lib.hid (HR.out.turn hb ho)
  obtain ⟨A2, k2, h1, -⟩ := (HR.out.below hb).parts
  have q1 := h1.at_.2.2.1
  have f1 := h1.frz 1
  obtain ⟨m, hm⟩ : ∃ m, (ersT ts i).length = m := ⟨_, rfl⟩
  rw [HM0.out] at q1
  rw [hm] at HP ⊢
  obtain ⟨w2, hw2⟩ : ∃ w2, w1.setCell ⟨q, 1, none⟩ (.slice A1 m k1) = w2 := ⟨_, rfl⟩
  rw [hw2] at HP
  obtain ⟨A3, k3, h3, -⟩ := HP.out.1.parts
  have q4 := h3.at_.2.2.2.2.1
  have f4 := h3.frz 3
  have HW2 := Lib.hid hw2
  rw [← hw2] at q4 f4
  clear ho hb h1 hm hw2 h3 q0 qi
  go_wp2_with fail
  refine (HUP.out _).mono ?_
  rintro e w' ⟨rfl, rfl⟩
  go_wp2_with fail
  go_ret2
  refine ⟨rfl, ?_⟩
  rw [HW2.out]
  have hrn := HP.out.2.2.put HP.out.1 3 (.int .u32 u) (by decide)
  obtain ⟨⟨hq, A5, k5, h5, h6⟩, hl, -⟩ := HP.out
  exact ⟨⟨hq, A5, k5, h5.putC u, h6.far h5 3 _⟩, hl.put 3 _, hrn⟩
theorem rdeliver_out (W : World) (base q : Nat) (room : Int) (ts : List SlT) (s c d t : Int) (h : RF W base q room ts s c d t) (i : Int) (hi : i < 0 ∨ (ts.length : Int) ≤ i) :
    Calls Try.prog 31 #[.pointer (some ⟨q, 0, none⟩), .int .i64 i] W fun e w' => e = .returned (.tuple #[.slice none 0 0, .int .i64 6]) ∧ W = w' := by
  have HH := Lib.hid (rhas_no h i hi)
  clear h hi
  go_enter Try.func31, Try.ntmps31
  go_wp2_with fail
  refine HH.out.mono ?_
  rintro e w' ⟨rfl, rfl⟩
  go_wp2_with fail
  go_ret2
  exact ⟨rfl, rfl⟩
theorem rlater_out (W : World) (base q : Nat) (room : Int) (ts : List SlT) (s c d t : Int) (h : RF W base q room ts s c d t) (i : Int) (hi : i < 0 ∨ (ts.length : Int) ≤ i) :
    Calls Try.prog 34 #[.pointer (some ⟨q, 0, none⟩), .int .i64 i] W fun e w' => e = .returned (.int .i64 6) ∧ W = w' := by
  have HH := Lib.hid (rhas_no h i hi)
  clear h hi
  go_enter Try.func34, Try.ntmps34
  go_wp2_with fail
  refine HH.out.mono ?_
  rintro e w' ⟨rfl, rfl⟩
  go_wp2_with fail
  go_ret
  exact ⟨rfl, rfl⟩
theorem rtwice_out (W : World) (base q : Nat) (room : Int) (ts : List SlT) (s c d t : Int) (h : RF W base q room ts s c d t) (i : Int) (hi : i < 0 ∨ (ts.length : Int) ≤ i) :
    Calls Try.prog 33 #[.pointer (some ⟨q, 0, none⟩), .int .i64 i] W fun e w' => e = .returned (.int .i64 6) ∧ W = w' := by
  have HH := Lib.hid (rhas_no h i hi)
  clear h hi
  go_enter Try.func33, Try.ntmps33
  go_wp2_with fail
  refine HH.out.mono ?_
  rintro e w' ⟨rfl, rfl⟩
  go_wp2_with fail
  go_ret
  exact ⟨rfl, rfl⟩
theorem rturn_out (W : World) (base q : Nat) (room : Int) (ts : List SlT) (s c d t : Int) (h : RF W base q room ts s c d t) (i : Int) (hi : i < 0 ∨ (ts.length : Int) ≤ i) (at_ m : Int) :
    Calls Try.prog 36 #[.pointer (some ⟨q, 0, none⟩), .int .i64 i, .int .i64 at_, .int .u32 m] W fun e w' => e = .returned (.int .i64 6) ∧ W = w' := by
  have HH := Lib.hid (rhas_no h i hi)
  clear h hi
  go_enter Try.func36, Try.ntmps36
  go_wp2_with fail
  refine HH.out.mono ?_
  rintro e w' ⟨rfl, rfl⟩
  go_wp2_with fail
  go_ret
  exact ⟨rfl, rfl⟩
set_option maxHeartbeats 1000000 in
theorem rlater_in (W : World) (base q : Nat) (room : Int) (ts : List SlT) (s c d t : Int) (h : RF W base q room ts s c d t) (hn9 : ts.length ≤ 1000000) (i : Nat) (hi : i < ts.length) :
    Calls Try.prog 34 #[.pointer (some ⟨q, 0, none⟩), .int .i64 i] W fun e w' => e = .returned (.int .i64 0) ∧ RfP W base q room (ersT ts i ++ [ts.getD i (none, 0, 0)]) s c d t w' := by
  have HH := Lib.hid (rhas_yes h i hi)
  have HWO := Lib.hid (rwith_in h hn9 i hi)
  have HR := Lib.hid h
  unfold WoR at HWO
  obtain ⟨A0, k0, h1, -, hk0, hC0, -⟩ := h.parts
  obtain ⟨ad, e0, qi⟩ := C_at rfl hC0 i hi
  subst e0
  have q0 := h1.at_.2.2.1
  obtain ⟨⟨xa, xn, xk⟩, hx⟩ : ∃ x, ts.getD i (none, 0, 0) = x := ⟨_, rfl⟩
  rw [hx] at qi ⊢
  unfold encT at qi
  dsimp only at qi
  have hel : (ersT ts i).length ≤ 1000000 := by unfold ersT; rw [List.length_append, List.length_take, List.length_drop]; omega
  obtain ⟨m0, hm0⟩ : ∃ m, ts.length = m := ⟨_, rfl⟩
  have HM0 := Lib.hid hm0
  rw [hm0] at q0 hk0
  have hi' : i < m0 := by rw [← hm0]; exact hi
  have HEL := Lib.hid hel
  clear h h1 hC0 hx hm0 hi hel
  go_enter Try.func34, Try.ntmps34
  go_wp2_with fail
  refine HH.out.mono ?_
  rintro e w' ⟨rfl, rfl⟩
  go_wp2_with fail
  refine HWO.out.mono ?_
  rintro e w1 ⟨A1, k1, rfl, ho, hb⟩
  have HO := Lib.hid ho
  have HB := Lib.hid hb
  obtain ⟨m, hm⟩ : ∃ m, (ersT ts i).length = m := ⟨_, rfl⟩
  have HM := Lib.hid hm
  rw [hm]
  have HO' := Lib.hid (show RvO w1 W.heap.size (.slice A1 m k1) (ersT ts i) by rw [← hm]; exact ho)
  clear ho hb hm q0 qi
  go_wp2_with (at_builtin; refine Kd.R_append KTs (w0 := W) (W := w1) W.heap.size rfl _ _ 22 28 (.slice none 0 0) 24 rfl Try.underlying22 infoBytes (by rfl) (by decide) (by decide) (.slice A1 m k1) (ersT ts i) (xa, xn, xk) [.slice xa xn xk] (fun _ => True) (fun _ => False) (by rfl) (by rfl) rfl (fun _ h => h.elim) (fun _ _ => trivial) HO'.out HB.out HB.out.size (by have := HEL.out; omega) ?_; intro v4 w4 hr4 hb4 hg4 hat4; have hv4 := RvO.reads (show RvO w4 W.heap.size v4 (ersT ts i ++ [(xa, xn, xk)]) from hr4); obtain ⟨A4, k4, hv4, -, -⟩ := hv4; subst hv4; have HP := Lib.hid (HR.out.turn hb4 (show RvO w4 W.heap.size _ (ersT ts i ++ [(xa, xn, xk)]) from hr4)); obtain ⟨A5, k5, h5, -⟩ := (HR.out.below hb4).parts; have q1 := h5.at_.2.2.1; have f1 := h5.frz 1; clear hr4 hb4 hg4 hat4 h5)
  go_ret
  exact ⟨rfl, by have h := HP.out; rw [List.length_append, List.length_singleton] at h; exact h⟩
end Go.Proofs.Ytcelhendfjiicaa
