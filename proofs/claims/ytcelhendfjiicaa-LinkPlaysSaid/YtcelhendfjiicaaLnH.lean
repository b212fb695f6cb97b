/- What clears a link. -/
import Derived.Test.YtcelhendfjiicaaLnG
namespace Go.Proofs.Ytcelhendfjiicaa
open Go.RowKit Go.Shelf Go.Proofs.YtcelhendfjiicaaW.PrintWords Go.Proofs.YtcelhendfjiicaaW.PrintLast Go.Proofs.YtcelhendfjiicaaW.PrintMore
set_option linter.unusedVariables false
set_option linter.unusedSimpArgs false
set_option maxRecDepth 100000
attribute [local go_sem] gb_max2 gb_min2 gb_max_two gb_min_two gb_max_three gb_min_three
theorem Ln.clear {W : World} {base p : Nat} {g : Option Nat} {room : Int} {vs : List Value} {s c d t : Int} (h : Ln W base p g room vs s c d t) : Ln (W.setCell ⟨p, 1, none⟩ (.slice none 0 0)) base p none room [] s c d t := by
  obtain ⟨hp, h1, v, hg, hh, hT⟩ := h
  exact ⟨hp, fun u hu => absurd hu (by simp), .slice none 0 0, rfl, blk_set hh 1 _, own_nil _ _ _ _⟩
set_option maxHeartbeats 1000000 in
theorem lnclear_any (W : World) (base p : Nat) (g : Option Nat) (room : Int) (vs : List Value) (s c d t : Int) (h : Ln W base p g room vs s c d t) (hr : 0 < room) (n : Nat) (hn : vs.length = n) (hn9 : n ≤ 1000000) (hd0 : 0 ≤ d) (hd1 : d ≤ 4294967295) :
    Calls Try.prog 37 #[.pointer (some ⟨p, 0, none⟩)] W fun e w' => e = .returned (.int .i64 n) ∧ (∃ g', (g' = none ∨ g' = g) ∧ Ln w' base p g' room [] s c (if n = 0 then d else up d n) t) ∧ Lg p g W w' := by
  have HLN := Lib.hid h
  have HLE := Lib.hid (lnlen_any W base p g room vs s c d t h hr n hn)
  have HN := Lib.hid hn
  obtain ⟨hpl, -, -, -, -, ⟨k4, k5⟩, -⟩ := h.at_
  clear h hn
  by_cases h0 : n = 0
  · subst h0
    rw [if_pos rfl]
    have HE := Lib.hid (show vs = [] from List.eq_nil_of_length_eq_zero HN.out)
    go_enter Try.func37, Try.ntmps37
    go_wp2_with fail
    refine HLE.out.mono ?_
    rintro e w' ⟨rfl, rfl⟩
    go_wp2_with fail
    go_ret
    exact ⟨rfl, ⟨g, .inr rfl, by have h := HLN.out; rw [HE.out] at h; exact h⟩, Lg.refl _ _ _⟩
  · have HUP := Lib.hid (fun (W : World) => up_any d (n : Int) W hd0 hd1 (by omega) (by omega))
    unfold ctr at HUP
    rw [if_neg h0]
    obtain ⟨u, hu⟩ : ∃ u, up d n = u := ⟨_, rfl⟩
    rw [hu] at HUP ⊢
    have hw : IntKind.u32.wrap (n : Int) = n := by unfold IntKind.wrap; simp [IntKind.bits, IntKind.signed]; omega
    have hn0 : 0 < n := by omega
    clear hu h0
    go_enter Try.func37, Try.ntmps37
    go_wp2_with fail
    refine HLE.out.mono ?_
    rintro e w' ⟨rfl, rfl⟩
    go_wp2_with fail
    refine (HUP.out _).mono ?_
    rintro e w1 ⟨rfl, hb1⟩
    have HL1 := Lib.hid (HLN.out.below hb1)
    have HG1 := Lib.hid ((Lg.refl p g W).bel hb1)
    clear hb1 k4 k5
    obtain ⟨-, -, ⟨A, kc, k1, -⟩, -, -, ⟨k4, k5⟩, -⟩ := HL1.out.at_
    have f1 := HL1.out.frz 1
    have f4 := HL1.out.frz 6
    have f5 := HL1.out.frz 7
    go_wp2_with fail
    go_ret
    exact ⟨rfl, ⟨none, .inl rfl, (HL1.out.putD u).clear⟩, ((HG1.out.put 6 _).put 7 _).put 1 _⟩
end Go.Proofs.Ytcelhendfjiicaa
