/- (*Link).Len, ask, take, Deliver. -/
import Derived.Test.YtcelhendfjiicaaLkO
namespace Go.Proofs.Ytcelhendfjiicaa
open Go.RowKit Go.Shelf Go.Proofs.YtcelhendfjiicaaW.PrintWords Go.Proofs.YtcelhendfjiicaaW.PrintLast Go.Proofs.YtcelhendfjiicaaW.PrintMore
set_option linter.unusedVariables false
set_option linter.unusedSimpArgs false
set_option maxRecDepth 100000
attribute [local go_sem] gb_max2 gb_min2 gb_max_two gb_min_two gb_max_three gb_min_three

theorem len_any (W : World) (base p : Nat) (room : Int) (bss : List (List Int)) (s c d t : Int) (h : Lk W base p room bss s c d t) (hr : 0 < room) (n : Nat) (hn : bss.length = n) :
    Calls Try.prog 13 #[.pointer (some ⟨p, 0, none⟩)] W fun e w' => e = .returned (.int .i64 n) ∧ W = w' := by
  have HLK := Lib.hid h
  obtain ⟨-, -, ⟨A1, c1, k1, hc1, hT⟩, -⟩ := h.at_
  rw [hn] at k1
  clear h hT hc1 hn
  go_enter Try.func13, Try.ntmps13
  go_wp2_with fail
  refine (lok_any W base p room bss s c d t HLK.out hr).mono ?_
  rintro e w' ⟨rfl, rfl⟩
  go_wp2_with fail
  go_ret
  exact ⟨rfl, rfl⟩

/-- ask: the place is there. -/
theorem ask_in (W : World) (base p : Nat) (room : Int) (bss : List (List Int)) (s c d t : Int) (h : Lk W base p room bss s c d t) (hr : 0 < room) (n : Nat) (hn : bss.length = n) (i : Nat) (hi : i < n) :
    Calls Try.prog 45 #[.pointer (some ⟨p, 0, none⟩), .int .i64 i] W fun e w' => e = .returned (.int .i64 0) ∧ W = w' := by
  have HLK := Lib.hid h
  obtain ⟨-, -, ⟨A1, c1, k1, hc1, hT⟩, -⟩ := h.at_
  rw [hn] at k1
  have g0 : decide (n ≤ i) = false := decide_eq_false (by omega)
  have g1 : decide ((i : Int) < 0) = false := decide_eq_false (by omega)
  clear h hT hc1 hn
  go_enter Try.func45, Try.ntmps45
  go_wp2_with fail
  refine (lok_any W base p room bss s c d t HLK.out hr).mono ?_
  rintro e w' ⟨rfl, rfl⟩
  go_wp2_with fail
  go_ret
  exact ⟨rfl, rfl⟩
/-- ask: the place is not there. -/
theorem ask_out (W : World) (base p : Nat) (room : Int) (bss : List (List Int)) (s c d t : Int) (h : Lk W base p room bss s c d t) (hr : 0 < room) (n : Nat) (hn : bss.length = n) (i : Int) (hi : i < 0 ∨ n ≤ i) :
    Calls Try.prog 45 #[.pointer (some ⟨p, 0, none⟩), .int .i64 i] W fun e w' => e = .returned (.int .i64 6) ∧ W = w' := by
  have HLK := Lib.hid h
  obtain ⟨-, -, ⟨A1, c1, k1, hc1, hT⟩, -⟩ := h.at_
  rw [hn] at k1
  clear h hT hc1 hn
  by_cases h0 : i < 0
  · have g1 : decide (i < 0) = true := decide_eq_true h0
    clear h0 hi
    go_enter Try.func45, Try.ntmps45
    go_wp2_with fail
    refine (lok_any W base p room bss s c d t HLK.out hr).mono ?_
    rintro e w' ⟨rfl, rfl⟩
    go_wp2_with fail
    go_ret
    exact ⟨rfl, rfl⟩
  · have g1 : decide (i < 0) = false := decide_eq_false h0
    have g0 : decide ((n : Int) ≤ i) = true := decide_eq_true (by omega)
    clear hi
    go_enter Try.func45, Try.ntmps45
    go_wp2_with fail
    refine (lok_any W base p room bss s c d t HLK.out hr).mono ?_
    rintro e w' ⟨rfl, rfl⟩
    go_wp2_with fail
    go_ret
    exact ⟨rfl, rfl⟩

end Go.Proofs.Ytcelhendfjiicaa
