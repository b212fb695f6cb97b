/- (*Link).Deliver, Counts. -/
import Derived.Test.YtcelhendfjiicaaLkQ
namespace Go.Proofs.Ytcelhendfjiicaa
open Go.RowKit Go.Shelf Go.Proofs.YtcelhendfjiicaaW.PrintWords Go.Proofs.YtcelhendfjiicaaW.PrintLast Go.Proofs.YtcelhendfjiicaaW.PrintMore
set_option linter.unusedVariables false
set_option linter.unusedSimpArgs false
set_option maxRecDepth 100000
attribute [local go_sem] gb_max2 gb_min2 gb_max_two gb_min_two gb_max_three gb_min_three

def DelR (W : World) (base p : Nat) (room : Int) (bss : List (List Int)) (s c d t : Int) (i : Nat) (e : Ending) (w' : World) : Prop :=
  ∃ A m, e = .returned (.tuple #[.slice A (bss.getD i []).length m, .int .i64 0]) ∧ (bss.getD i []).length ≤ m ∧ (Kd.int .u8).R 5 w' base (fun _ => True) (.slice A (bss.getD i []).length m) (bss.getD i []) ∧ Lk w' base p room (erase bss i) s (up c 1) d t ∧ Below base W w'

set_option maxRecDepth 100000 in
set_option maxHeartbeats 1000000 in
theorem deliver_in (W : World) (base p : Nat) (room : Int) (bss : List (List Int)) (s c d t : Int) (h : Lk W base p room bss s c d t) (hr : 0 < room) (i : Nat) (hi : i < bss.length) (hn : bss.length ≤ 1000000) (hc0 : 0 ≤ c) (hc1 : c ≤ 4294967295) :
    Calls Try.prog 14 #[.pointer (some ⟨p, 0, none⟩), .int .i64 i] W (DelR W base p room bss s c d t i) := by
  have HLK := Lib.hid h
  have hbp := h.1
  have heg := enters_of Try.func45 (by kernel_rfl) rfl
  have HA := Lib.hid (ask_in W base p room bss s c d t h hr bss.length rfl i hi)
  obtain ⟨hpl, -, -, -, ⟨k4, k5⟩, -⟩ := h.at_
  have HI := Lib.hid hi
  have HN := Lib.hid hn
  clear h hi hn
  unfold DelR
  go_enter Try.func14, Try.ntmps14
  go_wp2_with fail
  refine HA.out.mono ?_
  rintro e w' ⟨rfl, rfl⟩
  go_wp2_with fail
  refine (up_any c 1 W hc0 hc1 (by omega) (by omega)).mono ?_
  unfold ctr
  rintro e w1 ⟨rfl, hb1⟩
  have HL1 := Lib.hid (HLK.out.below hb1)
  have HB1 := Lib.hid (hb1.mono (Nat.le_trans hbp (Nat.le_of_lt hpl)))
  clear hb1 k4 k5
  obtain ⟨u, hu⟩ : ∃ u, up c 1 = u := ⟨_, rfl⟩
  rw [hu]
  have HU := Lib.hid hu
  clear hu
  obtain ⟨-, -, -, -, ⟨k4, k5⟩, -⟩ := HL1.out.at_
  have f4 := HL1.out.frz 4
  have f5 := HL1.out.frz 5
  go_wp2_with fail
  refine (take_any _ base p room bss s u d t (HL1.out.putC u) i HI.out HN.out).mono ?_
  unfold TakeR
  rintro e w3 ⟨A3, m3, rfl, hm3, hR3, hL3, hb3⟩
  have HR3 := Lib.hid hR3
  have HL3 := Lib.hid hL3
  have HB3 := Lib.hid (((HB1.out.setCell (p := ⟨p, 4, none⟩) hbp _).setCell (p := ⟨p, 5, none⟩) hbp _).trans hb3)
  clear hR3 hL3 hb3 k4 k5 f4 f5
  go_wp2_with fail
  go_ret2
  rw [HU.out]
  exact ⟨A3, m3, rfl, hm3, HR3.out, HL3.out, HB3.out⟩

end Go.Proofs.Ytcelhendfjiicaa
