/- A link in memory; link.New, ok. -/
import Derived.Test.YtcelhendfjiicaaLkS
namespace Go.Proofs.Ytcelhendfjiicaa
open Go.RowKit Go.Shelf Go.Proofs.YtcelhendfjiicaaW.PrintWords Go.Proofs.YtcelhendfjiicaaW.PrintLast Go.Proofs.YtcelhendfjiicaaW.PrintMore
set_option linter.unusedVariables false
set_option linter.unusedSimpArgs false
set_option maxRecDepth 100000
attribute [local go_sem] gb_max2 gb_min2 gb_max_two gb_min_two gb_max_three gb_min_three

/-- What the block of a link holds. -/
def lkCells (room : Int) (v : Value) (s c d t : Int) : Array Value := #[.int .i64 room, v, .int .u32 s, .int .u32 4294967295, .int .u32 c, .int .u32 4294967295, .int .u32 d, .int .u32 4294967295, .int .u32 t, .int .u32 4294967295]
/-- A list of texts of one's own. -/
def Tx (W : World) (base : Nat) (v : Value) (bss : List (List Int)) : Prop := (Kd.slice 5 (Kd.int .u8)).R 28 W base (fun _ => True) v bss
/-- A link lies at p, from block base on. -/
def Lk (W : World) (base p : Nat) (room : Int) (bss : List (List Int)) (s c d t : Int) : Prop :=
  base ≤ p ∧ ∃ v, W.heap[p]? = some (.cells (lkCells room v s c d t) 83 (0, 0)) ∧ Tx W base v bss
def LkNew (w : World) (room : Int) (e : Ending) (w' : World) : Prop := ∃ p, e = .returned (.tuple #[.pointer (some ⟨p, 0, none⟩), .int .i64 0]) ∧ Lk w' w.heap.size p room [] 0 0 0 0 ∧ Below w.heap.size w w'

theorem lnew_any (room : Int) (w : World) (h0 : 1 ≤ room) (h1 : room ≤ 256) :
    Calls Try.prog 10 #[.int .i64 room] w (LkNew w room) := by
  have g0 : decide (room < 1) = false := decide_eq_false (by omega)
  have g1 : decide (256 < room) = false := decide_eq_false (by omega)
  unfold LkNew
  go_enter Try.func10, Try.ntmps10
  go_wp2_with fail
  refine (newc_any _).mono ?_
  unfold ctr
  rintro e w1 ⟨rfl, hb⟩
  have HB := Lib.hid hb
  clear hb
  go_wp2_with fail
  go_ret2
  exact ⟨w1.heap.size + 1, rfl, ⟨Nat.le_trans HB.out.size (Nat.le_succ _), _, heap_alloc2_new _ _ _, Kd.R_nil _ _ _ _ _⟩, below_alloc (below_alloc HB.out _) _⟩

theorem lok_any (W : World) (base p : Nat) (room : Int) (bss : List (List Int)) (s c d t : Int) (h : Lk W base p room bss s c d t) (hr : 0 < room) :
    Calls Try.prog 42 #[.pointer (some ⟨p, 0, none⟩)] W fun e w' => e = .returned (.bool true) ∧ W = w' := by
  obtain ⟨hp, v, hh, hT⟩ := h
  have k0 : W.cell? ⟨p, 0, none⟩ = some (.int .i64 room) := by rw [blk_cell hh]; rfl
  have g0 : decide (0 < room) = true := decide_eq_true hr
  clear hh hT
  go_enter Try.func42, Try.ntmps42
  go_wp2_with fail
  go_ret
  exact ⟨rfl, rfl⟩

theorem infoByte : (Try.prog.info? 5).map (fun i => (i.zero, i.size, i.bytes)) = some (some (.int .u8 0), 1, 1) := by kernel_rfl
theorem R_empty8 (W : World) (base : Nat) (hb : base ≤ W.heap.size) : (Kd.int .u8).R 5 (W.alloc (.cells #[] 5)) base (fun _ => True) (.slice (some ⟨W.heap.size, 0, none⟩) 0 0) [] :=
  Kd.R_of_own (enc := Value.int .u8) (h1 := fun _ => rfl) (own_lit_of (enc := Value.int .u8) W base 5 [] hb (by simp)) (fun _ _ => trivial)

/-- bytes.Clone. -/
theorem clone8_any (A : Option Addr) (c : Nat) (xs : List Int) (w : World) (hx : (Kd.int .u8).C w A xs.length xs) (hc : xs.length ≤ c) (hn : xs.length ≤ 100000000) :
    Calls Try.prog 44 #[.slice A xs.length c] w fun e w' => ∃ v, e = .returned v ∧ (Kd.int .u8).R 5 w' w.heap.size (fun _ => True) v xs ∧ Below w.heap.size w w' := by
  cases A with
  | none =>
    have h0 : xs = [] := by
      cases xs with
      | nil => rfl
      | cons x l => obtain ⟨ad, c, h, _⟩ := Kd.C_get hx 0 0 (by omega) (by simp); simp at h
    subst h0
    have he := fun W : World => Lib.run_eql_slice_nil (P := Try.prog) W 28 5 none 0 c 0 0 Try.underlying28
    clear hx
    go_enter Try.func44, Try.ntmps44
    go_wp2_with fail
    go_ret
    exact ⟨_, rfl, Kd.R_nil _ _ _ _ _, Below.refl _ _⟩
  | some a =>
    have HX := Lib.hid (Kd.C_below hx ((Below.refl _ w).alloc (Nat.le_refl _) (.cells #[] 5)))
    have HO := Lib.hid (R_empty8 w w.heap.size (Nat.le_refl _))
    have HB := Lib.hid ((Below.refl _ w).alloc (Nat.le_refl _) (.cells #[] 5))
    clear hx
    have he := fun W : World => Lib.run_eql_slice_nil (P := Try.prog) W 28 5 (some a) xs.length c 0 0 Try.underlying28
    go_enter Try.func44, Try.ntmps44
    go_wp2_with (at_builtin; refine Kd.R_append_row (w0 := w) (Value.int .u8) 0 (h1 := fun _ => rfl) w.heap.size rfl _ _ 28 5 (.int .u8 0) 1 rfl Try.underlying28 infoByte rfl (by decide) _ [] xs (some a) xs.length c (fun _ => True) rfl rfl (fun _ _ => trivial) HO.out HX.out HB.out (by simp) (by simp; omega) ?_; intro v1 w1 hr hb hg hat)
    go_ret
    exact ⟨_, rfl, hr, hb⟩

end Go.Proofs.Ytcelhendfjiicaa
