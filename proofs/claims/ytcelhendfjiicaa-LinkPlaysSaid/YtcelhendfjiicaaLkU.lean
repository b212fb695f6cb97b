/- law 21's alive. -/
import Derived.Test.YtcelhendfjiicaaLkT
import Derived.Lib.SlBytesConst
import Derived.Lib.SmallJoins
namespace Go.Proofs.Ytcelhendfjiicaa
open Go.RowKit Go.Shelf Go.Proofs.YtcelhendfjiicaaW.PrintWords Go.Proofs.YtcelhendfjiicaaW.PrintLast Go.Proofs.YtcelhendfjiicaaW.PrintMore
set_option linter.unusedVariables false
set_option linter.unusedSimpArgs false
set_option maxRecDepth 100000
attribute [local go_sem] gb_max2 gb_min2 gb_max_two gb_min_two gb_max_three gb_min_three

theorem heap_alloc_newf (w : World) (o : Obj) : (w.alloc o).heap[w.heap.size]? = some o := by show (w.heap.push o)[w.heap.size]? = _; simp
theorem lit1_C {W : World} {b : Nat} {e : TypeId} {fr : Nat × Nat} {x : Int} (h1 : W.heap[b]? = some (.cells #[.int .u8 x] e fr)) : (Kd.int .u8).C W (some ⟨b, 0, none⟩) 1 [x] := by
  refine ⟨rfl, by simp, fun _ => ⟨_, rfl, fun j p hj => ⟨[.int .u8 p], rfl, rfl, fun i u hu => ?_⟩⟩⟩
  rw [show (Kd.int .u8).sz = 1 from rfl, add_plain, Joins.cell_of_block h1]
  match i, hu, j, hj with
  | 0, hu, 0, hj =>
    obtain rfl : x = p := by simpa using hj
    simpa using hu
  | 0, hu, j + 1, hj => simp at hj
  | i + 1, hu, j, hj => simp at hu
theorem lit1_kb {W W' : World} {p b : Nat} {e : TypeId} {fr : Nat × Nat} {x : Int} (h1 : W.heap[b]? = some (.cells #[.int .u8 x] e fr)) (hne : b ≠ p) (hk : KB p W W') : (Kd.int .u8).C W' (some ⟨b, 0, none⟩) 1 [x] := by
  refine lit1_C (e := e) (fr := fr) ?_
  rw [hk.2 b _ hne, h1]
  rcases Nat.lt_or_ge b W.heap.size with h | h
  · exact h
  · rw [Array.getElem?_eq_none h] at h1; cases h1
theorem C_kb {w W W' : World} {p n : Nat} {A : Option Addr} {x : List Int} (h : (Kd.int .u8).C w A n x) (hb : Below w.heap.size w W) (hp : w.heap.size ≤ p) (hk : KB p W W') : (Kd.int .u8).C W' A n x := by
  have h2 : Below w.heap.size w { W' with os := w.os, tape := w.tape, output := w.output } :=
    ⟨rfl, rfl, rfl, Nat.le_trans hb.size hk.1, fun k hk' => (hk.2 k (Nat.lt_of_lt_of_le hk' hb.size) (by omega)).trans (hb.block k hk')⟩
  have h3 := Kd.C_below h h2
  exact h3

theorem send_ok (W : World) (base p : Nat) (room : Int) (bss : List (List Int)) (s c d t : Int) (h : Lk W base p room bss s c d t) (hr : 0 < room) (hne : (bss.length : Int) ≠ room) (hn : bss.length ≤ 1000000) (hs0 : 0 ≤ s) (hs1 : s ≤ 4294967295) (hd0 : 0 ≤ d) (hd1 : d ≤ 4294967295)
    (A : Option Addr) (k : Nat) (bs : List Int) (hx : ∀ W', KB p W W' → (Kd.int .u8).C W' A bs.length bs) (hc : bs.length ≤ k) (hl : bs.length ≤ 100000000) :
    Calls Try.prog 12 #[.pointer (some ⟨p, 0, none⟩), .slice A bs.length k] W fun e w' => e = .returned (.int .i64 0) ∧ Lk w' base p room (bss ++ [bs]) (up s 1) c d t ∧ Below base W w' :=
  (send_any W base p room bss s c d t h hr hn hs0 hs1 hd0 hd1 A k bs hx hc hl).mono fun e w' h => by unfold SendR at h; rwa [if_neg hne] at h
theorem send_full (W : World) (base p : Nat) (room : Int) (bss : List (List Int)) (s c d t : Int) (h : Lk W base p room bss s c d t) (hr : 0 < room) (hne : (bss.length : Int) = room) (hn : bss.length ≤ 1000000) (hs0 : 0 ≤ s) (hs1 : s ≤ 4294967295) (hd0 : 0 ≤ d) (hd1 : d ≤ 4294967295)
    (A : Option Addr) (k : Nat) (bs : List Int) (hx : ∀ W', KB p W W' → (Kd.int .u8).C W' A bs.length bs) (hc : bs.length ≤ k) (hl : bs.length ≤ 100000000) :
    Calls Try.prog 12 #[.pointer (some ⟨p, 0, none⟩), .slice A bs.length k] W fun e w' => e = .returned (.int .i64 9) ∧ Lk w' base p room bss (up s 1) c (up d 1) t ∧ Below base W w' :=
  (send_any W base p room bss s c d t h hr hn hs0 hs1 hd0 hd1 A k bs hx hc hl).mono fun e w' h => by unfold SendR at h; rwa [if_pos hne] at h

set_option maxHeartbeats 1000000 in
theorem alive21_any (W : World) : Calls Try.prog 11 #[] W fun e w' => e = .returned (.bool true) ∧ Below W.heap.size W w' := by
  have kc := fun (w : World) (C : Array Value) (n c : Nat) => Lib.run_convert_bytes_const (P := Try.prog) w 28 5 C n c Try.underlying28 Try.underlying5
  go_enter Try.func11, Try.ntmps11
  go_wp2_with fail
  refine (lnew_any 1 _ (by omega) (by omega)).mono ?_
  unfold LkNew
  rintro e w1 ⟨p, rfl, hL, hb⟩
  have HL := Lib.hid hL
  have HB := Lib.hid hb
  clear hL hb
  go_wp2_with fail
  obtain ⟨b1, hb1⟩ : ∃ b, w1.heap.size = b := ⟨_, rfl⟩
  have hlt : p < b1 := by rw [← hb1]; exact HL.out.at_.1
  have hl1 := heap_alloc_newf w1 (.cells #[.int .u8 97] 5 (1, 2))
  rw [hb1] at hl1
  have HX1 := Lib.hid (fun W' (hk : KB p (w1.alloc (.cells #[.int .u8 97] 5 (1, 2))) W') => lit1_kb hl1 (by omega) hk)
  have HB := Lib.hid (below_alloc HB.out (.cells #[.int .u8 97] 5 (1, 2)))
  have HL := Lib.hid (HL.out.below (below_alloc (Below.refl _ w1) (.cells #[.int .u8 97] 5 (1, 2))))
  have HLT := Lib.hid hlt
  obtain ⟨w2, hw2⟩ : ∃ w2, w1.alloc (.cells #[.int .u8 97] 5 (1, 2)) = w2 := ⟨_, rfl⟩
  rw [hw2] at HX1 HB HL
  rw [hw2]
  try rw [hb1]
  clear hl1 hw2 hb1 hlt
  refine (send_ok w2 W.heap.size p 1 [] 0 0 0 0 HL.out (by omega) (by simp) (by simp) (by omega) (by omega) (by omega) (by omega) (some ⟨b1, 0, none⟩) 1 [97] HX1.out (by simp) (by simp)).mono ?_
  rw [show up 0 1 = 1 from rfl, show ([] : List (List Int)) ++ [[97]] = [[97]] from rfl]
  rintro e w3 ⟨rfl, hL, hb⟩
  have HL := Lib.hid hL
  have HB := Lib.hid (HB.out.trans hb)
  clear hL hb HX1 HLT
  go_wp2_with fail
  obtain ⟨b1, hb1⟩ : ∃ b, w3.heap.size = b := ⟨_, rfl⟩
  have hlt : p < b1 := by rw [← hb1]; exact HL.out.at_.1
  have hl1 := heap_alloc_newf w3 (.cells #[.int .u8 98] 5 (1, 2))
  rw [hb1] at hl1
  have HX1 := Lib.hid (fun W' (hk : KB p (w3.alloc (.cells #[.int .u8 98] 5 (1, 2))) W') => lit1_kb hl1 (by omega) hk)
  have HB := Lib.hid (below_alloc HB.out (.cells #[.int .u8 98] 5 (1, 2)))
  have HL := Lib.hid (HL.out.below (below_alloc (Below.refl _ w3) (.cells #[.int .u8 98] 5 (1, 2))))
  obtain ⟨w4, hw4⟩ : ∃ w4, w3.alloc (.cells #[.int .u8 98] 5 (1, 2)) = w4 := ⟨_, rfl⟩
  rw [hw4] at HX1 HB HL
  rw [hw4]
  try rw [hb1]
  clear hl1 hw4 hb1 hlt
  refine (send_full w4 W.heap.size p 1 [[97]] 1 0 0 0 HL.out (by omega) (by simp) (by simp) (by omega) (by omega) (by omega) (by omega) (some ⟨b1, 0, none⟩) 1 [98] HX1.out (by simp) (by simp)).mono ?_
  rw [show up 0 1 = 1 from rfl, show up 1 1 = 2 from rfl]
  rintro e w5 ⟨rfl, hL, hb⟩
  have HL := Lib.hid hL
  have HB := Lib.hid (HB.out.trans hb)
  clear hL hb HX1
  go_wp2_with fail
  refine (deliver_in w5 W.heap.size p 1 [[97]] 2 0 1 0 HL.out (by omega) 0 (by simp) (by simp) (by omega) (by omega)).mono ?_
  unfold DelR
  rw [show up 0 1 = 1 from rfl, show erase [[97]] 0 = [] from rfl, show ([[97]] : List (List Int)).getD 0 [] = [97] from rfl]
  rintro e w6 ⟨A, m, rfl, hm, hR, hL, hb⟩
  have HL := Lib.hid hL
  have HB := Lib.hid (HB.out.trans hb)
  have HR := Lib.hid hR
  clear hL hb hR
  go_wp2_with fail
  refine (counts_any w6 W.heap.size p 1 [] 2 1 1 0 HL.out (by omega)).mono ?_
  rintro e w7 ⟨rfl, hb⟩
  have HB7 := Lib.hid (below_then HB.out HB.out.size hb)
  obtain ⟨A', m', e9, -, hC⟩ := Kd.R_reads HR.out
  injection e9 with e1 e2 e3
  subst e1 e3
  have HC := Lib.hid (Kd.C_below hC (below_alloc hb (.cells #[.int .u32 2, .int .u32 1, .int .u32 1, .int .u32 0] 77)))
  have ks := Kd.C_string (P := Try.prog) (c := m) Try.underlying28 Try.underlying5 Try.underlying9 HC.out
  rw [show strOfNums [97] = ⟨#[97]⟩ from rfl] at ks
  change (convert 28 9 (.slice A 1 m)).run Try.prog _ = _ at ks
  clear hb hC
  go_wp2_with fail
  go_ret
  exact ⟨rfl, below_alloc HB7.out _⟩

end Go.Proofs.Ytcelhendfjiicaa
