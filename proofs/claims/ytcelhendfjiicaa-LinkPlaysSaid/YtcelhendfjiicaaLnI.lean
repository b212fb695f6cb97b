/- The document's link, as it lies. -/
import Derived.Test.YtcelhendfjiicaaLnH
namespace Go.Proofs.Ytcelhendfjiicaa
open Go.RowKit Go.Shelf Go.Proofs.YtcelhendfjiicaaW.PrintWords Go.Proofs.YtcelhendfjiicaaW.PrintLast Go.Proofs.YtcelhendfjiicaaW.PrintMore
set_option linter.unusedVariables false
set_option linter.unusedSimpArgs false
set_option maxRecDepth 100000
attribute [local go_sem] gb_max2 gb_min2 gb_max_two gb_min_two gb_max_three gb_min_three
abbrev SlT := Option Addr × Nat × Nat
def encT (x : SlT) : Value := .slice x.1 x.2.1 x.2.2
/-- Rows of slices' values. -/
abbrev KTs : Kd SlT := Kd.scalar encT (fun _ => rfl)
def RvO (W : World) (base : Nat) (lv : Value) (ts : List SlT) : Prop := KTs.R 28 W base (fun _ => True) lv ts
theorem RvO.below {W W' : World} {base : Nat} {lv : Value} {ts : List SlT} (h : RvO W base lv ts) (hb : Below W.heap.size W W') : RvO W' base lv ts := Kd.R_below h hb
theorem RvO.lower {W : World} {base base' : Nat} {lv : Value} {ts : List SlT} (h : RvO W base lv ts) (hb : base' ≤ base) : RvO W base' lv ts := Kd.R_lower h hb
theorem RvO.reads {W : World} {base : Nat} {lv : Value} {ts : List SlT} (h : RvO W base lv ts) : ∃ A c, lv = .slice A ts.length c ∧ ts.length ≤ c ∧ KTs.C W A ts.length ts := Kd.R_reads h
def rfCells (room : Int) (lv : Value) (s c d t : Int) : Array Value := #[.int .i64 room, lv, .int .u32 s, .int .u32 c, .int .u32 d, .int .u32 t]
/-- The document's link at q. -/
def Rf (W : World) (q : Nat) (room : Int) (lv : Value) (s c d t : Int) : Prop := W.heap[q]? = some (.cells (rfCells room lv s c d t) 67 (0, 0))
theorem Rf.below {W W' : World} {q : Nat} {room : Int} {lv : Value} {s c d t : Int} (h : Rf W q room lv s c d t) (hb : Below W.heap.size W W') : Rf W' q room lv s c d t := blk_below h hb
theorem Rf.at_ {W : World} {q : Nat} {room : Int} {lv : Value} {s c d t : Int} (h : Rf W q room lv s c d t) : q < W.heap.size ∧ W.cell? ⟨q, 0, none⟩ = some (.int .i64 room) ∧ W.cell? ⟨q, 1, none⟩ = some lv ∧ W.cell? ⟨q, 2, none⟩ = some (.int .u32 s) ∧ W.cell? ⟨q, 3, none⟩ = some (.int .u32 c) ∧ W.cell? ⟨q, 4, none⟩ = some (.int .u32 d) ∧ W.cell? ⟨q, 5, none⟩ = some (.int .u32 t) := ⟨blk_lt h, blk_cell h 0, blk_cell h 1, blk_cell h 2, blk_cell h 3, blk_cell h 4, blk_cell h 5⟩
theorem Rf.frz {W : World} {q : Nat} {room : Int} {lv : Value} {s c d t : Int} (h : Rf W q room lv s c d t) (j : Nat) : W.frozen? ⟨q, j, none⟩ = false := blk_frozen h j
theorem Rf.putL {W : World} {q : Nat} {room : Int} {lv : Value} {s c d t : Int} (h : Rf W q room lv s c d t) (x : Value) : Rf (W.setCell ⟨q, 1, none⟩ x) q room x s c d t := blk_set h 1 x
theorem Rf.putS {W : World} {q : Nat} {room : Int} {lv : Value} {s c d t : Int} (h : Rf W q room lv s c d t) (x : Int) : Rf (W.setCell ⟨q, 2, none⟩ (.int .u32 x)) q room lv x c d t := blk_set h 2 _
theorem Rf.putC {W : World} {q : Nat} {room : Int} {lv : Value} {s c d t : Int} (h : Rf W q room lv s c d t) (x : Int) : Rf (W.setCell ⟨q, 3, none⟩ (.int .u32 x)) q room lv s x d t := blk_set h 3 _
theorem Rf.putD {W : World} {q : Nat} {room : Int} {lv : Value} {s c d t : Int} (h : Rf W q room lv s c d t) (x : Int) : Rf (W.setCell ⟨q, 4, none⟩ (.int .u32 x)) q room lv s c x t := blk_set h 4 _
theorem Rf.putT {W : World} {q : Nat} {room : Int} {lv : Value} {s c d t : Int} (h : Rf W q room lv s c d t) (x : Int) : Rf (W.setCell ⟨q, 5, none⟩ (.int .u32 x)) q room lv s c d x := blk_set h 5 _
theorem RvO.far {W : World} {base q : Nat} {lv : Value} {ts : List SlT} {room : Int} {l2 : Value} {s c d t : Int} (h : RvO W base lv ts) (hR : Rf W q room l2 s c d t) (j : Nat) (u : Value) : RvO (W.setCell ⟨q, j, none⟩ u) base lv ts := Kd.R_set h hR (by decide) j u
theorem rup_any (n : Int) (h0 : 0 ≤ n) (h1 : n ≤ 4294967295) (W : World) : Calls Try.prog 54 #[.int .u32 n] W fun e w' => e = .returned (.int .u32 (up n 1)) ∧ W = w' := by
  by_cases h : n = 4294967295
  · subst h
    rw [show up 4294967295 1 = 4294967295 from rfl]
    go_enter Try.func54, Try.ntmps54
    go_wp2_with fail
    go_ret
    exact ⟨rfl, rfl⟩
  · have hu : up n 1 = n + 1 := by unfold up; omega
    have hd : (n == 4294967295) = false := by simpa using h
    have hw : IntKind.u32.wrap (n + 1) = n + 1 := by unfold IntKind.wrap; simp [IntKind.bits, IntKind.signed]; omega
    rw [hu]
    clear hu h
    go_enter Try.func54, Try.ntmps54
    go_wp2_with fail
    go_ret
    exact ⟨rfl, rfl⟩
theorem rhas_any (W : World) (q : Nat) (room : Int) (A : Option Addr) (n k : Nat) (s c d t : Int) (h : Rf W q room (.slice A n k) s c d t) (i : Int) : Calls Try.prog 52 #[.pointer (some ⟨q, 0, none⟩), .int .i64 i] W fun e w' => e = .returned (.bool (decide (0 ≤ i) && decide (i < n))) ∧ W = w' := by
  obtain ⟨-, -, k1, -⟩ := h.at_
  clear h
  by_cases h0 : 0 ≤ i
  · rw [decide_eq_true h0]
    go_enter Try.func52, Try.ntmps52
    go_wp2_with fail
    go_ret
    exact ⟨rfl, rfl⟩
  · rw [decide_eq_false h0]
    go_enter Try.func52, Try.ntmps52
    go_wp2_with fail
    go_ret
    exact ⟨rfl, rfl⟩
def ersT (ts : List SlT) (i : Nat) : List SlT := ts.take i ++ ts.drop (i + 1)
def WoR (W : World) (ts : List SlT) (e : Ending) (w' : World) : Prop := ∃ A k, e = .returned (.slice A ts.length k) ∧ RvO w' W.heap.size (.slice A ts.length k) ts ∧ Below W.heap.size W w'
theorem cutT_to (A : Option Addr) (n c : Nat) (j : Nat) (h : j ≤ n) (hc : n ≤ c) : ∀ W : World, (Instr.slice 22 (.slice A n c) none (some (.int .i64 j)) none).run Try.prog W = .ok (.slice A j c) W := by
  obtain ⟨i, hi, _, hs, _⟩ := info_parts infoBytes
  have h1 := cut_to (P := Try.prog) 22 28 .i64 Try.underlying22 hi A n c j (by omega) (by omega) hc
  rwa [Int.toNat_natCast] at h1
theorem cutT_from (A : Option Addr) (n c : Nat) (j : Nat) (h : j ≤ n) (hc : n ≤ c) : ∃ A' : Option Addr, (∀ W : World, (Instr.slice 22 (.slice A n c) (some (.int .i64 j)) none none).run Try.prog W = .ok (.slice A' (n - j) (c - j)) W) ∧ ∀ (w : World) (ts : List SlT), ts.length = n → KTs.C w A n ts → KTs.C w A' (n - j) (ts.drop j) := by
  obtain ⟨i, hi, _, hs, _⟩ := info_parts infoBytes
  have h1 := cut_from (P := Try.prog) 22 28 .i64 Try.underlying22 hi 1 hs A n c j (by omega) (by omega)
  rw [Int.toNat_natCast] at h1
  refine ⟨_, h1, fun w ts hl hC => ?_⟩
  have h2 := Kd.C_drop (k := KTs) (c := c) (m := j) (xs := ts) (by rw [hl]; exact hC) (by rw [hl]; exact h) (by rw [hl]; exact hc)
  rw [List.length_drop, hl] at h2
  exact h2
theorem C_takeT {w : World} {A : Option Addr} {n : Nat} {ts : List SlT} (hn : ts.length = n) (hC : KTs.C w A n ts) (i : Nat) (hi : i ≤ n) : KTs.C w A i (ts.take i) := by
  subst hn
  have h := Kd.C_take hC hi
  rwa [show (ts.take i).length = i by rw [List.length_take]; omega] at h
set_option maxHeartbeats 2000000 in
theorem rwithout_any (W : World) (q : Nat) (room : Int) (A : Option Addr) (n k : Nat) (s c d t : Int) (h : Rf W q room (.slice A n k) s c d t) (ts : List SlT) (hn : ts.length = n) (hk : n ≤ k) (hn9 : n ≤ 1000000) (hC : KTs.C W A n ts) (i : Nat) (hi : i < n) :
    Calls Try.prog 53 #[.pointer (some ⟨q, 0, none⟩), .int .i64 i] W (WoR W (ersT ts i)) := by
  obtain ⟨-, -, k1, -⟩ := h.at_
  have hcut1 := cutT_to A n k i (by omega) hk
  obtain ⟨A2, hcut2, hA2⟩ := cutT_from A n k (i + 1) (by omega) hk
  rw [show ((i + 1 : Nat) : Int) = (i : Int) + 1 by omega] at hcut2
  have HC1 := Lib.hid (C_takeT hn hC i (by omega))
  have HC2 := Lib.hid (fun (w1 : World) (hb : Below W.heap.size W w1) => hA2 w1 ts hn (Kd.C_below hC hb))
  obtain ⟨m2, hm2⟩ : ∃ m, n - (i + 1) = m := ⟨_, rfl⟩
  obtain ⟨c2, hc2⟩ : ∃ m, k - (i + 1) = m := ⟨_, rfl⟩
  rw [hm2] at HC2
  rw [hm2, hc2] at hcut2
  have hws : IntKind.i64.wrap ((i : Int) + 1) = (i : Int) + 1 := by unfold IntKind.wrap; simp [IntKind.bits, IntKind.signed]; omega
  have HL1 := Lib.hid (show (ts.take i).length = i by rw [List.length_take]; omega)
  have hel : (ersT ts i).length = i + m2 := by unfold ersT; rw [List.length_append, List.length_take, List.length_drop]; omega
  have HEL := Lib.hid hel
  have HM2 := Lib.hid hm2
  have hb0 : i + m2 ≤ 1000000 := by omega
  have HB0 := Lib.hid hb0
  unfold WoR
  clear h hn hC hA2 hm2 hc2 hel hb0 hk
  go_enter Try.func53, Try.ntmps53
  go_upto_region 1 with fail
  go_region_law (first
    | (refine Kd.R_append_rows_step KTs (Rr := KTs.K W) (w0 := W) (W := W.drew) W.heap.size rfl _ _ 22 28 (.slice none 0 0) 24 rfl Try.underlying22 infoBytes (by rfl) (by decide) (by decide) (.slice none 0 0) [] (ts.take i) A i k (fun _ => True) (fun _ => False) (by rfl) (by rfl) (Kd.R_nil _ _ _ _ _) HC1.out (fun _ _ h => h) (fun _ h => h.elim) (fun _ _ => trivial) (below_drew (Below.refl _ _)) (Nat.le_refl _) (by simp; have := HB0.out; omega) ?_; intro v1 w1 hr1 hb1 hg1 hat1; have hv1 := RvO.reads (show RvO w1 W.heap.size v1 (ts.take i) from hr1); obtain ⟨A1, k11, hv1, -, -⟩ := hv1; rw [HL1.out] at hv1; subst hv1; have HR1 := Lib.hid (show RvO w1 W.heap.size (.slice A1 i k11) (ts.take i) from hr1); have HB1 := Lib.hid hb1; have k1 := pw_cell_below hb1 k1; clear hr1 hb1 hg1 hat1)
    | (refine Kd.R_append_rows_step KTs (Rr := KTs.K W) (w0 := W) (W := w1) W.heap.size rfl _ _ 22 28 (.slice none 0 0) 24 rfl Try.underlying22 infoBytes (by rfl) (by decide) (by decide) (.slice A1 i k11) (ts.take i) (ts.drop (i + 1)) A2 m2 c2 (fun _ => True) (fun _ => False) (by rfl) (by rfl) HR1.out (HC2.out w1 HB1.out) (fun _ _ h => h) (fun _ h => h.elim) (fun _ _ => trivial) HB1.out HB1.out.size (by rw [HL1.out]; have := HB0.out; omega) ?_; intro v2 w2 hr2 hb2 hg2 hat2; have HR2 := Lib.hid (show RvO w2 W.heap.size v2 (ersT ts i) from hr2); have HB2 := Lib.hid hb2; clear hr2 hb2 hg2 hat2))
  all_goals
    obtain ⟨A9, k9, hv9, -, -⟩ := HR2.out.reads
    subst hv9
    go_wp2_with fail
    go_ret
    exact ⟨A9, k9, rfl, HR2.out, HB2.out⟩
end Go.Proofs.Ytcelhendfjiicaa
