/- A step of the statements on tables, as it comes in. -/
import Derived.Test.YtmbhicjjbgbneaaAdF
import Derived.Test.YtmbhicjjbgbneaaOpn
import Derived.Test.YtmbhicjjbgbneaaGbB
namespace Go.Proofs.Ytmbhicjjbgbneaa
open Go.RowKit Go.Shelf Go.Proofs.YtmbhicjjbgbneaaW.PrintWords Go.Proofs.YtmbhicjjbgbneaaW.PrintLast Go.Proofs.YtmbhicjjbgbneaaW.PrintMore
set_option linter.unusedVariables false
set_option linter.unusedSimpArgs false
set_option maxRecDepth 100000
attribute [local go_sem] gb_max2 gb_min2 gb_max_two gb_min_two gb_max_three gb_min_three
abbrev KInts : Kd (List Int) := Kd.slice 3 (Kd.int .i64)
abbrev JobV := Int × List Int × Int
abbrev KJob : Kd JobV := Kd.pair (Kd.int .u64) (Kd.pair KInts (Kd.int .i64))
abbrev JobG (x : JobV) : Prop := (Lit.int .i64 x.2.2).wf = true
theorem op_ints : Opens Try.prog 42 KInts (fun xs => (∀ x ∈ xs, (Lit.int .i64 x).wf = true) ∧ xs.length ≤ maxLen) := Opens.slice Try.underlying42 (by kernel_rfl) (Opens.int Try.underlying3)
theorem op_job : Opens Try.prog 44 KJob JobG := by
  have h := Opens.struct Try.underlying44 (by kernel_rfl)
    (OpensFs.cons rfl (by kernel_rfl) (Opens.int Try.underlying22) (OpensFs.cons rfl (by kernel_rfl) op_ints (OpensFs.one rfl (by kernel_rfl) (Opens.int Try.underlying3))))
  intro H enc w n cs y hy
  obtain ⟨x, hx, hg⟩ := h H enc w n cs y hy
  exact ⟨x, hx, hg.2.2⟩
theorem job_cells {w : World} {d : JobV} {cs : Array Value} (h : KJob.K w d cs.toList) : ∃ A k, cs = #[.int .u64 d.1, .slice A d.2.1.length k, .int .i64 d.2.2] ∧ d.2.1.length ≤ k ∧ (Kd.int .i64).C w A d.2.1.length d.2.1 := by
  obtain ⟨c0, r, e, h0, ⟨c1, r1, e1, h1, h2⟩⟩ := h
  have h0' : c0 = [.int .u64 d.1] := h0
  have h2' : r1 = [.int .i64 d.2.2] := h2
  obtain ⟨A, k, rfl, hl, hC⟩ := h1
  subst e1 h0' h2'
  exact ⟨A, k, Array.toList_inj.1 e, hl, hC⟩
abbrev AStepV := Int × Int × Int × JobV
abbrev KAStep : Kd AStepV := Kd.pair (Kd.int .u8) (Kd.pair (Kd.int .u64) (Kd.pair (Kd.int .u64) KJob))
def AStepG (x : AStepV) : Prop := (Lit.int .u8 x.1).wf = true ∧ (Lit.int .u64 x.2.1).wf = true ∧ (Lit.int .u64 x.2.2.1).wf = true ∧ JobG x.2.2.2
theorem op_astep : Opens Try.prog 46 KAStep AStepG := by
  have h := Opens.struct Try.underlying46 (by kernel_rfl)
    (OpensFs.cons rfl (by kernel_rfl) (Opens.int Try.underlying5) (OpensFs.cons rfl (by kernel_rfl) (Opens.int Try.underlying22) (OpensFs.cons rfl (by kernel_rfl) (Opens.int Try.underlying22) (OpensFs.one rfl (by kernel_rfl) op_job))))
  exact h
theorem astep_K {w : World} {x : AStepV} {cs : List Value} (h : KAStep.K w x cs) : ∃ A c, cs = [.int .u8 x.1, .int .u64 x.2.1, .int .u64 x.2.2.1, .int .u64 x.2.2.2.1, .slice A x.2.2.2.2.1.length c, .int .i64 x.2.2.2.2.2] ∧ x.2.2.2.2.1.length ≤ c ∧ (Kd.int .i64).C w A x.2.2.2.2.1.length x.2.2.2.2.1 := by
  obtain ⟨c0, r0, e0, h0, c1, r1, e1, h1, c2, r2, e2, h2, c3, r3, e3, h3, c4, r4, e4, ⟨A, c, h5, h6, h7⟩, h8⟩ := h
  have h0' : c0 = [.int .u8 x.1] := h0
  have h1' : c1 = [.int .u64 x.2.1] := h1
  have h2' : c2 = [.int .u64 x.2.2.1] := h2
  have h3' : c3 = [.int .u64 x.2.2.2.1] := h3
  have h8' : r4 = [.int .i64 x.2.2.2.2.2] := h8
  subst e4 e3 e2 e1 h0' h1' h2' h3' h8' h5
  exact ⟨A, c, e0, h6, h7⟩
theorem astep_cells {w : World} {x : AStepV} {cs : Array Value} (h : KAStep.K w x cs.toList) : ∃ A c, cs = #[.int .u8 x.1, .int .u64 x.2.1, .int .u64 x.2.2.1, .int .u64 x.2.2.2.1, .slice A x.2.2.2.2.1.length c, .int .i64 x.2.2.2.2.2] ∧ x.2.2.2.2.1.length ≤ c ∧ (Kd.int .i64).C w A x.2.2.2.2.1.length x.2.2.2.2.1 := by
  obtain ⟨A, c, e, h1, h2⟩ := astep_K h
  exact ⟨A, c, Array.toList_inj.1 e, h1, h2⟩
/-- A step by itself, in a block of its own. -/
theorem asteps1 {W : World} {b : Nat} {x : AStepV} {A : Option Addr} {c : Nat} (hh : W.heap[b]? = some (.cells #[.int .u8 x.1, .int .u64 x.2.1, .int .u64 x.2.2.1, .int .u64 x.2.2.2.1, .slice A x.2.2.2.2.1.length c, .int .i64 x.2.2.2.2.2] 46 (0, 0))) (hc : x.2.2.2.2.1.length ≤ c) (hC : (Kd.int .i64).C W A x.2.2.2.2.1.length x.2.2.2.2.1) : KAStep.C W (some ⟨b, 0, none⟩) [x].length [x] := by
  refine ⟨rfl, by simp, fun _ => ⟨_, rfl, fun j p hj => ?_⟩⟩
  match j, hj with
  | 0, hj =>
    obtain rfl : x = p := by simpa using hj
    refine ⟨[.int .u8 x.1, .int .u64 x.2.1, .int .u64 x.2.2.1, .int .u64 x.2.2.2.1, .slice A x.2.2.2.2.1.length c, .int .i64 x.2.2.2.2.2], rfl, ⟨_, _, rfl, rfl, _, _, rfl, rfl, _, _, rfl, rfl, _, _, rfl, rfl, _, _, rfl, ⟨A, c, rfl, hc, hC⟩, rfl⟩, fun i u hu => ?_⟩
    rw [Nat.zero_mul, Nat.zero_add, add_plain, blk_cell hh, ← hu]
    simp
  | j + 1, hj => simp at hj
theorem aadd_on (a : Addr) (m j : Nat) (hj : 0 < j) : a.add (m + j) = ⟨(a.add m).block, (a.add m).off + j, none⟩ := add_field a m j hj
/-- A step among others. -/
theorem asteps_at {w : World} {Ad : Option Addr} {L : List AStepV} (h : KAStep.C w Ad L.length L) (i : Nat) (hi : i < L.length) :
    ∃ ad x A c, Ad = some ad ∧ L.getD i (0, 0, 0, 0, [], 0) = x ∧ x ∈ L ∧ x.2.2.2.2.1.length ≤ c ∧ (Kd.int .i64).C w A x.2.2.2.2.1.length x.2.2.2.2.1 ∧ w.cell? (ad.add (i * 6)) = some (.int .u8 x.1) ∧ w.cell? ⟨(ad.add (i * 6)).block, (ad.add (i * 6)).off + 1, none⟩ = some (.int .u64 x.2.1) ∧
      w.cell? ⟨(ad.add (i * 6)).block, (ad.add (i * 6)).off + 2, none⟩ = some (.int .u64 x.2.2.1) ∧ w.cell? ⟨(ad.add (i * 6)).block, (ad.add (i * 6)).off + 3, none⟩ = some (.int .u64 x.2.2.2.1) ∧ w.cell? ⟨(ad.add (i * 6)).block, (ad.add (i * 6)).off + 4, none⟩ = some (.slice A x.2.2.2.2.1.length c) ∧ w.cell? ⟨(ad.add (i * 6)).block, (ad.add (i * 6)).off + 5, none⟩ = some (.int .i64 x.2.2.2.2.2) := by
  obtain ⟨ad, c, e, hl, hK, hcell⟩ := Kd.C_get h (0, 0, 0, 0, [], 0) (i : Int) (by omega) (by omega)
  have hi' : (i : Int).toNat = i := by omega
  rw [hi'] at hK hcell
  obtain ⟨x, hx⟩ : ∃ x, L.getD i (0, 0, 0, 0, [], 0) = x := ⟨_, rfl⟩
  rw [hx] at hK
  obtain ⟨A, c9, rfl, h1, h2⟩ := astep_K hK
  have hs : KAStep.sz = 6 := rfl
  rw [hs] at hcell
  have hm : x ∈ L := by rw [← hx, List.getD_eq_getElem?_getD, List.getElem?_eq_getElem hi]; exact List.getElem_mem hi
  refine ⟨ad, x, A, c9, e, hx, hm, h1, h2, hcell 0 _ rfl, ?_, ?_, ?_, ?_, ?_⟩
  · rw [← aadd_on ad _ 1 (by omega)]; exact hcell 1 _ rfl
  · rw [← aadd_on ad _ 2 (by omega)]; exact hcell 2 _ rfl
  · rw [← aadd_on ad _ 3 (by omega)]; exact hcell 3 _ rfl
  · rw [← aadd_on ad _ 4 (by omega)]; exact hcell 4 _ rfl
  · rw [← aadd_on ad _ 5 (by omega)]; exact hcell 5 _ rfl
theorem short26_any (A : Option Addr) (n c : Nat) (hn : n ≤ c) (W : World) : Calls Try.prog 14 #[.slice A n c] W fun e w' => e = .returned (.slice A (min n 300) c) ∧ W = w' := by
  have h0 : min n 300 ≤ n := by omega
  have e0 : min (n : Int) 300 = ((min n 300 : Nat) : Int) := by omega
  obtain ⟨m, hm⟩ : ∃ m, min n 300 = m := ⟨_, rfl⟩
  rw [hm] at h0 e0 ⊢
  clear hm
  go_enter Try.func14, Try.ntmps14
  go_wp2_with fail
  go_ret
  exact ⟨rfl, rfl⟩

/-- How many bytes steps have, as far counts them. -/
def farA : List AStepV → Int
  | [] => 0
  | x :: l => min (x.2.2.2.2.1.length : Int) 10000 + farA l
theorem farA_snoc (l : List AStepV) (x : AStepV) : farA (l ++ [x]) = farA l + min (x.2.2.2.2.1.length : Int) 10000 := by
  induction l with
  | nil => show min _ _ + 0 = 0 + _; omega
  | cons y l ih => show min _ _ + farA (l ++ [x]) = min _ _ + farA l + _; rw [ih]; omega
theorem farA_le (l : List AStepV) : 0 ≤ farA l ∧ farA l ≤ 10000 * l.length := by
  induction l with
  | nil => exact ⟨Int.le_refl _, by simp [farA]⟩
  | cons y l ih => 
    have h1 : farA (y :: l) = min (y.2.2.2.2.1.length : Int) 10000 + farA l := rfl
    rw [h1, List.length_cons]
    omega
theorem farA_take (l : List AStepV) (i : Nat) (hi : i < l.length) : farA (l.take (i + 1)) = farA (l.take i) + min ((l.getD i (0, 0, 0, 0, [], 0)).2.2.2.2.1.length : Int) 10000 := by
  rw [List.take_succ_eq_append_getElem hi, farA_snoc, List.getD_eq_getElem?_getD, List.getElem?_eq_getElem hi]; rfl

set_option maxHeartbeats 1000000 in
theorem far26_any (Ad : Option Addr) (L : List AStepV) (cap : Nat) (W : World) (h : KAStep.C W Ad L.length L) (hc : L.length ≤ cap) :
    Calls Try.prog 12 #[.slice Ad L.length cap] W fun e w' => e = .returned (.bool (decide (10000 < farA (L.take 300)))) ∧ Below W.heap.size W w' := by
  have HC := Lib.hid (fun (W' : World) (hb : Below W.heap.size W W') => Kd.C_below h hb)
  have HS := Lib.hid (short26_any Ad L.length cap hc W)
  obtain ⟨m, hm⟩ : ∃ m, min L.length 300 = m := ⟨_, rfl⟩
  have hmn : m ≤ L.length := by omega
  have hm2 : m ≤ 300 := by omega
  have HT := Lib.hid (show L.take m = L.take 300 by
    rcases Nat.le_total L.length 300 with h1 | h1
    · rw [List.take_of_length_le (by omega), List.take_of_length_le h1]
    · rw [show m = 300 by omega])
  rw [hm] at HS
  obtain ⟨n, hn⟩ : ∃ n, L.length = n := ⟨_, rfl⟩
  rw [hn] at HS hmn ⊢
  have HN := Lib.hid hn
  obtain ⟨r, hr⟩ : ∃ r, decide (10000 < farA (L.take 300)) = r := ⟨_, rfl⟩
  rw [hr]
  have HR := Lib.hid hr
  clear h hc hm hn hr
  go_enter Try.func12, Try.ntmps12
  go_wp2_with fail
  refine HS.out.mono ?_
  rintro e w' ⟨rfl, rfl⟩
  go_wp2_with fail
  go_loopw [3, 9] (fun nv s wr => ∃ i : Nat, s = .int .i64 i ∧ i ≤ m ∧ nv = .int .i64 (farA (L.take i)) ∧ Hid (Below W.heap.size W wr)) (fun _ s _ => m - (intOf s).toNat)
  case atStart => exact ⟨0, rfl, by omega, by simp [farA], Lib.hid (Below.refl _ _)⟩
  case round =>
    obtain ⟨i, rfl, hi, rfl, HB⟩ := hrel
    by_cases him : i < m
    · obtain ⟨ad, x, A, c, e1, hx, -, hc, hC, q0, q1, q2, q3, q4, q5⟩ := asteps_at (HC.out _ HB.out) i (by rw [HN.out]; omega)
      subst e1
      have hft := farA_take L i (by rw [HN.out]; omega)
      rw [hx] at hft
      have hb := farA_le (L.take i)
      have hl : (L.take i).length ≤ 300 := by rw [List.length_take]; omega
      obtain ⟨f, hf⟩ : ∃ f, farA (L.take i) = f := ⟨_, rfl⟩
      rw [hf] at hft hb ⊢
      have hf0 := hb.1
      have hf1 : f ≤ 3000000 := by omega
      obtain ⟨k, hk⟩ : ∃ k, x.2.2.2.2.1.length = k := ⟨_, rfl⟩
      rw [hk] at hft q4
      have HFT := Lib.hid hft
      clear hft hb hl hf hk hC hc hx
      go_wp2_with fail
      go_roundw
      case rel => exact ⟨i + 1, by go_num, by omega, by rw [HFT.out], Lib.hid (below_alloc HB.out _)⟩
      case measure => simp [intOf]; omega
    · have hi' : i = m := by omega
      subst hi'
      have HF := Lib.hid (show decide (10000 < farA (L.take i)) = r by rw [HT.out]; exact HR.out)
      obtain ⟨f, hf⟩ : ∃ f, farA (L.take i) = f := ⟨_, rfl⟩
      rw [hf] at HF ⊢
      clear hf
      go_wp2_with fail
      go_ret
      exact ⟨by rw [← HF.out]; rfl, HB.out⟩

end Go.Proofs.Ytmbhicjjbgbneaa
