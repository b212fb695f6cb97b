/- A step of law 21; far. -/
import Derived.Test.YtcelhendfjiicaaLnC
import Derived.Test.YtcelhendfjiicaaOpw
namespace Go.Proofs.Ytcelhendfjiicaa
open Go.RowKit Go.Shelf Go.Proofs.YtcelhendfjiicaaW.PrintWords Go.Proofs.YtcelhendfjiicaaW.PrintLast Go.Proofs.YtcelhendfjiicaaW.PrintMore
set_option linter.unusedVariables false
set_option linter.unusedSimpArgs false
set_option maxRecDepth 100000
attribute [local go_sem] gb_max2 gb_min2 gb_max_two gb_min_two gb_max_three gb_min_three

abbrev KB8 : Kd (List Int) := Kd.slice 5 (Kd.int .u8)
/-- A step: Kind, Bytes, I, At, Mask. -/
abbrev StepV := Int × List Int × Int × Int × Int
abbrev KStep : Kd StepV := Kd.pair (Kd.int .u8) (Kd.pair KB8 (Kd.pair (Kd.int .i64) (Kd.pair (Kd.int .i64) (Kd.int .u32))))
def StepG (x : StepV) : Prop := (Lit.int .u8 x.1).wf = true ∧ ((∀ b ∈ x.2.1, (Lit.int .u8 b).wf = true) ∧ x.2.1.length ≤ maxLen ∧ x.2.1.length * Try.prog.bytesOf 5 ≤ reachBytes) ∧ (Lit.int .i64 x.2.2.1).wf = true ∧ (Lit.int .i64 x.2.2.2.1).wf = true ∧ (Lit.int .u32 x.2.2.2.2).wf = true
theorem bytes_u8 : Try.prog.bytesOf 5 = 1 := by kernel_rfl
theorem StepG.len {x : StepV} (h : StepG x) : x.2.1.length ≤ 140737488351232 := by
  have h1 := h.2.1.2.2
  rw [bytes_u8, Nat.mul_one] at h1
  exact h1
theorem op_step : OpensW Try.prog 54 KStep StepG := by
  have h := OpensW.struct Try.underlying54 (by kernel_rfl)
    (OpensFsW.cons rfl (by kernel_rfl) (OpensW.of (Opens.int Try.underlying5)) (OpensFsW.cons rfl (by kernel_rfl) (OpensW.slice Try.underlying28 (by kernel_rfl) (OpensW.of (Opens.int Try.underlying5)))
      (OpensFsW.cons rfl (by kernel_rfl) (OpensW.of (Opens.int Try.underlying3)) (OpensFsW.cons rfl (by kernel_rfl) (OpensW.of (Opens.int Try.underlying3)) (OpensFsW.one rfl (by kernel_rfl) (OpensW.of (Opens.int Try.underlying52)))))))
  exact h
theorem op_steps : OpensW Try.prog 48 (Kd.slice 54 KStep) (fun xs => (∀ x ∈ xs, StepG x) ∧ xs.length ≤ maxLen ∧ xs.length * Try.prog.bytesOf 54 ≤ reachBytes) := OpensW.slice Try.underlying48 (by kernel_rfl) op_step
theorem step_K {w : World} {x : StepV} {cs : List Value} (h : KStep.K w x cs) : ∃ A c, cs = [.int .u8 x.1, .slice A x.2.1.length c, .int .i64 x.2.2.1, .int .i64 x.2.2.2.1, .int .u32 x.2.2.2.2] ∧ x.2.1.length ≤ c ∧ (Kd.int .u8).C w A x.2.1.length x.2.1 := by
  obtain ⟨c0, r0, e0, h0, c1, r1, e1, ⟨A, c, h1, h2, h3⟩, c2, r2, e2, h4, c3, r3, e3, h5, h6⟩ := h
  have h0' : c0 = [.int .u8 x.1] := h0
  have h4' : c2 = [.int .i64 x.2.2.1] := h4
  have h5' : c3 = [.int .i64 x.2.2.2.1] := h5
  have h6' : r3 = [.int .u32 x.2.2.2.2] := h6
  subst e3 e2 e1 h0' h4' h5' h6' h1
  exact ⟨A, c, e0, h2, h3⟩
theorem step_cells {w : World} {x : StepV} {cs : Array Value} (h : KStep.K w x cs.toList) : ∃ A c, cs = #[.int .u8 x.1, .slice A x.2.1.length c, .int .i64 x.2.2.1, .int .i64 x.2.2.2.1, .int .u32 x.2.2.2.2] ∧ x.2.1.length ≤ c ∧ (Kd.int .u8).C w A x.2.1.length x.2.1 := by
  obtain ⟨A, c, e, h1, h2⟩ := step_K h
  exact ⟨A, c, Array.toList_inj.1 e, h1, h2⟩
/-- A step by itself, in a block of its own. -/
theorem steps1 {W : World} {b : Nat} {fr : Nat × Nat} {x : StepV} {A : Option Addr} {c : Nat} (hh : W.heap[b]? = some (.cells #[.int .u8 x.1, .slice A x.2.1.length c, .int .i64 x.2.2.1, .int .i64 x.2.2.2.1, .int .u32 x.2.2.2.2] 54 (0, 0))) (hc : x.2.1.length ≤ c) (hC : (Kd.int .u8).C W A x.2.1.length x.2.1) : KStep.C W (some ⟨b, 0, none⟩) [x].length [x] := by
  refine ⟨rfl, by simp, fun _ => ⟨_, rfl, fun j p hj => ?_⟩⟩
  match j, hj with
  | 0, hj =>
    obtain rfl : x = p := by simpa using hj
    refine ⟨[.int .u8 x.1, .slice A x.2.1.length c, .int .i64 x.2.2.1, .int .i64 x.2.2.2.1, .int .u32 x.2.2.2.2], rfl, ⟨_, _, rfl, rfl, _, _, rfl, ⟨A, c, rfl, hc, hC⟩, _, _, rfl, rfl, _, _, rfl, rfl, rfl⟩, fun i u hu => ?_⟩
    rw [Nat.zero_mul, Nat.zero_add, add_plain, blk_cell hh, ← hu]
    simp
  | j + 1, hj => simp at hj
theorem add_on (a : Addr) (m j : Nat) (hj : 0 < j) : a.add (m + j) = ⟨(a.add m).block, (a.add m).off + j, none⟩ := add_field a m j hj
/-- A step among others. -/
theorem steps_at {w : World} {Ad : Option Addr} {L : List StepV} (h : KStep.C w Ad L.length L) (i : Nat) (hi : i < L.length) :
    ∃ ad x A c, Ad = some ad ∧ L.getD i (0, [], 0, 0, 0) = x ∧ x ∈ L ∧ x.2.1.length ≤ c ∧ (Kd.int .u8).C w A x.2.1.length x.2.1 ∧ w.cell? (ad.add (i * 5)) = some (.int .u8 x.1) ∧ w.cell? ⟨(ad.add (i * 5)).block, (ad.add (i * 5)).off + 1, none⟩ = some (.slice A x.2.1.length c) ∧
      w.cell? ⟨(ad.add (i * 5)).block, (ad.add (i * 5)).off + 2, none⟩ = some (.int .i64 x.2.2.1) ∧ w.cell? ⟨(ad.add (i * 5)).block, (ad.add (i * 5)).off + 3, none⟩ = some (.int .i64 x.2.2.2.1) ∧ w.cell? ⟨(ad.add (i * 5)).block, (ad.add (i * 5)).off + 4, none⟩ = some (.int .u32 x.2.2.2.2) := by
  obtain ⟨ad, c, e, hl, hK, hcell⟩ := Kd.C_get h (0, [], 0, 0, 0) (i : Int) (by omega) (by omega)
  have hi' : (i : Int).toNat = i := by omega
  rw [hi'] at hK hcell
  obtain ⟨x, hx⟩ : ∃ x, L.getD i (0, [], 0, 0, 0) = x := ⟨_, rfl⟩
  rw [hx] at hK
  obtain ⟨A, c9, rfl, h1, h2⟩ := step_K hK
  have hs : KStep.sz = 5 := rfl
  rw [hs] at hcell
  have hm : x ∈ L := by rw [← hx, List.getD_eq_getElem?_getD, List.getElem?_eq_getElem hi]; exact List.getElem_mem hi
  refine ⟨ad, x, A, c9, e, hx, hm, h1, h2, hcell 0 _ rfl, ?_, ?_, ?_, ?_⟩
  · rw [← add_on ad _ 1 (by omega)]; exact hcell 1 _ rfl
  · rw [← add_on ad _ 2 (by omega)]; exact hcell 2 _ rfl
  · rw [← add_on ad _ 3 (by omega)]; exact hcell 3 _ rfl
  · rw [← add_on ad _ 4 (by omega)]; exact hcell 4 _ rfl

theorem Tx8.kb {W W' : World} {B p : Nat} {v : Value} {xs : List Int} (h : Tx8 W B v xs) (hp : p < B) (hk : KB p W W') : Tx8 W' B v xs :=
  Kd.R_mono (Kd.R_step (Kd.R_bound h) (fun k hk' hlt => hk.2 k hlt (by have := hk'.2.1; omega))) (fun _ _ => trivial)
theorem Tx8.C {W : World} {B m c : Nat} {A : Option Addr} {xs : List Int} (h : Tx8 W B (.slice A m c) xs) : xs.length = m ∧ m ≤ c ∧ (Kd.int .u8).C W A m xs := by
  obtain ⟨A', c', e, h1, h2⟩ := h.reads
  injection e with e1 e2 e3
  subst e1 e2 e3
  exact ⟨rfl, h1, h2⟩
theorem Tx8.form {W : World} {B m c : Nat} {A : Option Addr} {xs : List Int} (h : Tx8 W B (.slice A m c) xs) (hm : 0 < m) : ∃ b cells, A = some ⟨b, 0, none⟩ ∧ B ≤ b ∧ b < W.heap.size ∧ W.heap[b]? = some (.cells cells 5 (0, 0)) := by
  have hl := h.C.1
  obtain ⟨-, ⟨-, h0⟩ | ⟨b, k, cur, e, hbg, hb, hnc, hcm, hcs, htk⟩⟩ := h.row
  · omega
  · injection e with e1 e2 e3
    exact ⟨b, cur, e1, hbg, blk_lt hb, hb⟩
theorem Tx8.cell {W : World} {B m c b : Nat} {xs : List Int} (h : Tx8 W B (.slice (some ⟨b, 0, none⟩) m c) xs) (i : Nat) (hi : i < m) : W.cell? ⟨b, i, none⟩ = some (.int .u8 (xs.getD i 0)) ∧ W.frozen? ⟨b, i, none⟩ = false := by
  obtain ⟨hl, hc, hC⟩ := h.C
  obtain ⟨b', cells, e, -, -, hb⟩ := h.form (by omega)
  have hbb : b = b' := by injection e with e; injection e
  subst hbb
  subst hl
  obtain ⟨ad, c', e2, hl, hK, hcell⟩ := Kd.C_get hC 0 (i : Int) (by omega) (by omega)
  have hi' : (i : Int).toNat = i := by omega
  rw [hi'] at hK hcell
  injection e2 with e2
  subst e2
  have hK' : c' = [.int .u8 (xs.getD i 0)] := hK
  subst hK'
  have h2 := hcell 0 _ rfl
  rw [show (Kd.int .u8).sz = 1 from rfl, Nat.mul_one, Nat.add_zero, add_plain] at h2
  exact ⟨h2, blk_frozen hb i⟩
theorem Tx8.store {W : World} {B m c b : Nat} {xs : List Int} (h : Tx8 W B (.slice (some ⟨b, 0, none⟩) m c) xs) (i : Nat) (u : Int) : Tx8 (W.setCell ⟨b, i, none⟩ (.int .u8 u)) B (.slice (some ⟨b, 0, none⟩) m c) (xs.set i u) := by
  have hl := h.C.1
  have hr := h.row
  subst hl
  have h2 := own_store hr (i : Int) u
  rw [show (i : Int).toNat = i by omega] at h2
  exact Kd.R_of_own (enc := Value.int .u8) (h1 := fun _ => rfl) (by rw [List.length_set]; exact h2.1) (fun _ _ => trivial)
theorem infoStep : (Try.prog.info? 54).map (fun i => (i.zero, i.size, i.bytes)) = some (some (.agg #[.int .u8 0, .slice none 0 0, .int .i64 0, .int .i64 0, .int .u32 0]), 5, 56) := by kernel_rfl
theorem short21_any (A : Option Addr) (n c : Nat) (hn : n ≤ c) (W : World) : Calls Try.prog 22 #[.slice A n c] W fun e w' => e = .returned (.slice A (min n 200) c) ∧ W = w' := by
  have h0 : min n 200 ≤ n := by omega
  have e0 : min (n : Int) 200 = ((min n 200 : Nat) : Int) := by omega
  obtain ⟨m, hm⟩ : ∃ m, min n 200 = m := ⟨_, rfl⟩
  rw [hm] at h0 e0 ⊢
  clear hm
  go_enter Try.func22, Try.ntmps22
  go_wp2_with fail
  go_ret
  exact ⟨rfl, rfl⟩

/-- How many bytes steps have, as far counts them. -/
def farS : List StepV → Int
  | [] => 0
  | x :: l => min (x.2.1.length : Int) 10000 + farS l
theorem farS_snoc (l : List StepV) (x : StepV) : farS (l ++ [x]) = farS l + min (x.2.1.length : Int) 10000 := by
  induction l with
  | nil => show min _ _ + 0 = 0 + _; omega
  | cons y l ih => show min _ _ + farS (l ++ [x]) = min _ _ + farS l + _; rw [ih]; omega
theorem farS_le (l : List StepV) : 0 ≤ farS l ∧ farS l ≤ 10000 * l.length := by
  induction l with
  | nil => exact ⟨Int.le_refl _, by simp [farS]⟩
  | cons y l ih => 
    have h1 : farS (y :: l) = min (y.2.1.length : Int) 10000 + farS l := rfl
    rw [h1, List.length_cons]
    omega
theorem farS_take (l : List StepV) (i : Nat) (hi : i < l.length) : farS (l.take (i + 1)) = farS (l.take i) + min ((l.getD i (0, [], 0, 0, 0)).2.1.length : Int) 10000 := by
  rw [List.take_succ_eq_append_getElem hi, farS_snoc, List.getD_eq_getElem?_getD, List.getElem?_eq_getElem hi]; rfl

set_option maxHeartbeats 1000000 in
theorem far21_any (Ad : Option Addr) (L : List StepV) (cap : Nat) (W : World) (h : KStep.C W Ad L.length L) (hc : L.length ≤ cap) :
    Calls Try.prog 21 #[.slice Ad L.length cap] W fun e w' => e = .returned (.bool (decide (10000 < farS (L.take 200)))) ∧ Below W.heap.size W w' := by
  have HC := Lib.hid (fun (W' : World) (hb : Below W.heap.size W W') => Kd.C_below h hb)
  have HS := Lib.hid (short21_any Ad L.length cap hc W)
  obtain ⟨m, hm⟩ : ∃ m, min L.length 200 = m := ⟨_, rfl⟩
  have hmn : m ≤ L.length := by omega
  have hm2 : m ≤ 200 := by omega
  have HT := Lib.hid (show L.take m = L.take 200 by
    rcases Nat.le_total L.length 200 with h1 | h1
    · rw [List.take_of_length_le (by omega), List.take_of_length_le h1]
    · rw [show m = 200 by omega])
  rw [hm] at HS
  obtain ⟨n, hn⟩ : ∃ n, L.length = n := ⟨_, rfl⟩
  rw [hn] at HS hmn ⊢
  have HN := Lib.hid hn
  obtain ⟨r, hr⟩ : ∃ r, decide (10000 < farS (L.take 200)) = r := ⟨_, rfl⟩
  rw [hr]
  have HR := Lib.hid hr
  clear h hc hm hn hr
  go_enter Try.func21, Try.ntmps21
  go_wp2_with fail
  refine HS.out.mono ?_
  rintro e w' ⟨rfl, rfl⟩
  go_wp2_with fail
  go_loopw [3, 9] (fun nv s wr => ∃ i : Nat, s = .int .i64 i ∧ i ≤ m ∧ nv = .int .i64 (farS (L.take i)) ∧ Hid (Below W.heap.size W wr)) (fun _ s _ => m - (intOf s).toNat)
  case atStart => exact ⟨0, rfl, by omega, by simp [farS], Lib.hid (Below.refl _ _)⟩
  case round =>
    obtain ⟨i, rfl, hi, rfl, HB⟩ := hrel
    by_cases him : i < m
    · obtain ⟨ad, x, A, c, e1, hx, -, hc, hC, q0, q1, q2, q3, q4⟩ := steps_at (HC.out _ HB.out) i (by rw [HN.out]; omega)
      subst e1
      have hft := farS_take L i (by rw [HN.out]; omega)
      rw [hx] at hft
      have hb := farS_le (L.take i)
      have hl : (L.take i).length ≤ 200 := by rw [List.length_take]; omega
      obtain ⟨f, hf⟩ : ∃ f, farS (L.take i) = f := ⟨_, rfl⟩
      rw [hf] at hft hb ⊢
      have hf0 := hb.1
      have hf1 : f ≤ 2000000 := by omega
      obtain ⟨k, hk⟩ : ∃ k, x.2.1.length = k := ⟨_, rfl⟩
      rw [hk] at hft q1
      have HFT := Lib.hid hft
      clear hft hb hl hf hk hC hc hx
      go_wp2_with fail
      go_roundw
      case rel => exact ⟨i + 1, by go_num, by omega, by rw [HFT.out], Lib.hid (below_alloc HB.out _)⟩
      case measure => simp [intOf]; omega
    · have hi' : i = m := by omega
      subst hi'
      have HF := Lib.hid (show decide (10000 < farS (L.take i)) = r by rw [HT.out]; exact HR.out)
      obtain ⟨f, hf⟩ : ∃ f, farS (L.take i) = f := ⟨_, rfl⟩
      rw [hf] at HF ⊢
      clear hf
      go_wp2_with fail
      go_ret
      exact ⟨ret_b HF.out, HB.out⟩

end Go.Proofs.Ytcelhendfjiicaa
