/- The steps of the statements on fair queues, as they come in. -/
import Derived.Test.YtcelhendfjiicaaFqN
import Derived.Test.YtcelhendfjiicaaFqT
import Derived.Test.YtcelhendfjiicaaOpn
namespace Go.Proofs.Ytcelhendfjiicaa
open Go.RowKit Go.Shelf Go.Proofs.YtcelhendfjiicaaW.PrintWords Go.Proofs.YtcelhendfjiicaaW.PrintLast Go.Proofs.YtcelhendfjiicaaW.PrintMore
set_option linter.unusedVariables false
set_option linter.unusedSimpArgs false
set_option maxRecDepth 100000
attribute [local go_sem] gb_max2 gb_min2 gb_max_two gb_min_two gb_max_three gb_min_three
abbrev FStV := Int × Int × Int × Int
abbrev KFSt : Kd FStV := Kd.pair (Kd.int .u8) (Kd.pair (Kd.int .u64) (Kd.pair (Kd.int .i64) (Kd.int .u64)))
def FStG (x : FStV) : Prop := (Lit.int .u8 x.1).wf = true ∧ (Lit.int .u64 x.2.1).wf = true ∧ (Lit.int .i64 x.2.2.1).wf = true ∧ (Lit.int .u64 x.2.2.2).wf = true
theorem op_fst : Opens Try.prog 62 KFSt FStG := by
  have h := Opens.struct Try.underlying62 (by kernel_rfl)
    (OpensFs.cons rfl (by kernel_rfl) (Opens.int Try.underlying5) (OpensFs.cons rfl (by kernel_rfl) (Opens.int Try.underlying40) (OpensFs.cons rfl (by kernel_rfl) (Opens.int Try.underlying3) (OpensFs.one rfl (by kernel_rfl) (Opens.int Try.underlying40)))))
  exact h
theorem op_fsts : Opens Try.prog 57 (Kd.slice 62 KFSt) (fun xs => (∀ x ∈ xs, FStG x) ∧ xs.length ≤ maxLen) := Opens.slice Try.underlying57 (by kernel_rfl) op_fst
theorem fst_K {w : World} {x : FStV} {cs : List Value} (h : KFSt.K w x cs) : cs = [.int .u8 x.1, .int .u64 x.2.1, .int .i64 x.2.2.1, .int .u64 x.2.2.2] := by
  obtain ⟨c0, r0, e0, h0, c1, r1, e1, h1, c2, r2, e2, h2, h3⟩ := h
  have h0' : c0 = [.int .u8 x.1] := h0
  have h1' : c1 = [.int .u64 x.2.1] := h1
  have h2' : c2 = [.int .i64 x.2.2.1] := h2
  have h3' : r2 = [.int .u64 x.2.2.2] := h3
  subst e2 e1 h0' h1' h2' h3'
  exact e0
theorem fst_cells {w : World} {x : FStV} {cs : Array Value} (h : KFSt.K w x cs.toList) : cs = #[.int .u8 x.1, .int .u64 x.2.1, .int .i64 x.2.2.1, .int .u64 x.2.2.2] := Array.toList_inj.1 (fst_K h)
theorem fadd_on (a : Addr) (m j : Nat) (hj : 0 < j) : a.add (m + j) = ⟨(a.add m).block, (a.add m).off + j, none⟩ := add_field a m j hj
/-- A step among others. -/
theorem fsts_at {w : World} {Ad : Option Addr} {L : List FStV} (h : KFSt.C w Ad L.length L) (i : Nat) (hi : i < L.length) :
    ∃ ad x, Ad = some ad ∧ L.getD i (0, 0, 0, 0) = x ∧ x ∈ L ∧ w.cell? (ad.add (i * 4)) = some (.int .u8 x.1) ∧ w.cell? ⟨(ad.add (i * 4)).block, (ad.add (i * 4)).off + 1, none⟩ = some (.int .u64 x.2.1) ∧
      w.cell? ⟨(ad.add (i * 4)).block, (ad.add (i * 4)).off + 2, none⟩ = some (.int .i64 x.2.2.1) ∧ w.cell? ⟨(ad.add (i * 4)).block, (ad.add (i * 4)).off + 3, none⟩ = some (.int .u64 x.2.2.2) := by
  obtain ⟨ad, cs, e, hl, hK, hcell⟩ := Kd.C_get h (0, 0, 0, 0) (i : Int) (by omega) (by omega)
  have hi' : (i : Int).toNat = i := by omega
  rw [hi'] at hK hcell
  obtain ⟨x, hx⟩ : ∃ x, L.getD i (0, 0, 0, 0) = x := ⟨_, rfl⟩
  rw [hx] at hK
  have e2 := fst_K hK
  subst e2
  have hs : KFSt.sz = 4 := rfl
  rw [hs] at hcell
  have hm : x ∈ L := by rw [← hx, List.getD_eq_getElem?_getD, List.getElem?_eq_getElem hi]; exact List.getElem_mem hi
  refine ⟨ad, x, e, hx, hm, hcell 0 _ rfl, ?_, ?_, ?_⟩
  · rw [← fadd_on ad _ 1 (by omega)]; exact hcell 1 _ rfl
  · rw [← fadd_on ad _ 2 (by omega)]; exact hcell 2 _ rfl
  · rw [← fadd_on ad _ 3 (by omega)]; exact hcell 3 _ rfl
theorem infFSt : (Try.prog.info? 62).map (fun i => (i.zero, i.size, i.bytes)) = some (some (.agg #[.int .u8 0, .int .u64 0, .int .i64 0, .int .u64 0]), 4, 32) := by kernel_rfl
theorem short35_any (A : Option Addr) (n c : Nat) (hn : n ≤ c) (W : World) : Calls Try.prog 27 #[.slice A n c] W fun e w' => e = .returned (.slice A (min n 120) c) ∧ W = w' := by
  have h0 : min n 120 ≤ n := by omega
  have e0 : min (n : Int) 120 = ((min n 120 : Nat) : Int) := by omega
  obtain ⟨m, hm⟩ : ∃ m, min n 120 = m := ⟨_, rfl⟩
  rw [hm] at h0 e0 ⊢
  clear hm
  go_enter Try.func27, Try.ntmps27
  go_wp2_with fail
  go_ret
  exact ⟨rfl, rfl⟩
theorem i64wf {a : Int} (h : (Lit.int .i64 a).wf = true) : -9223372036854775808 ≤ a ∧ a ≤ 9223372036854775807 := by
  change (decide (-9223372036854775808 ≤ a) && decide (a ≤ (9223372036854775807 : Int))) = true at h
  simpa using h
end Go.Proofs.Ytcelhendfjiicaa
