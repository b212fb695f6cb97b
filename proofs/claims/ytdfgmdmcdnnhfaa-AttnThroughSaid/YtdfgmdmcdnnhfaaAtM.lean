/- The memory of attn: places that are shared. -/
import Derived.Test.YtdfgmdmcdnnhfaaAtQ
import Derived.Test.YtdfgmdmcdnnhfaaOpE
namespace Go.Proofs.Ytdfgmdmcdnnhfaa
open Go.RowKit Go.Shelf Go.Proofs.YtdfgmdmcdnnhfaaW.PrintWords Go.Proofs.YtdfgmdmcdnnhfaaW.PrintLast Go.Proofs.YtdfgmdmcdnnhfaaW.PrintMore
set_option linter.unusedVariables false
set_option linter.unusedSimpArgs false
set_option maxRecDepth 100000
attribute [local go_sem] gb_max2 gb_min2 gb_max_two gb_min_two gb_max_three gb_min_three

abbrev Pl := List (List Int) × List (List Int)
abbrev KPl : Kd Pl := Kd.pair KTab KTab
def MemP (W : World) (p : Nat) (L : Int) (P : List Pl) : Prop := ∃ A cap, W.heap[p]? = some (.cells #[.int .i64 L, .slice A P.length cap] 108 (0, 0)) ∧ KPl.C W A P.length P ∧ P.length ≤ cap
theorem MemP.below {W W' : World} {p : Nat} {L : Int} {P : List Pl} (h : MemP W p L P) (hb : Below W.heap.size W W') : MemP W' p L P := by
  obtain ⟨A, cap, h1, h2, h3⟩ := h
  exact ⟨A, cap, blk_below h1 hb, Kd.C_below h2 hb, h3⟩
theorem MemP.at_ {W : World} {p : Nat} {L : Int} {P : List Pl} (h : MemP W p L P) : ∃ A cap, W.cell? ⟨p, 0, none⟩ = some (.int .i64 L) ∧ W.cell? ⟨p, 1, none⟩ = some (.slice A P.length cap) ∧ KPl.C W A P.length P ∧ P.length ≤ cap := by
  obtain ⟨A, cap, h1, h2, h3⟩ := h
  exact ⟨A, cap, by rw [blk_cell h1]; rfl, by rw [blk_cell h1]; rfl, h2, h3⟩
theorem add_one2 (a : Addr) (m : Nat) : (a.add m).add 1 = a.add (m + 1) := by
  unfold Addr.add
  by_cases h : m = 0
  · subst h; simp
  · simp [h, Nat.add_assoc]
theorem pl_at {W : World} {A : Option Addr} {P : List Pl} (h : KPl.C W A P.length P) (k : Nat) (hk : k < P.length) :
    ∃ (ad : Addr) (A1 A2 : Option Addr) (c1 c2 : Nat), A = some ad ∧ W.cell? (ad.add (k * 2)) = some (.slice A1 (P.getD k ([], [])).1.length c1) ∧ W.cell? ⟨(ad.add (k * 2)).block, (ad.add (k * 2)).off + 1, none⟩ = some (.slice A2 (P.getD k ([], [])).2.length c2) ∧ (P.getD k ([], [])).1.length ≤ c1 ∧ (P.getD k ([], [])).2.length ≤ c2 ∧ Rows_ W A1 (P.getD k ([], [])).1 ∧ Rows_ W A2 (P.getD k ([], [])).2 := by
  obtain ⟨ad, c, e, hl, ⟨c0, c1, hc, ⟨A1, d1, e1, h1, h2⟩, ⟨A2, d2, e2, h3, h4⟩⟩, hcell⟩ := Kd.C_get h ([], []) (k : Int) (by omega) (by omega)
  subst e1 e2 hc
  have hk' : (k : Int).toNat = k := by omega
  rw [hk'] at h1 h2 h3 h4 hcell
  exact ⟨ad, A1, A2, d1, d2, e, hcell 0 _ rfl, by rw [show (⟨(ad.add (k * 2)).block, (ad.add (k * 2)).off + 1, none⟩ : Addr) = (ad.add (k * 2)).add 1 by simp [Addr.add], add_one2]; exact hcell 1 _ rfl, h1, h3, h2, h4⟩

theorem anew_any (n : Int) (W : World) : Calls Try.prog 24 #[.int .i64 n] W fun e w' => ∃ p, e = .returned (.pointer (some ⟨p, 0, none⟩)) ∧ MemP w' p (min (max n 0) 4) [] ∧ Below W.heap.size W w' := by
  have hm : MemP (W.alloc (.cells #[.int .i64 (min (max n 0) 4), .slice none 0 0] 108)) W.heap.size (min (max n 0) 4) [] := ⟨none, 0, heap_alloc_new W _, ⟨rfl, by simp, fun h => absurd h (by simp)⟩, by simp⟩
  have hb : Below W.heap.size W (W.alloc (.cells #[.int .i64 (min (max n 0) 4), .slice none 0 0] 108)) := below_alloc (Below.refl _ W) _
  obtain ⟨L, hL⟩ : ∃ L, min (max n 0) 4 = L := ⟨_, rfl⟩
  rw [hL] at hm hb ⊢
  have HM := Lib.hid hm
  have HB := Lib.hid hb
  have hL' : (if (if n < 0 then (0:Int) else n) < 4 then (if n < 0 then (0:Int) else n) else 4) = L := by
    rw [← hL]; split <;> split <;> omega
  clear hm hb
  go_enter Try.func24, Try.ntmps24
  go_wp2_with fail
  go_ret
  exact ⟨_, rfl, HM.out, HB.out⟩

theorem alen_any (W : World) (p : Nat) (L : Int) (P : List Pl) (h : MemP W p L P) : Calls Try.prog 27 #[.pointer (some ⟨p, 0, none⟩)] W fun e w' => e = .returned (.int .i64 P.length) ∧ w' = W := by
  obtain ⟨A, cap, h0, h1, -, -⟩ := h.at_
  obtain ⟨n, hn⟩ : ∃ n, P.length = n := ⟨_, rfl⟩
  rw [hn] at h1 ⊢
  clear hn h
  go_enter Try.func27, Try.ntmps27
  go_wp2_with fail
  go_ret
  exact ⟨rfl, rfl⟩
theorem alen_nil (W : World) : Calls Try.prog 27 #[.pointer none] W fun e w' => e = .returned (.int .i64 0) ∧ w' = W := by
  go_enter Try.func27, Try.ntmps27
  go_wp2_with fail
  go_ret
  exact ⟨rfl, rfl⟩
theorem alay_any (W : World) (p : Nat) (L : Int) (P : List Pl) (h : MemP W p L P) : Calls Try.prog 29 #[.pointer (some ⟨p, 0, none⟩)] W fun e w' => e = .returned (.int .i64 L) ∧ w' = W := by
  obtain ⟨A, cap, h0, h1, -, -⟩ := h.at_
  clear h h1
  go_enter Try.func29, Try.ntmps29
  go_wp2_with fail
  go_ret
  exact ⟨rfl, rfl⟩
theorem alay_nil (W : World) : Calls Try.prog 29 #[.pointer none] W fun e w' => e = .returned (.int .i64 0) ∧ w' = W := by
  go_enter Try.func29, Try.ntmps29
  go_wp2_with fail
  go_ret
  exact ⟨rfl, rfl⟩

def CutP (L : Int) (P : List Pl) (W : World) (e : Ending) (w' : World) : Prop := ∃ q, e = .returned (.pointer (some ⟨q, 0, none⟩)) ∧ MemP w' q L P ∧ Below W.heap.size W w'
theorem infoPl : (Try.prog.info? 110).map (fun i => (i.zero, i.size, i.bytes)) = some (some (.agg #[.slice none 0 0, .slice none 0 0]), 2, 48) := by kernel_rfl
theorem cutPl (A : Option Addr) (n c : Nat) (j : Nat) (h : j ≤ c) (W : World) : (Instr.slice 106 (.slice A n c) none (some (.int .i64 j)) (some (.int .i64 j))).run Try.prog W = .ok (.slice A j j) W := by
  obtain ⟨i, hi, _, hs, _⟩ := info_parts infoPl
  have hel : Try.prog.elem 106 = 110 := by simp [Program.elem, Try.underlying106]
  have hu : Try.prog.underlying 106 = some (.slice (Try.prog.elem 106)) := by rw [hel]; exact Try.underlying106
  have ha : (A.map fun x => x.add 0) = A := by cases A <;> simp [Addr.add]
  rw [run_slice_hm W 106 A n c hu .i64 .i64 j j (by omega) (by omega) (by omega), hel]
  simp [sizeOf, typeInfo, hi, sliced, Result.andThen, ha]
theorem acut_nil (n : Int) (W : World) : Calls Try.prog 28 #[.pointer none, .int .i64 n] W (CutP 0 [] W) := by
  have HC := Lib.hid (anew_any 0 W)
  unfold CutP
  go_enter Try.func28, Try.ntmps28
  go_wp2_with fail
  refine HC.out.mono ?_
  rintro e w' ⟨q, rfl, hm, hb⟩
  have HM := Lib.hid hm
  have HB := Lib.hid hb
  clear hm hb
  go_wp2_with fail
  go_ret
  exact ⟨_, rfl, HM.out, HB.out⟩
theorem acut_any (W : World) (p : Nat) (L n : Int) (P : List Pl) (h : MemP W p L P) (hp : P.length ≤ 1000000) : Calls Try.prog 28 #[.pointer (some ⟨p, 0, none⟩), .int .i64 n] W (CutP L (P.take (min (max n 0) P.length).toNat) W) := by
  obtain ⟨A, cap, h0, h1, hC, hc⟩ := h.at_
  obtain ⟨Q, hQ⟩ : ∃ Q, P.take (min (max n 0) P.length).toNat = Q := ⟨_, rfl⟩
  obtain ⟨k, hk⟩ : ∃ k : Nat, min (max n 0) (P.length : Int) = k := ⟨(min (max n 0) (P.length : Int)).toNat, by omega⟩
  have hkn : k ≤ P.length := by omega
  have hQl : Q.length = k := by rw [← hQ, hk, List.length_take]; omega
  have hQC : KPl.C W A k Q := by
    have h1 := Kd.C_take hC hkn
    have h2 : (P.take k).length = k := by rw [List.length_take]; omega
    rw [h2] at h1
    rw [← hQ, hk, Int.toNat_natCast]; exact h1
  rw [hQ]
  have hm : MemP (W.alloc (.cells #[.int .i64 L, .slice A k k] 108)) W.heap.size L Q := by
    refine ⟨A, k, ?_, ?_, ?_⟩
    · rw [hQl]; exact heap_alloc_new W _
    · rw [hQl]; exact Kd.C_below hQC (below_alloc (Below.refl _ W) _)
    · omega
  have hcut := cutPl A P.length cap k (by omega)
  have hb : Below W.heap.size W (W.alloc (.cells #[.int .i64 L, .slice A k k] 108)) := below_alloc (Below.refl _ W) _
  obtain ⟨m, hmm⟩ : ∃ m, P.length = m := ⟨_, rfl⟩
  rw [hmm] at h1 hk hkn hp hc hcut
  have HM := Lib.hid hm
  have HB := Lib.hid hb
  have hk' : min (max n 0) (m : Int) = k := hk
  unfold CutP
  clear hm hb h hC hQ hQl hQC hmm
  go_enter Try.func28, Try.ntmps28
  go_wp2_with fail
  go_region
  go_wp2_with fail
  go_ret
  exact ⟨_, rfl, HM.out.below (below_drew (Below.refl _ _)), below_drew HB.out⟩

end Go.Proofs.Ytdfgmdmcdnnhfaa
