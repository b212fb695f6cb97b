/- The contract of slices.Delete at [][]byte, one element. -/
import Derived.Test.YtcelhendfjiicaaProg
import Derived.Test.YtcelhendfjiicaaWMore
import Derived.WalkKit
import Derived.KernelRfl
import Derived.Tactics
import Derived.OwnWalk
import Derived.BigQuiet
import Derived.Deep.QuietTactic
import Derived.Deep.RegionLaw
import Derived.Lib.Hide
import Derived.Lib.SliceRun
import Derived.Outline
import Derived.Shelf.Abstract
import Derived.WalkSpells
namespace Go.Proofs.Ytcelhendfjiicaa
open Go.RowKit Go.Shelf Go.Proofs.YtcelhendfjiicaaW.PrintWords Go.Proofs.YtcelhendfjiicaaW.PrintLast Go.Proofs.YtcelhendfjiicaaW.PrintMore
set_option linter.unusedVariables false
set_option linter.unusedSimpArgs false
set_option maxRecDepth 100000

theorem infoBytes : (Try.prog.info? 28).map (fun i => (i.zero, i.size, i.bytes)) = some (some (.slice none 0 0), 1, 24) := by kernel_rfl
theorem zeroBytes (w : World) : (zeroValue 28).run Try.prog w = .ok (.slice none 0 0) w := by
  obtain ⟨i0, hi0, hz0, -, -⟩ := info_parts infoBytes
  simp [zeroValue, typeInfo, hi0, hz0]

set_option maxRecDepth 100000 in
set_option maxHeartbeats 1000000 in
/-- slices.Delete(s, i, j), s a row of one's own. -/
theorem delete_any {base g n cap : Nat} {inner : List Value} {W : World} (h : W.ownsRow base 28 1 (.slice (some ⟨g, 0, none⟩) n cap) n inner) (h1c : ∀ u ∈ inner, u.oneCell' = true) (i j : Nat) (hij : i < j) (hj : j ≤ n) :
    Calls Try.prog 60 #[.slice (some ⟨g, 0, none⟩) n cap, .int .i64 i, .int .i64 j] W fun e w' => e = .returned (.slice (some ⟨g, 0, none⟩) (i + (n - j)) cap) ∧ w'.ownsRow base 28 1 (.slice (some ⟨g, 0, none⟩) (i + (n - j)) cap) (i + (n - j)) (inner.take i ++ inner.drop j) ∧ W.grownBy w' (some g) := by
  obtain ⟨i0, hi0, hz0, hz1, hz2⟩ := info_parts infoBytes
  obtain ⟨hlen, ⟨he, -⟩ | ⟨g', cap', cur, he, hbg, hh, hnc, hcm, hcs, htk⟩⟩ := h
  · simp at he
  · obtain ⟨rfl, rfl⟩ : g = g' ∧ cap = cap' := by simpa using he
    rw [Nat.mul_one] at hlen hcs htk
    have hin : ∀ t, t < n → inner[t]? = cur[t]? := fun t ht => by rw [← htk, List.getElem?_take, if_pos ht, Array.getElem?_toList]
    have hhd : W.drew.heap[g]? = some (.cells cur 28 (0, 0)) := hh
    obtain ⟨news, hnews⟩ : ∃ news, inner.drop j = news := ⟨_, rfl⟩
    have hnl : news.length = n - j := by rw [← hnews, List.length_drop, hlen]
    obtain ⟨A, hA, hsrc⟩ : ∃ A : Addr, (if cap = j then some (⟨g, 0, none⟩ : Addr) else some ⟨g, j, none⟩) = some A ∧ ∀ t u, news[t]? = some u → W.drew.cell? (A.add t) = some u := by
      by_cases hc : cap = j
      · refine ⟨⟨g, 0, none⟩, by simp [hc], fun t u hu => ?_⟩
        have h0 : news.length = 0 := by rw [hnl]; omega
        rw [List.length_eq_zero_iff.1 h0] at hu
        simp at hu
      · refine ⟨⟨g, j, none⟩, by simp [hc], fun t u hu => ?_⟩
        have ht : t < n - j := by rw [← hnl]; exact (List.getElem?_eq_some_iff.1 hu).1
        rw [← hnews, List.getElem?_drop, hin _ (by omega)] at hu
        rw [add_at, blk_cell hhd, ← hu]
    have s1 := Lib.hid (show news.length = (n - j) * 1 by rw [Nat.mul_one]; exact hnl)
    have s2 := Lib.hid (show ∀ u ∈ news, u.oneCell' = true from fun u hu => h1c u (by rw [← hnews] at hu; exact List.mem_of_mem_drop hu))
    have s3 := Lib.hid (show ∀ t, t < news.length → (W.drew.cell? ⟨g, 0 + i * 1 + t, none⟩).isSome = true ∧ W.drew.frozen? ⟨g, 0 + i * 1 + t, none⟩ = false from fun t ht => by
      rw [blk_cell hhd, blk_frozen hhd]
      refine ⟨?_, rfl⟩
      rw [Array.getElem?_eq_getElem (by omega)]; rfl)
    have HSRC := Lib.hid hsrc
    obtain ⟨cur1, r1, r2, r3⟩ := setCells_row news (0 + i * 1) W.drew cur hhd (by omega)
    obtain ⟨W1, hW1⟩ : ∃ W1, W.drew.setCells g (0 + i * 1) news = W1 := ⟨_, rfl⟩
    rw [hW1] at r1
    obtain ⟨k, hk⟩ : ∃ k, n - (i + (n - j)) = k := ⟨_, rfl⟩
    have hcl : ∀ ty, (Builtin.clear_ #[22] ty #[.slice (some ⟨g, i + (n - j), none⟩) (n - (i + (n - j))) (cap - (i + (n - j)))]).run Try.prog W1 = .ok (.tuple #[]) (W1.setCells g (i + (n - j)) (List.replicate (n - (i + (n - j))) (.slice none 0 0))) :=
      fun ty => Lib.run_clear_slice W1 _ _ ty _ Try.underlying22 zeroBytes rfl rfl g (i + (n - j)) _ _ (by omega) (fun t ht => by rw [blk_cell r1, Array.getElem?_eq_getElem (by omega)]; rfl) (fun t ht => blk_frozen r1 _)
    obtain ⟨cur2, q1, q2, q3⟩ := setCells_row (List.replicate (n - (i + (n - j))) (Value.slice none 0 0)) (i + (n - j)) W1 cur1 r1 (by simp; omega)
    have hic : i ≤ cap := by omega
    have hjc : j ≤ cap := by omega
    have HW := Lib.hid hW1
    have HQ := Lib.hid (And.intro q1 (And.intro q2 q3))
    have HR := Lib.hid (And.intro r2 r3)
    have HLEN := Lib.hid hlen
    have HN := Lib.hid hnews
    have HNL := Lib.hid hnl
    have HCS := Lib.hid hcs
    have HTK := Lib.hid htk
    clear hW1 q1 q2 q3 r1 r2 r3 hk hsrc hnews hnl hlen hin hhd hh he htk hcs h1c
    go_enter Try.func60, Try.ntmps60
    go_wp2_with fail
    go_region_law (refine step_append_room rfl (.tmp 22) (.tmp 25) 22 rfl 28 i0 1 Try.underlying22 hi0 hz1 g 0 i cap (by simp [Act.eval, Act.put]) A (n - j) (cap - j) news (by simp [Act.eval, Act.put]) s1.out HSRC.out s2.out (by omega) s3.out ?_; rw [HW.out])
    go_wp2_with fail
    go_ret
    obtain ⟨q1, q2, q3⟩ := HQ.out
    obtain ⟨r2, r3⟩ := HR.out
    refine ⟨rfl, ⟨?_, .inr ⟨g, cap, cur2, rfl, hbg, q1, by omega, hcm, by rw [q2, r2, HCS.out, Nat.mul_one], ?_⟩⟩, ?_⟩
    · rw [List.length_append, List.length_take, List.length_drop, HLEN.out]; omega
    · have hcl1 : cur1.toList.length = cap := by rw [Array.length_toList, r2, HCS.out]
      have hcl0 : cur.toList.length = cap := by rw [Array.length_toList, HCS.out]
      have h5 : (cur.toList.take i ++ news).length = i + (n - j) := by rw [List.length_append, List.length_take, HNL.out]; omega
      rw [Nat.mul_one, q3, List.append_assoc, List.take_append_of_le_length (by rw [List.length_take]; omega), List.take_take, Nat.min_self, r3, Nat.zero_add, Nat.mul_one]
      rw [← h5, List.take_left, ← HTK.out, List.take_take, Nat.min_eq_left (by omega), HTK.out, HN.out]
    · obtain ⟨a1, a2, a3, a4⟩ := setCells_same g (List.replicate (n - (i + (n - j))) (Value.slice none 0 0)) (i + (n - j)) W1
      obtain ⟨b1, b2, b3, b4⟩ := setCells_same g news (0 + i * 1) W.drew
      rw [HW.out] at b1 b2 b3 b4
      refine ⟨a1.trans b1, a2.trans b2, a3.trans b3, by rw [a4, b4]; exact Nat.le_refl _, fun k hk hne => ?_⟩
      have hkg : k ≠ g := fun e => hne (by rw [e])
      rw [setCells_far _ _ k hkg, ← HW.out, setCells_far _ _ k hkg]
      rfl

end Go.Proofs.Ytcelhendfjiicaa
