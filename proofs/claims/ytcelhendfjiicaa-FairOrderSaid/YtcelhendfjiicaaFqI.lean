/- slices.Index and slices.Delete at []uint64. -/
import Derived.Test.YtcelhendfjiicaaFqO
import Derived.Test.YtcelhendfjiicaaLkD
namespace Go.Proofs.Ytcelhendfjiicaa
open Go.RowKit Go.Shelf Go.Proofs.YtcelhendfjiicaaW.PrintWords Go.Proofs.YtcelhendfjiicaaW.PrintLast Go.Proofs.YtcelhendfjiicaaW.PrintMore
set_option linter.unusedVariables false
set_option linter.unusedSimpArgs false
set_option maxRecDepth 100000
theorem zeroU64 (w : World) : (zeroValue 40).run Try.prog w = .ok (.int .u64 0) w := by
  obtain ⟨i0, hi0, hz0, -, -⟩ := info_parts infU64
  simp [zeroValue, typeInfo, hi0, hz0]
theorem uindex_any (W : World) (A : Option Addr) (c : Nat) (xs : List Int) (n : Nat) (hn : xs.length = n) (hx : KU.C W A n xs) (hc : n ≤ c) (hn9 : n ≤ 1000000) (v : Int) (i : Nat) (hi : i < n) (hv : xs.getD i 0 = v) (hb : ∀ j, j < i → xs.getD j 0 ≠ v) :
    Calls Try.prog 58 #[.slice A n c, .int .u64 v] W fun e w' => e = .returned (.int .i64 i) ∧ W = w' := by
  have HX := Lib.hid (show KU.C W A xs.length xs by rw [hn]; exact hx)
  have HB := Lib.hid hb
  have HV := Lib.hid hv
  have HN := Lib.hid hn
  obtain ⟨ad, had, -⟩ := u64_at HX.out i (by rw [hn]; exact hi)
  subst had
  clear hx hb hv hn
  go_enter Try.func58, Try.ntmps58
  go_wp2_with fail
  go_loopg [8] (i + 1) (fun k v8 wr => ∃ j : Nat, j + k = i + 1 ∧ v8 = .int .i64 j ∧ j ≤ i ∧ wr = W)
  case atStart => exact ⟨0, by omega, rfl, by omega, rfl⟩
  case round =>
    obtain ⟨j, hjk, rfl, hji, rfl⟩ := hrel
    have hjn : j < n := by omega
    obtain ⟨ad', e1, hcell⟩ := u64_at HX.out j (by rw [HN.out]; exact hjn)
    injection e1 with e1
    subst e1
    by_cases hlt : j < i
    · obtain ⟨u, hu⟩ : ∃ u, xs.getD j 0 = u := ⟨_, rfl⟩
      have hne : (v == u) = false := by have := HB.out j hlt; rw [hu] at this; simp; exact fun e => this e.symm
      rw [hu] at hcell
      clear hu
      go_wp2_with fail
      go_roundg (i + 1 - (j + 1))
      case measure => omega
      case rel => exact ⟨j + 1, by omega, by go_num, by omega, rfl⟩
    · obtain rfl : j = i := by omega
      rw [HV.out] at hcell
      go_wp2_with fail
      go_ret
      exact ⟨rfl, rfl⟩
set_option maxHeartbeats 1000000 in
/-- slices.Delete(s, i, i+1), s a row of one's own that may begin inside its block. -/
theorem udelete_any {base g o n cap : Nat} {F : Nat → Prop} {xs : List Int} {W : World} (h : KU.Q 40 W base F (.slice (some ⟨g, o, none⟩) n cap) xs) (i j : Nat) (hij : i < j) (hj : j ≤ n) :
    Calls Try.prog 59 #[.slice (some ⟨g, o, none⟩) n cap, .int .i64 i, .int .i64 j] W fun e w' => e = .returned (.slice (some ⟨g, o, none⟩) (i + (n - j)) cap) ∧ KU.Q 40 w' base F (.slice (some ⟨g, o, none⟩) (i + (n - j)) cap) (xs.take i ++ xs.drop j) ∧ W.grownBy w' (some g) := by
  obtain ⟨i0, hi0, hz0, hz1, hz2⟩ := info_parts infU64
  have hxn : n = xs.length := (Kd.Q_reads' h).1
  obtain ⟨hF, inner, ⟨hlen, hq⟩, hr⟩ := h
  rcases hq with ⟨h0, -⟩ | ⟨g', off, cap', cur, he, hbg, hh, hnc, hcm, hcs, htk⟩
  · omega
  · rw [show KU.sz = 1 from rfl] at hlen hcs htk he
    rw [Nat.mul_one] at hlen hcs he
    rw [Nat.mul_one, Nat.mul_one] at htk
    obtain ⟨rfl, rfl, rfl⟩ : g = g' ∧ o = off ∧ cap = cap' := by
      injection he with e1 e2 e3
      injection e1 with e1
      injection e1 with e4 e5
      exact ⟨e4, e5, e3⟩
    rw [← hxn] at hlen htk hnc
    have hin : ∀ t, t < n → inner[t]? = cur[o + t]? := fun t ht => by rw [← htk, List.getElem?_take, if_pos ht, List.getElem?_drop, Array.getElem?_toList]
    have hhd : W.drew.heap[g]? = some (.cells cur 40 (0, 0)) := hh
    obtain ⟨news, hnews⟩ : ∃ news, inner.drop j = news := ⟨_, rfl⟩
    have hnl : news.length = n - j := by rw [← hnews, List.length_drop, hlen]
    obtain ⟨A, hA, hsrc⟩ : ∃ A : Addr, (if cap = j then some (⟨g, o, none⟩ : Addr) else some ⟨g, o + j, none⟩) = some A ∧ ∀ t u, news[t]? = some u → W.drew.cell? (A.add t) = some u := by
      by_cases hc : cap = j
      · refine ⟨⟨g, o, none⟩, by simp [hc], fun t u hu => ?_⟩
        have h0 : news.length = 0 := by rw [hnl]; omega
        rw [List.length_eq_zero_iff.1 h0] at hu
        simp at hu
      · refine ⟨⟨g, o + j, none⟩, by simp [hc], fun t u hu => ?_⟩
        have ht : t < n - j := by rw [← hnl]; exact (List.getElem?_eq_some_iff.1 hu).1
        rw [← hnews, List.getElem?_drop, hin _ (by omega)] at hu
        rw [add_at, blk_cell hhd, ← hu, Nat.add_assoc]
    have hone : ∀ u ∈ inner, u.oneCell' = true := fun u hu => by
      obtain ⟨t, ht, rfl⟩ := List.getElem_of_mem hu
      have h1 := hr.2 t _ (List.getElem?_eq_getElem (by omega : t < xs.length))
      have h2 := KU.K_one (KU.K_of_M h1)
      rw [show KU.sz = 1 from rfl, Nat.mul_one] at h2
      exact h2 _ (by have h3 := List.drop_eq_getElem_cons ht; rw [h3]; exact List.mem_cons_self)
    have s1 := Lib.hid (show news.length = (n - j) * 1 by rw [Nat.mul_one]; exact hnl)
    have s2 := Lib.hid (show ∀ u ∈ news, u.oneCell' = true from fun u hu => hone u (by rw [← hnews] at hu; exact List.mem_of_mem_drop hu))
    have s3 := Lib.hid (show ∀ t, t < news.length → (W.drew.cell? ⟨g, o + i * 1 + t, none⟩).isSome = true ∧ W.drew.frozen? ⟨g, o + i * 1 + t, none⟩ = false from fun t ht => by
      rw [blk_cell hhd, blk_frozen hhd]
      refine ⟨?_, rfl⟩
      rw [Array.getElem?_eq_getElem (by omega)]; rfl)
    have HSRC := Lib.hid hsrc
    obtain ⟨cur1, r1, r2, r3⟩ := setCells_row news (o + i * 1) W.drew cur hhd (by omega)
    obtain ⟨W1, hW1⟩ : ∃ W1, W.drew.setCells g (o + i * 1) news = W1 := ⟨_, rfl⟩
    rw [hW1] at r1
    have hcl : ∀ ty, (Builtin.clear_ #[63] ty #[.slice (some ⟨g, o + (i + (n - j)), none⟩) (n - (i + (n - j))) (cap - (i + (n - j)))]).run Try.prog W1 = .ok (.tuple #[]) (W1.setCells g (o + (i + (n - j))) (List.replicate (n - (i + (n - j))) (.int .u64 0))) :=
      fun ty => Lib.run_clear_slice W1 _ _ ty _ Try.underlying63 zeroU64 rfl rfl g (o + (i + (n - j))) _ _ (by omega) (fun t ht => by rw [blk_cell r1, Array.getElem?_eq_getElem (by omega)]; rfl) (fun t ht => blk_frozen r1 _)
    obtain ⟨cur2, q1, q2, q3⟩ := setCells_row (List.replicate (n - (i + (n - j))) (Value.int .u64 0)) (o + (i + (n - j))) W1 cur1 r1 (by simp; omega)
    have hic : i ≤ cap := by omega
    have hjc : j ≤ cap := by omega
    have HW := Lib.hid hW1
    have HQ := Lib.hid (And.intro q1 (And.intro q2 q3))
    have HR := Lib.hid (And.intro r2 r3)
    have HLEN := Lib.hid hlen
    have HN := Lib.hid hnews
    have HNL := Lib.hid hnl
    have HCS := Lib.hid hcs
    have HTK := Lib.hid htk
    have HRE := Lib.hid hr
    have HFF := Lib.hid hF
    have HXN := Lib.hid hxn
    clear hW1 q1 q2 q3 r1 r2 r3 hsrc hnews hnl hlen hin hhd hh he htk hcs hone hr hF hxn
    go_enter Try.func59, Try.ntmps59
    go_wp2_with fail
    go_region_law (refine step_append_room rfl (.tmp 22) (.tmp 25) 63 rfl 40 i0 1 Try.underlying63 hi0 hz1 g o i cap (by simp [Act.eval, Act.put]) A (n - j) (cap - j) news (by simp [Act.eval, Act.put]) s1.out HSRC.out s2.out (by omega) s3.out ?_; rw [HW.out])
    go_wp2_with fail
    go_ret
    obtain ⟨q1, q2, q3⟩ := HQ.out
    obtain ⟨r2, r3⟩ := HR.out
    have hnl := HNL.out
    have hlen := HLEN.out
    have hcs := HCS.out
    have htk := HTK.out
    have hxn := HXN.out
    refine ⟨rfl, ⟨HFF.out, inner.take i ++ inner.drop j, ⟨?_, .inr ⟨g, o, cap, cur2, ?_, hbg, q1, ?_, hcm, ?_, ?_⟩⟩, ?_⟩, ?_⟩
    · rw [List.length_append, List.length_append, List.length_take, List.length_drop, List.length_take, List.length_drop, hlen, ← hxn, show KU.sz = 1 from rfl, Nat.mul_one]
    · rw [show KU.sz = 1 from rfl, Nat.mul_one, List.length_append, List.length_take, List.length_drop, ← hxn, Nat.min_eq_left (by omega)]
    · rw [List.length_append, List.length_take, List.length_drop, ← hxn]; omega
    · rw [q2, r2, show KU.sz = 1 from rfl, Nat.mul_one]; exact hcs
    · rw [show KU.sz = 1 from rfl, Nat.mul_one, Nat.mul_one, List.length_append, List.length_take, List.length_drop, ← hxn, Nat.min_eq_left (by omega), q3, r3, HN.out]
      have hcl0 : cur.toList.length = o + cap := by rw [Array.length_toList, hcs]
      rw [Nat.mul_one, hnl]
      have e1 : (cur.toList.take (o + i) ++ news ++ cur.toList.drop (o + i + (n - j))).take (o + (i + (n - j))) = cur.toList.take (o + i) ++ news := by
        rw [List.take_append_of_le_length (by rw [List.length_append, List.length_take, hnl]; omega), List.take_of_length_le (by rw [List.length_append, List.length_take, hnl]; omega)]
      rw [e1, List.append_assoc, List.append_assoc, List.drop_append_of_le_length (by rw [List.length_take]; omega)]
      have e2 : (cur.toList.take (o + i)).drop o = inner.take i := by
        rw [← htk, List.take_take, Nat.min_eq_left (by omega), List.drop_take]
        rw [show o + i - o = i by omega]
      rw [e2, ← List.append_assoc, List.take_append_of_le_length (by rw [List.length_append, List.length_take, hlen, hnl]; omega), List.take_of_length_le (by rw [List.length_append, List.length_take, hlen, hnl]; omega)]
    · have h1 := Kd.reps_take (m := i) HRE.out (by omega)
      have h2 := Kd.reps_drop (m := j) HRE.out
      rw [show KU.sz = 1 from rfl, Nat.mul_one] at h1 h2
      exact (Reps.imp_ (Kd.reps_append h1 h2) (fun _ _ hp => hp))
    · obtain ⟨a1, a2, a3, a4⟩ := setCells_same g (List.replicate (n - (i + (n - j))) (Value.int .u64 0)) (o + (i + (n - j))) W1
      obtain ⟨b1, b2, b3, b4⟩ := setCells_same g news (o + i * 1) W.drew
      rw [HW.out] at b1 b2 b3 b4
      refine ⟨a1.trans b1, a2.trans b2, a3.trans b3, by rw [a4, b4]; exact Nat.le_refl _, fun k hk hne => ?_⟩
      have hkg : k ≠ g := fun e => hne (by rw [e])
      rw [setCells_far _ _ k hkg, ← HW.out, setCells_far _ _ k hkg]
      rfl
end Go.Proofs.Ytcelhendfjiicaa
