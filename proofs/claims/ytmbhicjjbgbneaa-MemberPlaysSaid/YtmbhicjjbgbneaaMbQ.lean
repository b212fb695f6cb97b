/- The document's member list: Lost, Drain. -/
import Derived.Test.YtmbhicjjbgbneaaMbP
namespace Go.Proofs.Ytmbhicjjbgbneaa
open Go.RowKit Go.Shelf Go.Proofs.YtmbhicjjbgbneaaW.PrintWords Go.Proofs.YtmbhicjjbgbneaaW.PrintLast Go.Proofs.YtmbhicjjbgbneaaW.PrintMore
set_option linter.unusedVariables false
set_option linter.unusedSimpArgs false
set_option maxRecDepth 100000
section
variable {W W' : World} {G : Nat → Prop} {q : Nat} {T last : Int} {V : List Rp}
/-- What is found at a place. -/
theorem plc_some {V : List Rp} (hn : (mkeys V).Nodup) {i : Nat} {x : Rp} {id : Int} (hx : V[i]? = some x) (he : x.1 = id) : mlook V id = some x.2 ∧ (∀ r, mput V id r = V.set i (x.1, r)) ∧ mdel V id = V.eraseIdx i := by
  subst he
  exact look_ix hn hx
set_option maxHeartbeats 1000000 in
theorem rllost (hr : RL W G q T last V) (hn : (mkeys V).Nodup) (h8 : V.length ≤ 1000) (t id : Int) : Calls Try.prog 40 #[.pointer (some ⟨q, 0, none⟩), .int .i64 t, .int .u64 id] W fun e w' => e = .returned (.int .i64 (pLeave 4 (lat T t) id V).1) ∧ RL w' G q (lat T t) last (pLeave 4 (lat T t) id V).2 ∧ Tn G W w' := by
  have HLT := Lib.hid (rllater hr t)
  have HN := Lib.hid hn
  have H8 := Lib.hid h8
  obtain ⟨tn, htn⟩ : ∃ x, lat T t = x := ⟨_, rfl⟩
  rw [htn] at HLT ⊢
  obtain ⟨R, hR⟩ : ∃ R, pLeave 4 tn id V = R := ⟨_, rfl⟩
  rw [hR]
  have HRE := Lib.hid hR
  clear hr hn h8 htn hR
  go_enter Try.func40, Try.ntmps40
  go_wp2_with fail
  refine HLT.out.mono ?_
  rintro e w1 ⟨rfl, hR1, hT1⟩
  have HR1 := Lib.hid hR1
  have HT1 := Lib.hid hT1
  have HP := Lib.hid (rlplace hR1 id H8.out)
  clear hR1 hT1
  go_wp2_with fail
  refine HP.out.mono ?_
  rintro e w' ⟨hp, rfl⟩
  rcases hp with ⟨i, x, hx, hxn, rfl⟩ | ⟨hno, rfl⟩
  · obtain ⟨l1, l2, -⟩ := plc_some HN.out hx hxn
    have hi : i < V.length := (List.getElem?_eq_some_iff.1 hx).1
    obtain ⟨A, c, h⟩ := HR1.out
    obtain ⟨⟨k0, k1, k2⟩, -⟩ := h.at_
    obtain ⟨g, rfl, hg, hgq, ⟨c0, c1, c2, c3, c4⟩, -⟩ := h.el i hi x hx
    have HE := Lib.hid (rlenter HR1.out i x hx 4)
    have hre := HRE.out
    unfold pLeave at hre
    rw [l1] at hre
    obtain ⟨id', s, r⟩ := x
    dsimp only at hre c1 hxn
    obtain ⟨m, hm⟩ : ∃ m, V.length = m := ⟨_, rfl⟩
    rw [hm] at k2 hi
    clear h hm hg hgq c0 c2 c3 c4 hx
    by_cases hs : s = 3
    · subst hs
      rw [if_pos rfl] at hre
      subst hre
      clear HE l1 l2 hxn
      go_wp2_with fail
      go_ret
      exact ⟨rfl, HR1.out, HT1.out⟩
    · rw [if_neg hs] at hre
      rw [l2] at hre
      subst hre
      have hd : (s == 3) = false := by simpa using hs
      clear hs l1 l2 hxn
      go_wp2_with fail
      refine HE.out.mono ?_
      rintro e w2 ⟨rfl, hR2, hT2⟩
      have HR2 := Lib.hid hR2
      have HT2 := Lib.hid (HT1.out.trans hT2 (fun k hk => .inl hk))
      clear hR2 hT2
      go_wp2_with fail
      go_ret
      exact ⟨rfl, HR2.out, HT2.out⟩
  · have hl := look_no hno
    have hre := HRE.out
    unfold pLeave at hre
    rw [hl] at hre
    dsimp only at hre
    subst hre
    clear hno hl
    go_wp2_with fail
    go_ret
    exact ⟨rfl, HR1.out, HT1.out⟩
set_option maxHeartbeats 1000000 in
theorem rldrain (hr : RL W G q T last V) (hn : (mkeys V).Nodup) (h8 : V.length ≤ 1000) (t id : Int) : Calls Try.prog 41 #[.pointer (some ⟨q, 0, none⟩), .int .i64 t, .int .u64 id] W fun e w' => e = .returned (.int .i64 (pLeave 3 (lat T t) id V).1) ∧ RL w' G q (lat T t) last (pLeave 3 (lat T t) id V).2 ∧ Tn G W w' := by
  have HLT := Lib.hid (rllater hr t)
  have HN := Lib.hid hn
  have H8 := Lib.hid h8
  obtain ⟨tn, htn⟩ : ∃ x, lat T t = x := ⟨_, rfl⟩
  rw [htn] at HLT ⊢
  obtain ⟨R, hR⟩ : ∃ R, pLeave 3 tn id V = R := ⟨_, rfl⟩
  rw [hR]
  have HRE := Lib.hid hR
  clear hr hn h8 htn hR
  go_enter Try.func41, Try.ntmps41
  go_wp2_with fail
  refine HLT.out.mono ?_
  rintro e w1 ⟨rfl, hR1, hT1⟩
  have HR1 := Lib.hid hR1
  have HT1 := Lib.hid hT1
  have HP := Lib.hid (rlplace hR1 id H8.out)
  clear hR1 hT1
  go_wp2_with fail
  refine HP.out.mono ?_
  rintro e w' ⟨hp, rfl⟩
  rcases hp with ⟨i, x, hx, hxn, rfl⟩ | ⟨hno, rfl⟩
  · obtain ⟨l1, l2, -⟩ := plc_some HN.out hx hxn
    have hi : i < V.length := (List.getElem?_eq_some_iff.1 hx).1
    obtain ⟨A, c, h⟩ := HR1.out
    obtain ⟨⟨k0, k1, k2⟩, -⟩ := h.at_
    obtain ⟨g, rfl, hg, hgq, ⟨c0, c1, c2, c3, c4⟩, -⟩ := h.el i hi x hx
    have HE := Lib.hid (rlenter HR1.out i x hx 3)
    have hre := HRE.out
    unfold pLeave at hre
    rw [l1] at hre
    obtain ⟨id', s, r⟩ := x
    dsimp only at hre c1 hxn
    obtain ⟨m, hm⟩ : ∃ m, V.length = m := ⟨_, rfl⟩
    rw [hm] at k2 hi
    clear h hm hg hgq c0 c2 c3 c4 hx
    by_cases hs : s = 3
    · subst hs
      rw [if_pos rfl] at hre
      subst hre
      clear HE l1 l2 hxn
      go_wp2_with fail
      go_ret
      exact ⟨rfl, HR1.out, HT1.out⟩
    · rw [if_neg hs] at hre
      rw [l2] at hre
      subst hre
      have hd : (s == 3) = false := by simpa using hs
      clear hs l1 l2 hxn
      go_wp2_with fail
      refine HE.out.mono ?_
      rintro e w2 ⟨rfl, hR2, hT2⟩
      have HR2 := Lib.hid hR2
      have HT2 := Lib.hid (HT1.out.trans hT2 (fun k hk => .inl hk))
      clear hR2 hT2
      go_wp2_with fail
      go_ret
      exact ⟨rfl, HR2.out, HT2.out⟩
  · have hl := look_no hno
    have hre := HRE.out
    unfold pLeave at hre
    rw [hl] at hre
    dsimp only at hre
    subst hre
    clear hno hl
    go_wp2_with fail
    go_ret
    exact ⟨rfl, HR1.out, HT1.out⟩
end
end Go.Proofs.Ytmbhicjjbgbneaa
