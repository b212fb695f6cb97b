/- The document's member list: Remove. -/
import Derived.Test.YtmbhicjjbgbneaaMbT
namespace Go.Proofs.Ytmbhicjjbgbneaa
open Go.RowKit Go.Shelf Go.Proofs.YtmbhicjjbgbneaaW.PrintWords Go.Proofs.YtmbhicjjbgbneaaW.PrintLast Go.Proofs.YtmbhicjjbgbneaaW.PrintMore
set_option linter.unusedVariables false
set_option linter.unusedSimpArgs false
set_option maxRecDepth 100000
section
variable {W W' : World} {G : Nat → Prop} {q : Nat} {T last : Int} {V : List Rp} {A : Option Addr} {c : Nat}
theorem rlremove_miss (hr : RL W G q T last V) (h8 : V.length ≤ 1000) (t id wt : Int) (hl : mlook V id = none) : Calls Try.prog 42 #[.pointer (some ⟨q, 0, none⟩), .int .i64 t, .int .u64 id, .int .i64 wt] W fun e w' => e = .returned (.int .i64 6) ∧ RL w' G q (lat T t) last V ∧ Tn G W w' := by
  have HLT := Lib.hid (rllater hr t)
  have H8 := Lib.hid h8
  have HNO := Lib.hid hl
  obtain ⟨tn, htn⟩ : ∃ x, lat T t = x := ⟨_, rfl⟩
  rw [htn] at HLT ⊢
  clear hr h8 htn hl
  go_enter Try.func42, Try.ntmps42
  go_wp2_with fail
  refine HLT.out.mono ?_
  rintro e w1 ⟨rfl, hR1, hT1⟩
  have HR1 := Lib.hid hR1
  have HT1 := Lib.hid hT1
  have HP := Lib.hid (rlplace hR1 id H8.out)
  clear hR1 hT1
  go_wp2_with fail
  refine HP.out.mono ?_
  rintro e w' ⟨hp, rfl⟩
  rcases hp with ⟨i, x, hx, hxn, rfl⟩ | ⟨hno, rfl⟩
  · exfalso
    have h9 := mlook_none.1 HNO.out
    exact h9 (List.mem_map.2 ⟨x, List.mem_of_getElem? hx, hxn⟩)
  · clear hno
    go_wp2_with fail
    go_ret
    exact ⟨rfl, HR1.out, HT1.out⟩
/-- What lies ahead of Remove's test. -/
theorem rem_at (h : RLx W G q T last V A c) (i : Nat) (x : Rp) (hx : V[i]? = some x) (W2 : World) (hb : Below W.heap.size W W2) (hbx : W2.heap[W.heap.size]? = some (.cells (rpL x).toArray 124 (0, 0))) (u : Nat) :
    ((W2.drewN u).cell? ⟨q, 0, none⟩ = some (.int .i64 T) ∧ (W2.drewN u).cell? ⟨W.heap.size, 1, none⟩ = some (.int .i64 x.2.1) ∧ (W2.drewN u).cell? ⟨W.heap.size, 3, none⟩ = some (.int .i64 x.2.2.2.1) ∧ (W2.drewN u).cell? ⟨W.heap.size, 4, none⟩ = some (.int .i64 x.2.2.2.2)) :=
  ⟨(h.below hb).at_.1.1, blk_cell hbx 1, blk_cell hbx 3, blk_cell hbx 4⟩
set_option maxHeartbeats 4000000 in
theorem rlremove_state (hr : RL W G q T last V) (hn : (mkeys V).Nodup) (h8 : V.length ≤ 1000) (t id wt : Int) (r : R4) (hl : mlook V id = some r) (hs : ¬ RemB (lat T t) wt r) (hrr : 0 ≤ r.2.2.2 ∧ r.2.2.2 ≤ lat T t ∧ lat T t ≤ 1099511627776) : Calls Try.prog 42 #[.pointer (some ⟨q, 0, none⟩), .int .i64 t, .int .u64 id, .int .i64 wt] W fun e w' => e = .returned (.int .i64 10) ∧ RL w' G q (lat T t) last V ∧ Tn G W w' := by
  have HLT := Lib.hid (rllater hr t)
  have H8 := Lib.hid h8
  have HL := Lib.hid hl
  have HN := Lib.hid hn
  obtain ⟨tn, htn⟩ : ∃ x, lat T t = x := ⟨_, rfl⟩
  rw [htn] at HLT hs hrr ⊢
  clear hr h8 htn hl hn
  go_enter Try.func42, Try.ntmps42
  go_wp2_with fail
  refine HLT.out.mono ?_
  rintro e w1 ⟨rfl, hR1, hT1⟩
  have HR1 := Lib.hid hR1
  have HT1 := Lib.hid hT1
  have HP := Lib.hid (rlplace hR1 id H8.out)
  clear hR1 hT1
  go_wp2_with fail
  refine HP.out.mono ?_
  rintro e w' ⟨hp, rfl⟩
  rcases hp with ⟨i, x, hx, hxn, rfl⟩ | ⟨hno, rfl⟩
  · obtain ⟨l1, -, -⟩ := plc_some HN.out hx hxn
    rw [HL.out] at l1
    injection l1 with l1
    subst l1
    have hi : i < V.length := (List.getElem?_eq_some_iff.1 hx).1
    obtain ⟨A, c, h⟩ := HR1.out
    obtain ⟨⟨k0, k1, k2⟩, -⟩ := h.at_
    obtain ⟨g, rfl, hg, hgq, ⟨c0, c1, c2, c3, c4⟩, -⟩ := h.el i hi x hx
    obtain ⟨id', s, ic, b, sn⟩ := x
    dsimp only at c0 c1 c2 c3 c4 hrr hxn
    subst hxn
    obtain ⟨W2, hW2⟩ : ∃ W2, w1.alloc (.cells #[.int .u64 id', .int .i64 s, .int .u64 ic, .int .i64 b, .int .i64 sn] 124) = W2 := ⟨_, rfl⟩
    obtain ⟨b0, hb0⟩ : ∃ b0, w1.heap.size = b0 := ⟨_, rfl⟩
    have hbl : Below w1.heap.size w1 W2 := by rw [← hW2]; exact below_alloc (Below.refl _ _) _
    have hbx := heap_alloc_new w1 (.cells #[.int .u64 id', .int .i64 s, .int .u64 ic, .int .i64 b, .int .i64 sn] 124)
    rw [hW2] at hbx
    have HAT := Lib.hid (fun u : Nat => rem_at h i _ hx W2 hbl hbx u)
    rw [hb0] at HAT
    dsimp only at HAT
    obtain ⟨z0, z1, z3, z4⟩ := HAT.out 0
    have HF := Lib.hid (fun u : Nat => And.intro (show RL (W2.drewN u) G q tn last V from ⟨_, _, (h.below hbl).below (pw_below_drewN (Below.refl _ _) u)⟩) ((HT1.out.bel hbl).bel (pw_below_drewN (Below.refl W2.heap.size W2) u)))
    obtain ⟨m, hm⟩ : ∃ m, V.length = m := ⟨_, rfl⟩
    rw [hm] at k2 hi
    have z0' : W2.cell? ⟨q, 0, none⟩ = some (.int .i64 tn) := z0
    have z1' : W2.cell? ⟨b0, 1, none⟩ = some (.int .i64 s) := z1
    have z3' : W2.cell? ⟨b0, 3, none⟩ = some (.int .i64 b) := z3
    have z4' : W2.cell? ⟨b0, 4, none⟩ = some (.int .i64 sn) := z4
    clear h hm hg hgq hx hbl hbx HR1 z0 z1 z3 z4
    unfold RemB at hs
    dsimp only at hs
    by_cases hx3 : s = 3
    · subst hx3
      have hb : 0 < b ∧ tn - sn < wt := Classical.byContradiction (fun hn => hs ⟨rfl, hn⟩)
      obtain ⟨hb1, hb2⟩ := hb
      have hd1 : decide (0 < b) = true := decide_eq_true hb1
      have hd2 : decide (tn - sn < wt) = true := decide_eq_true hb2
      clear hs
      go_upto_region 6 with fail
      clear hW2 hb0
      go_quiet (fail)
      go_wp2_with fail
      go_ret
      exact ⟨rfl, (HF.out _).1, (HF.out _).2⟩
    · have hd : (s == 3) = false := by simp; exact hx3
      have hd2 : (s != 3) = true := by simp; exact hx3
      clear hs
      go_upto_region 6 with fail
      clear hW2 hb0
      go_quiet (fail)
      go_wp2_with fail
      go_ret
      exact ⟨rfl, (HF.out _).1, (HF.out _).2⟩
  · exfalso
    have := look_no hno
    rw [HL.out] at this
    cases this
end
end Go.Proofs.Ytmbhicjjbgbneaa
