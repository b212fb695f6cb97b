/- The document's member list: enter, Lost, Drain, Bind. -/
import Derived.Test.YtmbhicjjbgbneaaMbO
import Derived.Deep.RegionHeld3
namespace Go.Proofs.Ytmbhicjjbgbneaa
open Go.RowKit Go.Shelf Go.Proofs.YtmbhicjjbgbneaaW.PrintWords Go.Proofs.YtmbhicjjbgbneaaW.PrintLast Go.Proofs.YtmbhicjjbgbneaaW.PrintMore
set_option linter.unusedVariables false
set_option linter.unusedSimpArgs false
set_option maxRecDepth 100000
theorem look_ix {V : List Rp} (hn : (mkeys V).Nodup) {i : Nat} {x : Rp} (hx : V[i]? = some x) : mlook V x.1 = some x.2 ∧ (∀ r, mput V x.1 r = V.set i (x.1, r)) ∧ mdel V x.1 = V.eraseIdx i := by
  induction V generalizing i with
  | nil => simp at hx
  | cons y l ih =>
    obtain ⟨a, u⟩ := y
    have hn' : a ∉ mkeys l ∧ (mkeys l).Nodup := List.nodup_cons.1 hn
    cases i with
    | zero =>
      have hx : (a, u) = x := by simpa using hx
      subst hx
      refine ⟨?_, fun r => ?_, ?_⟩
      · unfold mlook; rw [if_pos rfl]
      · unfold mput; rw [if_pos rfl]; rfl
      · unfold mdel; rw [if_pos rfl]; rfl
    | succ i =>
      have hx : l[i]? = some x := by simpa using hx
      have hne : a ≠ x.1 := fun e => hn'.1 (by rw [e]; exact List.mem_map.2 ⟨x, List.mem_of_getElem? hx, rfl⟩)
      obtain ⟨h1, h2, h3⟩ := ih hn'.2 hx
      refine ⟨?_, fun r => ?_, ?_⟩
      · unfold mlook; rw [if_neg hne]; exact h1
      · unfold mput; rw [if_neg hne, h2]; rfl
      · unfold mdel; rw [if_neg hne, h3]; rfl
theorem look_no {V : List Rp} {n : Int} (h : ∀ x ∈ V, x.1 ≠ n) : mlook V n = none := mlook_none.2 (fun hk => by
  obtain ⟨x, hx, he⟩ := List.mem_map.1 hk
  exact h x hx he)
section
variable {W W' : World} {G : Nat → Prop} {q : Nat} {T last : Int} {V : List Rp}
set_option maxHeartbeats 1000000 in
theorem rlenter (hr : RL W G q T last V) (i : Nat) (x : Rp) (hx : V[i]? = some x) (st : Int) : Calls Try.prog 69 #[.pointer (some ⟨q, 0, none⟩), .int .i64 i, .int .i64 st] W fun e w' => e = .returned (.tuple #[]) ∧ RL w' G q T last (V.set i (x.1, eS T st x.2)) ∧ Tn G W w' := by
  obtain ⟨A, c, h⟩ := hr
  have hi : i < V.length := (List.getElem?_eq_some_iff.1 hx).1
  obtain ⟨⟨k0, k1, k2⟩, -⟩ := h.at_
  obtain ⟨g, rfl, hg, hgq, ⟨c0, c1, c2, c3, c4⟩, f1, f2, f3, f4⟩ := h.el i hi x hx
  obtain ⟨id, s, ic, b, sn⟩ := x
  dsimp only at c0 c1 c2 c3 c4
  obtain ⟨m, hm⟩ : ∃ m, V.length = m := ⟨_, rfl⟩
  unfold eS
  dsimp only
  by_cases hs : s = st
  · subst hs
    rw [if_pos rfl]
    have HE := Lib.hid (show RL W G q T last (V.set i (id, s, ic, b, sn)) ∧ Tn G W W from ⟨by
      rw [show V.set i (id, s, ic, b, sn) = V from by
        rw [List.getElem?_eq_getElem hi] at hx
        injection hx with hx
        rw [← hx]; exact List.set_getElem_self _]
      exact ⟨_, _, h⟩, Tn.refl _ _⟩)
    rw [hm] at k2 hi
    clear h hm hg hgq hx
    go_enter Try.func69, Try.ntmps69
    go_wp2_with fail
    go_end0
    exact ⟨rfl, HE.out⟩
  · rw [if_neg hs]
    have hd : (s == st) = false := by simpa using hs
    have hd2 : (s != st) = true := by simpa using hs
    have hbd := below_drew (Below.refl W.heap.size W)
    have h0 := h.below hbd
    have h1 := h0.put i 1 (id, s, ic, b, sn) (id, st, ic, b, sn) (.int .i64 st) hx (by omega) rfl
    have hx1 : (V.set i (id, st, ic, b, sn))[i]? = some (id, st, ic, b, sn) := by rw [List.getElem?_set_self hi]
    have h2 := h1.put i 4 (id, st, ic, b, sn) (id, st, ic, b, T) (.int .i64 T) hx1 (by omega) rfl
    rw [List.set_set] at h2
    have HF := Lib.hid (show RL ((W.drew.setCell ⟨g, i * 5 + 1, none⟩ (.int .i64 st)).setCell ⟨g, i * 5 + 4, none⟩ (.int .i64 T)) G q T last (V.set i (id, st, ic, b, T)) from ⟨_, _, h2⟩)
    have HT := Lib.hid ((((Tn.refl G W).bel hbd).put g (i * 5 + 1) (.int .i64 st) (.inl hg)).put g (i * 5 + 4) (.int .i64 T) (.inl hg))
    obtain ⟨⟨x0, x1, x2⟩, -⟩ := h0.at_
    obtain ⟨⟨y0, y1, y2⟩, -⟩ := h1.at_
    obtain ⟨⟨z0, z1, z2⟩, -⟩ := h2.at_
    rw [List.length_set] at y2 z2
    rw [hm] at k2 hi x2 y2 z2
    clear h h0 h1 h2 hm hg hgq hx hx1 hbd
    go_enter Try.func69, Try.ntmps69
    go_upto_region 1 with fail
    go_region_held3 (fun w' => w'.cell? ⟨q, 0, none⟩ = some (.int .i64 T) ∧ w'.cell? ⟨q, 2, none⟩ = some (.slice (some ⟨g, 0, none⟩) m c))
      (first | exact ⟨x0, x2⟩ | exact ⟨y0, y2⟩ | exact ⟨z0, z2⟩)
      (fail)
    go_wp2_with fail
    go_end0
    exact ⟨rfl, HF.out, HT.out⟩
end
end Go.Proofs.Ytmbhicjjbgbneaa
