/- The document's member list: Up. -/
import Derived.Test.YtmbhicjjbgbneaaMbR
namespace Go.Proofs.Ytmbhicjjbgbneaa
open Go.RowKit Go.Shelf Go.Proofs.YtmbhicjjbgbneaaW.PrintWords Go.Proofs.YtmbhicjjbgbneaaW.PrintLast Go.Proofs.YtmbhicjjbgbneaaW.PrintMore
set_option linter.unusedVariables false
set_option linter.unusedSimpArgs false
set_option maxRecDepth 100000
section
variable {W W' : World} {G : Nat → Prop} {q : Nat} {T last : Int} {V : List Rp}
/-- What stands behind Up's two stores. -/
theorem up_tail (hr : RL W' G q T last V) (ht : Tn G W W') (i : Nat) (id s ic b sn inc : Int) (hx : V[i]? = some (id, s, ic, b, sn)) :
    ∃ g m c, V.length = m ∧ i < m ∧ (W'.cell? ⟨q, 2, none⟩ = some (.slice (some ⟨g, 0, none⟩) m c)) ∧ W'.cell? ⟨g, i * 5 + 2, none⟩ = some (.int .u64 ic) ∧ W'.cell? ⟨g, i * 5 + 3, none⟩ = some (.int .i64 b) ∧ W'.frozen? ⟨g, i * 5 + 2, none⟩ = false ∧ W'.frozen? ⟨g, i * 5 + 3, none⟩ = false ∧
      (RL (W'.setCell ⟨g, i * 5 + 2, none⟩ (.int .u64 inc)) G q T last (V.set i (id, s, inc, b, sn)) ∧ Tn G W (W'.setCell ⟨g, i * 5 + 2, none⟩ (.int .u64 inc))) ∧
      (RL ((W'.setCell ⟨g, i * 5 + 2, none⟩ (.int .u64 inc)).setCell ⟨g, i * 5 + 3, none⟩ (.int .i64 0)) G q T last (V.set i (id, s, inc, 0, sn)) ∧ Tn G W ((W'.setCell ⟨g, i * 5 + 2, none⟩ (.int .u64 inc)).setCell ⟨g, i * 5 + 3, none⟩ (.int .i64 0))) ∧
      (W'.setCell ⟨g, i * 5 + 2, none⟩ (.int .u64 inc)).cell? ⟨q, 2, none⟩ = some (.slice (some ⟨g, 0, none⟩) m c) := by
  have hi : i < V.length := (List.getElem?_eq_some_iff.1 hx).1
  obtain ⟨A, c, h⟩ := hr
  obtain ⟨⟨k0, k1, k2⟩, -⟩ := h.at_
  obtain ⟨g, rfl, hg, hgq, ⟨c0, c1, c2, c3, c4⟩, f1, f2, f3, f4⟩ := h.el i hi _ hx
  have h1 := h.put i 2 (id, s, ic, b, sn) (id, s, inc, b, sn) (.int .u64 inc) hx (by omega) rfl
  have hx1 : (V.set i (id, s, inc, b, sn))[i]? = some (id, s, inc, b, sn) := by rw [List.getElem?_set_self hi]
  have h2 := h1.put i 3 (id, s, inc, b, sn) (id, s, inc, 0, sn) (.int .i64 0) hx1 (by omega) rfl
  rw [List.set_set] at h2
  have y2 := h1.at_.1.2.2
  rw [List.length_set] at y2
  exact ⟨g, V.length, c, rfl, hi, k2, c2, c3, f2, f3, ⟨⟨_, _, h1⟩, ht.put g _ _ (.inl hg)⟩, ⟨⟨_, _, h2⟩, (ht.put g _ _ (.inl hg)).put g _ _ (.inl hg)⟩, y2⟩
set_option maxHeartbeats 4000000 in
theorem rlup (hr : RL W G q T last V) (hn : (mkeys V).Nodup) (h8 : V.length ≤ 1000) (hb : ∀ x ∈ V, (1 ≤ x.2.1 ∧ x.2.1 ≤ 4) ∧ 0 ≤ x.2.2.1) (t id inc : Int) (hi0 : 0 ≤ inc) : Calls Try.prog 44 #[.pointer (some ⟨q, 0, none⟩), .int .i64 t, .int .u64 id, .int .u64 inc] W fun e w' => e = .returned (.tuple #[.bool (pUp (lat T t) id inc V).1.1, .int .i64 (pUp (lat T t) id inc V).1.2]) ∧ RL w' G q (lat T t) last (pUp (lat T t) id inc V).2 ∧ Tn G W w' := by
  have HLT := Lib.hid (rllater hr t)
  have HN := Lib.hid hn
  have H8 := Lib.hid h8
  have HB := Lib.hid hb
  obtain ⟨tn, htn⟩ : ∃ x, lat T t = x := ⟨_, rfl⟩
  rw [htn] at HLT ⊢
  obtain ⟨R, hR⟩ : ∃ R, pUp tn id inc V = R := ⟨_, rfl⟩
  rw [hR]
  have HRE := Lib.hid hR
  clear hr hn h8 htn hR hb
  go_enter Try.func44, Try.ntmps44
  go_wp2_with fail
  refine HLT.out.mono ?_
  rintro e w1 ⟨rfl, hR1, hT1⟩
  have HR1 := Lib.hid hR1
  have HT1 := Lib.hid hT1
  have HP := Lib.hid (rlplace hR1 id H8.out)
  clear hR1 hT1
  go_wp2_with fail
  refine HP.out.mono ?_
  rintro e w' ⟨hp, rfl⟩
  rcases hp with ⟨i, x, hx, hxn, rfl⟩ | ⟨hno, rfl⟩
  · obtain ⟨l1, l2, -⟩ := plc_some HN.out hx hxn
    have hi : i < V.length := (List.getElem?_eq_some_iff.1 hx).1
    obtain ⟨A, c, h⟩ := HR1.out
    obtain ⟨⟨k0, k1, k2⟩, -⟩ := h.at_
    obtain ⟨g, rfl, hg, hgq, ⟨c0, c1, c2, c3, c4⟩, -⟩ := h.el i hi x hx
    have HE := Lib.hid (rlenter HR1.out i x hx 2)
    have hbx := HB.out x (List.mem_of_getElem? hx)
    have hre := HRE.out
    unfold pUp at hre
    rw [l1] at hre
    obtain ⟨id', s, ic, b, sn⟩ := x
    dsimp only at hre c1 c2 hxn hbx
    obtain ⟨⟨hs1, hs2⟩, hic⟩ := hbx
    obtain ⟨m, hm⟩ : ∃ m, V.length = m := ⟨_, rfl⟩
    rw [hm] at k2 hi
    clear h hm hg hgq c0 c3 c4
    have HX := Lib.hid hx
    clear hx
    by_cases ha : inc = 0 ∨ inc < ic
    · rw [if_pos ha] at hre
      subst hre
      clear HE l1 l2 hxn
      by_cases h0 : inc = 0
      · subst h0
        clear ha
        go_wp2_with fail
        go_ret2
        exact ⟨rfl, HR1.out, HT1.out⟩
      · have hlt : inc < ic := by omega
        have hd : (inc == 0) = false := by simpa using h0
        clear ha h0
        go_wp2_with fail
        go_ret2
        exact ⟨rfl, HR1.out, HT1.out⟩
    · rw [if_neg ha] at hre
      rw [l2] at hre
      have hd : (inc == 0) = false := by simp; omega
      have hge : ¬ inc < ic := by omega
      have hinc : 0 < inc := by omega
      have HRE2 := Lib.hid hre
      clear ha l1 l2 hxn hre
      by_cases hst : s = 1 ∨ s = 4
      · have HU := Lib.hid (show uS tn inc (s, ic, b, sn) = (2, inc, if 0 < ic ∧ ic < inc then 0 else b, tn) by
          unfold uS eS
          rcases hst with rfl | rfl <;> rfl)
        have HE2 := Lib.hid (show eS tn 2 (s, ic, b, sn) = (2, ic, b, tn) by
          unfold eS
          rcases hst with rfl | rfl <;> rfl)
        have HSX := Lib.hid (show (V.set i (id', eS tn 2 (s, ic, b, sn)))[i]? = some (id', 2, ic, b, tn) from by
          rw [HE2.out]
          exact List.getElem?_set_self (List.getElem?_eq_some_iff.1 HX.out).1)
        have hcont : ∀ (K : Act → World → Prop), True := fun _ => trivial
        clear hcont
        rcases hst with rfl | rfl
        all_goals
          go_wp2_with fail
          refine HE.out.mono ?_
          rintro e w2 ⟨rfl, hR2, hT2⟩
          obtain ⟨g2, m2, c2', hm2, hi2, y2, y3, y4, y5, y6, ht1, ht2, y7⟩ := up_tail hR2 (HT1.out.trans hT2 (fun k hk => .inl hk)) i id' 2 ic b tn inc HSX.out
          have HA := Lib.hid ht1
          have HB2 := Lib.hid ht2
          clear hR2 hT2 ht1 ht2 hm2 k0 k1 k2 c1 c2
          by_cases hw0 : ic = 0
          · have HF := Lib.hid (show R = ((false, 0), V.set i (id', 2, inc, b, tn)) by rw [← HRE2.out, HU.out, hw0]; rfl)
            subst hw0
            go_wp2_with fail
            go_ret2
            refine ⟨by rw [HF.out]; rfl, by rw [HF.out]; have h9 := HA.out.1; rw [HE2.out, List.set_set] at h9; exact h9, HA.out.2⟩
          · have hw1 : (ic == 0) = false := by simpa using hw0
            have hw1b : (ic != 0) = true := by simpa using hw0
            by_cases hw2 : ic = inc
            · have HF := Lib.hid (show R = ((false, 0), V.set i (id', 2, inc, b, tn)) by rw [← HRE2.out, HU.out, hw2, if_neg (by omega), decide_eq_false (by omega)])
              subst hw2
              go_wp2_with fail
              go_ret2
              refine ⟨by rw [HF.out]; rfl, by rw [HF.out]; have h9 := HA.out.1; rw [HE2.out, List.set_set] at h9; exact h9, HA.out.2⟩
            · have HF := Lib.hid (show R = ((true, 0), V.set i (id', 2, inc, 0, tn)) by rw [← HRE2.out, HU.out, if_pos (by omega), decide_eq_true (by omega)])
              have hw3 : (ic == inc) = false := by simpa using hw2
              have hw3b : (ic != inc) = true := by simpa using hw2
              clear hw0 hw2
              go_wp2_with fail
              go_ret2
              refine ⟨by rw [HF.out]; rfl, by rw [HF.out]; have h9 := HB2.out.1; rw [HE2.out, List.set_set] at h9; exact h9, HB2.out.2⟩
      · have HU := Lib.hid (show uS tn inc (s, ic, b, sn) = (s, inc, if 0 < ic ∧ ic < inc then 0 else b, sn) by
          have : s = 2 ∨ s = 3 := by omega
          unfold uS eS
          rcases this with rfl | rfl <;> rfl)
        have hd1 : (s == 1) = false := by simp; omega
        have hd4 : (s == 4) = false := by simp; omega
        obtain ⟨g2, m2, c2', hm2, hi2, y2, y3, y4, y5, y6, ht1, ht2, y7⟩ := up_tail HR1.out HT1.out i id' s ic b sn inc HX.out
        have HA := Lib.hid ht1
        have HB2 := Lib.hid ht2
        rw [k2] at y2
        injection y2 with y2
        injection y2 with y2a y2b y2c
        injection y2a with y2a
        injection y2a with y2a
        subst y2a y2b y2c
        clear ht1 ht2 hm2 hst HE
        by_cases hw0 : ic = 0
        · have HF := Lib.hid (show R = ((false, 0), V.set i (id', s, inc, b, sn)) by rw [← HRE2.out, HU.out, hw0]; rfl)
          subst hw0
          go_wp2_with fail
          go_ret2
          refine ⟨by rw [HF.out]; rfl, by rw [HF.out]; exact HA.out.1, HA.out.2⟩
        · have hw1 : (ic == 0) = false := by simpa using hw0
          have hw1b : (ic != 0) = true := by simpa using hw0
          by_cases hw2 : ic = inc
          · have HF := Lib.hid (show R = ((false, 0), V.set i (id', s, inc, b, sn)) by rw [← HRE2.out, HU.out, hw2, if_neg (by omega), decide_eq_false (by omega)])
            subst hw2
            go_wp2_with fail
            go_ret2
            refine ⟨by rw [HF.out]; rfl, by rw [HF.out]; exact HA.out.1, HA.out.2⟩
          · have HF := Lib.hid (show R = ((true, 0), V.set i (id', s, inc, 0, sn)) by rw [← HRE2.out, HU.out, if_pos (by omega), decide_eq_true (by omega)])
            have hw3 : (ic == inc) = false := by simpa using hw2
            have hw3b : (ic != inc) = true := by simpa using hw2
            clear hw0 hw2
            go_wp2_with fail
            go_ret2
            refine ⟨by rw [HF.out]; rfl, by rw [HF.out]; exact HB2.out.1, HB2.out.2⟩
  · have hl := look_no hno
    have hre := HRE.out
    unfold pUp at hre
    rw [hl] at hre
    dsimp only at hre
    subst hre
    clear hno hl
    go_wp2_with fail
    go_ret2
    exact ⟨rfl, HR1.out, HT1.out⟩
end
end Go.Proofs.Ytmbhicjjbgbneaa
