/- The document's member list: Bind, Up, Live. -/
import Derived.Test.YtmbhicjjbgbneaaMbQ
namespace Go.Proofs.Ytmbhicjjbgbneaa
open Go.RowKit Go.Shelf Go.Proofs.YtmbhicjjbgbneaaW.PrintWords Go.Proofs.YtmbhicjjbgbneaaW.PrintLast Go.Proofs.YtmbhicjjbgbneaaW.PrintMore
set_option linter.unusedVariables false
set_option linter.unusedSimpArgs false
set_option maxRecDepth 100000
section
variable {W W' : World} {G : Nat → Prop} {q : Nat} {T last : Int} {V : List Rp}
set_option maxHeartbeats 2000000 in
theorem rlbind (hr : RL W G q T last V) (hn : (mkeys V).Nodup) (h8 : V.length ≤ 1000) (hb : ∀ x ∈ V, 0 ≤ x.2.2.2.1 ∧ x.2.2.2.1 ≤ 1048576) (id by_ : Int) : Calls Try.prog 43 #[.pointer (some ⟨q, 0, none⟩), .int .u64 id, .int .i64 by_] W fun e w' => e = .returned (.int .i64 (pBind id by_ V).1) ∧ RL w' G q T last (pBind id by_ V).2 ∧ Tn G W w' := by
  have HN := Lib.hid hn
  have HB := Lib.hid hb
  have HP := Lib.hid (rlplace hr id h8)
  have HR1 := Lib.hid hr
  obtain ⟨R, hR⟩ : ∃ R, pBind id by_ V = R := ⟨_, rfl⟩
  rw [hR]
  have HRE := Lib.hid hR
  clear hr hn h8 hR hb
  go_enter Try.func43, Try.ntmps43
  go_wp2_with fail
  refine HP.out.mono ?_
  rintro e w' ⟨hp, rfl⟩
  rcases hp with ⟨i, x, hx, hxn, rfl⟩ | ⟨hno, rfl⟩
  · obtain ⟨l1, l2, -⟩ := plc_some HN.out hx hxn
    have hi : i < V.length := (List.getElem?_eq_some_iff.1 hx).1
    obtain ⟨A, c, h⟩ := HR1.out
    obtain ⟨⟨k0, k1, k2⟩, -⟩ := h.at_
    obtain ⟨g, rfl, hg, hgq, ⟨c0, c1, c2, c3, c4⟩, f1, f2, f3, f4⟩ := h.el i hi x hx
    have hbx := HB.out x (List.mem_of_getElem? hx)
    have hre := HRE.out
    unfold pBind at hre
    rw [l1] at hre
    obtain ⟨id', s, ic, b, sn⟩ := x
    dsimp only at hre c3 hxn hbx
    obtain ⟨hb0, hb1⟩ := hbx
    have HPUT := Lib.hid (h.put i 3 (id', s, ic, b, sn) (id', s, ic, b + by_, sn) (.int .i64 (b + by_)) hx (by omega) rfl)
    have HTP := Lib.hid ((Tn.refl G W).put g (i * 5 + 3) (.int .i64 (b + by_)) (.inl hg))
    obtain ⟨m, hm⟩ : ∃ m, V.length = m := ⟨_, rfl⟩
    rw [hm] at k2 hi
    clear h hm hg hgq c0 c1 c2 c4 hx
    by_cases ha : by_ < -b ∨ 1048576 - b < by_
    · rw [if_pos ha] at hre
      subst hre
      clear l1 l2 hxn
      by_cases h1 : by_ < -1048576
      · clear ha
        go_wp2_with fail
        go_ret
        exact ⟨rfl, HR1.out, Tn.refl _ _⟩
      · by_cases h2 : 1048576 < by_
        · clear ha
          go_wp2_with fail
          go_ret
          exact ⟨rfl, HR1.out, Tn.refl _ _⟩
        · by_cases h3 : b + by_ < 0
          · clear ha
            go_wp2_with fail
            go_ret
            exact ⟨rfl, HR1.out, Tn.refl _ _⟩
          · have h4 : 1048576 < b + by_ := by omega
            clear ha
            go_wp2_with fail
            go_ret
            exact ⟨rfl, HR1.out, Tn.refl _ _⟩
    · rw [if_neg ha] at hre
      rw [l2] at hre
      subst hre
      have h1 : ¬ by_ < -1048576 := by omega
      have h2 : ¬ 1048576 < by_ := by omega
      have h3 : ¬ b + by_ < 0 := by omega
      have h4 : ¬ 1048576 < b + by_ := by omega
      clear ha l1 l2 hxn
      go_wp2_with fail
      go_ret
      exact ⟨rfl, ⟨_, _, HPUT.out⟩, HTP.out⟩
  · have hl := look_no hno
    have hre := HRE.out
    unfold pBind at hre
    rw [hl] at hre
    dsimp only at hre
    subst hre
    clear hno hl
    go_wp2_with fail
    go_ret
    exact ⟨rfl, HR1.out, Tn.refl _ _⟩
theorem rllive (hr : RL W G q T last V) (h8 : V.length ≤ 1000) : Calls Try.prog 46 #[.pointer (some ⟨q, 0, none⟩)] W fun e w' => e = .returned (.int .i64 (liveN V)) ∧ W = w' := by
  obtain ⟨A, c, h⟩ := hr
  obtain ⟨⟨k0, k1, k2⟩, -⟩ := h.at_
  have HEL := Lib.hid (fun i hi x hx => h.el i hi x hx)
  obtain ⟨n, hn⟩ : ∃ n, V.length = n := ⟨_, rfl⟩
  have HN := Lib.hid hn
  rw [hn] at k2 h8
  clear h hn
  go_enter Try.func46, Try.ntmps46
  go_wp2_with fail
  go_loopw [3, 4] (fun kv iv wr => ∃ (i k : Nat), kv = .int .i64 k ∧ iv = .int .i64 i ∧ i ≤ n ∧ k ≤ i ∧ wr = W ∧ Hid (liveN (V.take i) = k)) (fun _ iv _ => n - (intOf iv).toNat)
  case atStart => exact ⟨0, 0, rfl, rfl, by omega, by omega, rfl, Lib.hid rfl⟩
  case round =>
    obtain ⟨i, k, rfl, rfl, hi, hki, rfl, HK⟩ := hrel
    by_cases hin : i < n
    · have hi' : i < V.length := by rw [HN.out]; exact hin
      obtain ⟨g, rfl, hg, hgq, ⟨c0, c1, c2, c3, c4⟩, -⟩ := HEL.out i hi' V[i] (List.getElem?_eq_getElem hi')
      have ht := liveN_take V i hi'
      rw [HK.out] at ht
      obtain ⟨s, hs⟩ : ∃ s, V[i].2.1 = s := ⟨_, rfl⟩
      rw [hs] at c1 ht
      have HT := Lib.hid ht
      clear c0 c2 c3 c4 hg hgq ht hs hi'
      by_cases h3 : s = 3
      · subst h3
        have HT2 := Lib.hid (show liveN (V.take (i + 1)) = k by rw [HT.out, if_pos rfl]; rfl)
        go_wp2_with fail
        go_roundw
        case rel => exact ⟨i + 1, k, rfl, by go_num, by omega, by omega, trivial, HT2⟩
        case measure => simp [intOf]; omega
      · have hd : (s == 3) = false := by simpa using h3
        have HT2 := Lib.hid (show liveN (V.take (i + 1)) = k + 1 by rw [HT.out, if_neg h3])
        clear h3
        go_wp2_with fail
        go_roundw
        case rel => exact ⟨i + 1, k + 1, by go_num, by go_num, by omega, by omega, trivial, HT2⟩
        case measure => simp [intOf]; omega
    · have hin2 : i = n := by omega
      subst hin2
      have HT2 := Lib.hid (show (k : Int) = (liveN V : Nat) by rw [← HK.out, List.take_of_length_le (by rw [HN.out]; omega)])
      go_wp2_with fail
      go_ret
      exact ⟨by rw [← HT2.out]; rfl, rfl⟩
end
end Go.Proofs.Ytmbhicjjbgbneaa
