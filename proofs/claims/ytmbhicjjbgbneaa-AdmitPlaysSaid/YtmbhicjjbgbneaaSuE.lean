/- Sorting whole numbers of 64 bits: order2, median, medianAdjacent. -/
import Derived.Test.YtmbhicjjbgbneaaSuD
namespace Go.Proofs.Ytmbhicjjbgbneaa
open Go.RowKit Go.Shelf Go.Proofs.YtmbhicjjbgbneaaW.PrintWords Go.Proofs.YtmbhicjjbgbneaaW.PrintLast Go.Proofs.YtmbhicjjbgbneaaW.PrintMore
set_option linter.unusedVariables false
set_option linter.unusedSimpArgs false
set_option maxRecDepth 100000
def SB (W : World) (sb s : Nat) : Prop := W.heap[sb]? = some (.cells #[.int .i64 s] 3 (0, 0))
theorem SB.ne {W : World} {g n c sb s : Nat} {d : Array Int} (h : SR W g n c d) (hs : SB W sb s) : some sb ≠ (Value.slice (some ⟨g, 0, none⟩) n c).ownBlock := by
  intro he
  obtain ⟨cells, hc⟩ := own_typed h.row sb he.symm
  rw [hs] at hc
  injection hc with hc
  injection hc with _ hc
  exact absurd hc (by decide)
section
variable {W W' : World} {g n c sb s : Nat} {d : Array Int}
set_option maxHeartbeats 2000000 in
theorem su_order2 (h : SR W g n c d) (hs : SB W sb s) (a b : Nat) (ha : a < n) (hb : b < n) (hn : n ≤ 1000) (hs9 : s ≤ 100) : Calls Try.prog 114 #[.slice (some ⟨g, 0, none⟩) n c, .int .i64 a, .int .i64 b, .pointer (some ⟨sb, 0, none⟩)] W fun e w' => e = .returned (.tuple #[.int .i64 (Sort.order2 ltZ d a b s).1, .int .i64 (Sort.order2 ltZ d a b s).2.1]) ∧ SR w' g n c d ∧ SB w' sb (Sort.order2 ltZ d a b s).2.2 ∧ Tn (fun k => k = sb) W w' := by
  obtain ⟨ca, fa⟩ := h.at_ a ha
  obtain ⟨cb, fb⟩ := h.at_ b hb
  have k0 := blk_cell hs 0
  have f0 := blk_frozen hs 0
  have HU := Lib.hid (fun u : Nat => And.intro (h.below (pw_below_drewN (Below.refl _ _) u)) (And.intro (show SB (W.drewN u) sb s from hs) ((Tn.refl (fun k => k = sb) W).bel (pw_below_drewN (Below.refl _ _) u))))
  have hne := SB.ne h hs
  have HP := Lib.hid (fun u : Nat => show SR ((W.drewN u).setCell ⟨sb, 0, none⟩ (.int .i64 ((s : Int) + 1))) g n c d ∧ SB ((W.drewN u).setCell ⟨sb, 0, none⟩ (.int .i64 ((s : Int) + 1))) sb (s + 1) ∧ Tn (fun k => k = sb) W ((W.drewN u).setCell ⟨sb, 0, none⟩ (.int .i64 ((s : Int) + 1))) from
    ⟨⟨own_setCell (h.below (pw_below_drewN (Below.refl _ _) u)).row hne _, h.sz⟩, blk_set (show SB (W.drewN u) sb s from hs) 0 _, ((Tn.refl (fun k => k = sb) W).bel (pw_below_drewN (Below.refl _ _) u)).put sb 0 _ (.inl rfl)⟩)
  obtain ⟨x, hx⟩ : ∃ x, d[b]! = x := ⟨_, rfl⟩
  obtain ⟨y, hy⟩ : ∃ y, d[a]! = y := ⟨_, rfl⟩
  unfold Sort.order2
  rw [hx] at cb ⊢
  rw [hy] at ca ⊢
  have HL := Lib.hid (fun w : World => less_any x y w)
  clear h hs hne hx hy fa fb
  cases hl : ltZ x y with
  | true =>
    rw [hl] at HL
    rw [if_pos rfl]
    clear hl
    go_enter Try.func114, Try.ntmps114
    go_wp2_with fail
    go_quiet ((go_at_call 93; exact Calls.quiet_of_same (HL.out _)))
    go_wp2_with fail
    go_ret2
    exact ⟨rfl, HP.out _⟩
  | false =>
    rw [hl] at HL
    rw [if_neg (by simp)]
    clear hl
    go_enter Try.func114, Try.ntmps114
    go_wp2_with fail
    go_quiet ((go_at_call 93; exact Calls.quiet_of_same (HL.out _)))
    go_wp2_with fail
    go_ret2
    exact ⟨rfl, HU.out _⟩
theorem order2_in (lt : Int → Int → Bool) (d : Array Int) (a b s : Nat) : ((Sort.order2 lt d a b s).1 = a ∧ (Sort.order2 lt d a b s).2.1 = b ∨ (Sort.order2 lt d a b s).1 = b ∧ (Sort.order2 lt d a b s).2.1 = a) ∧ (Sort.order2 lt d a b s).2.2 ≤ s + 1 := by
  unfold Sort.order2
  split
  · exact ⟨.inr ⟨rfl, rfl⟩, Nat.le_refl _⟩
  · exact ⟨.inl ⟨rfl, rfl⟩, by dsimp only; omega⟩
set_option maxHeartbeats 2000000 in
theorem su_median (h : SR W g n c d) (hs : SB W sb s) (a b e : Nat) (ha : a < n) (hb : b < n) (he : e < n) (hn : n ≤ 1000) (hs9 : s ≤ 90) : Calls Try.prog 110 #[.slice (some ⟨g, 0, none⟩) n c, .int .i64 a, .int .i64 b, .int .i64 e, .pointer (some ⟨sb, 0, none⟩)] W fun e' w' => e' = .returned (.int .i64 (Sort.median ltZ d a b e s).1) ∧ SR w' g n c d ∧ SB w' sb (Sort.median ltZ d a b e s).2 ∧ Tn (fun k => k = sb) W w' := by
  have HC1 := Lib.hid (su_order2 h hs a b ha hb hn (by omega))
  have HI1 := Lib.hid (order2_in ltZ d a b s)
  unfold Sort.median
  dsimp only
  obtain ⟨r1, hr1⟩ : ∃ r, Sort.order2 ltZ d a b s = r := ⟨_, rfl⟩
  rw [hr1] at HC1 HI1 ⊢
  obtain ⟨a1, b1, s1⟩ := r1
  have HI2 := Lib.hid (order2_in ltZ d b1 e s1)
  dsimp only at HC1 HI1 HI2 ⊢
  obtain ⟨r2, hr2⟩ : ∃ r, Sort.order2 ltZ d b1 e s1 = r := ⟨_, rfl⟩
  have HR2 := Lib.hid hr2
  rw [hr2] at HI2 ⊢
  obtain ⟨b2, e2, s2⟩ := r2
  have HI3 := Lib.hid (order2_in ltZ d a1 b2 s2)
  dsimp only at HI2 HI3 ⊢
  obtain ⟨r3, hr3⟩ : ∃ r, Sort.order2 ltZ d a1 b2 s2 = r := ⟨_, rfl⟩
  have HR3 := Lib.hid hr3
  rw [hr3] at HI3 ⊢
  obtain ⟨a3, b3, s3⟩ := r3
  dsimp only at HI3 ⊢
  have hB1 : a1 < n ∧ b1 < n ∧ s1 ≤ 91 := by have := HI1.out; omega
  have hB2 : b2 < n ∧ e2 < n ∧ s2 ≤ 92 := by have := HI2.out; omega
  have HBB := Lib.hid (And.intro hB1 hB2)
  clear h hs hr1 hr2 hr3 hB1 hB2
  go_enter Try.func110, Try.ntmps110
  go_wp2_with fail
  refine HC1.out.mono ?_
  rintro e' w1 ⟨rfl, h1, hs1, ht1⟩
  have HT1 := Lib.hid ht1
  have HC2 := Lib.hid (su_order2 h1 hs1 b1 e HBB.out.1.2.1 he hn (by have := HBB.out; omega))
  rw [HR2.out] at HC2
  dsimp only at HC2
  clear h1 hs1 ht1
  go_wp2_with fail
  refine HC2.out.mono ?_
  rintro e' w2 ⟨rfl, h2, hs2, ht2⟩
  have HT2 := Lib.hid (HT1.out.trans ht2 (fun k hk => .inl hk))
  have HC3 := Lib.hid (su_order2 h2 hs2 a1 b2 HBB.out.1.1 HBB.out.2.1 hn (by have := HBB.out; omega))
  rw [HR3.out] at HC3
  dsimp only at HC3
  clear h2 hs2 ht2
  go_wp2_with fail
  refine HC3.out.mono ?_
  rintro e' w3 ⟨rfl, h3, hs3, ht3⟩
  have HE := Lib.hid (And.intro h3 (And.intro hs3 (HT2.out.trans ht3 (fun k hk => .inl hk))))
  clear h3 hs3 ht3
  go_wp2_with fail
  go_ret
  exact ⟨rfl, HE.out⟩
theorem su_medadj (h : SR W g n c d) (hs : SB W sb s) (a : Nat) (ha : 1 ≤ a) (hb : a + 1 < n) (hn : n ≤ 1000) (hs9 : s ≤ 90) : Calls Try.prog 109 #[.slice (some ⟨g, 0, none⟩) n c, .int .i64 a, .pointer (some ⟨sb, 0, none⟩)] W fun e' w' => e' = .returned (.int .i64 (Sort.medianAdjacent ltZ d a s).1) ∧ SR w' g n c d ∧ SB w' sb (Sort.medianAdjacent ltZ d a s).2 ∧ Tn (fun k => k = sb) W w' := by
  obtain ⟨a0, rfl⟩ : ∃ a0, a = a0 + 1 := ⟨a - 1, by omega⟩
  have HC := Lib.hid (su_median h hs a0 (a0 + 1) (a0 + 1 + 1) (by omega) (by omega) (by omega) hn hs9)
  unfold Sort.medianAdjacent
  rw [Nat.add_sub_cancel]
  obtain ⟨R, hR⟩ : ∃ R, Sort.median ltZ d a0 (a0 + 1) (a0 + 1 + 1) s = R := ⟨_, rfl⟩
  rw [hR] at HC ⊢
  obtain ⟨b, hbn⟩ : ∃ b, a0 + 1 = b := ⟨_, rfl⟩
  obtain ⟨e, hen⟩ : ∃ e, b + 1 = e := ⟨_, rfl⟩
  rw [hbn] at HC ⊢
  rw [hen] at HC
  have z1 : (b : Int) - 1 = (a0 : Int) := by omega
  have z2 : (b : Int) + 1 = (e : Int) := by omega
  have hb9 : b ≤ 1000 := by omega
  clear h hs hR hen
  go_enter Try.func109, Try.ntmps109
  go_wp2_with fail
  refine HC.out.mono ?_
  rintro e' w1 ⟨rfl, h1⟩
  have HE := Lib.hid h1
  clear h1
  go_wp2_with fail
  go_ret
  exact ⟨rfl, HE.out⟩
end
end Go.Proofs.Ytmbhicjjbgbneaa
