/- Sorting whole numbers of 64 bits: choosePivot. -/
import Derived.Test.YtmbhicjjbgbneaaSuE
namespace Go.Proofs.Ytmbhicjjbgbneaa
open Go.RowKit Go.Shelf Go.Proofs.YtmbhicjjbgbneaaW.PrintWords Go.Proofs.YtmbhicjjbgbneaaW.PrintLast Go.Proofs.YtmbhicjjbgbneaaW.PrintMore
set_option linter.unusedVariables false
set_option linter.unusedSimpArgs false
set_option maxRecDepth 100000
def hintZ : Sort.Hint → Int
  | .unknown => 0
  | .increasing => 1
  | .decreasing => 2
theorem median_in (lt : Int → Int → Bool) (d : Array Int) (a b e s : Nat) : ((Sort.median lt d a b e s).1 = a ∨ (Sort.median lt d a b e s).1 = b ∨ (Sort.median lt d a b e s).1 = e) ∧ (Sort.median lt d a b e s).2 ≤ s + 3 := by
  unfold Sort.median
  dsimp only
  have h1 := order2_in lt d a b s
  have h2 := order2_in lt d (Sort.order2 lt d a b s).2.1 e (Sort.order2 lt d a b s).2.2
  have h3 := order2_in lt d (Sort.order2 lt d a b s).1 (Sort.order2 lt d (Sort.order2 lt d a b s).2.1 e (Sort.order2 lt d a b s).2.2).1 (Sort.order2 lt d (Sort.order2 lt d a b s).2.1 e (Sort.order2 lt d a b s).2.2).2.2
  omega
section
variable {W W' : World} {g n c : Nat} {d : Array Int}
set_option maxHeartbeats 4000000 in
theorem su_pivot (h : SR W g n c d) (a b : Nat) (hl : a + 12 < b) (hb : b ≤ n) (hn : n ≤ 1000) : Calls Try.prog 90 #[.slice (some ⟨g, 0, none⟩) n c, .int .i64 a, .int .i64 b] W fun e w' => e = .returned (.tuple #[.int .i64 (Sort.choosePivot ltZ d a b).1, .int .i64 (hintZ (Sort.choosePivot ltZ d a b).2)]) ∧ SR w' g n c d ∧ Below W.heap.size W w' := by
  obtain ⟨l, hll⟩ : ∃ l, b - a = l := ⟨_, rfl⟩
  have z0 : (b : Int) - (a : Int) = (l : Int) := by omega
  obtain ⟨qq, hq⟩ : ∃ qq, l / 4 = qq := ⟨_, rfl⟩
  have z1 : (l : Int) / 4 = (qq : Int) := by omega
  obtain ⟨i, hi⟩ : ∃ i, a + qq * 1 = i := ⟨_, rfl⟩
  obtain ⟨j, hj⟩ : ∃ j, a + qq * 2 = j := ⟨_, rfl⟩
  obtain ⟨k, hk⟩ : ∃ k, a + qq * 3 = k := ⟨_, rfl⟩
  have z2 : (a : Int) + (qq : Int) = (i : Int) := by omega
  have z3 : (a : Int) + (qq : Int) * 2 = (j : Int) := by omega
  have z4 : (a : Int) + (qq : Int) * 3 = (k : Int) := by omega
  unfold Sort.choosePivot
  rw [hll]
  dsimp only
  rw [hq, hi, hj, hk]
  obtain ⟨W1, hW1⟩ : ∃ W1, W.alloc (.cells #[.int .i64 0] 3) = W1 := ⟨_, rfl⟩
  obtain ⟨sb, hsb⟩ : ∃ sb, W.heap.size = sb := ⟨_, rfl⟩
  have hbl : Below W.heap.size W W1 := by rw [← hW1]; exact below_alloc (Below.refl _ _) _
  have hbx := heap_alloc_new W (.cells #[.int .i64 0] 3)
  rw [hW1, hsb] at hbx
  have HSR := Lib.hid (h.below hbl)
  have HSB := Lib.hid (show SB W1 sb 0 from hbx)
  have HBL := Lib.hid hbl
  have hsbW : W.heap.size ≤ sb := by omega
  have HSW := Lib.hid hsbW
  rw [if_pos (show l ≥ 8 by omega)]
  clear h hbl hbx hsbW
  have hl8 : 8 ≤ l := by omega
  have hl12 : l ≤ 1000 := by omega
  have hkn : k + 1 < n := by omega
  have hi1 : 1 ≤ i := by omega
  have hij : i ≤ j ∧ j ≤ k := by omega
  obtain ⟨hij1, hij2⟩ := hij
  clear hi hj hk hq hll
  by_cases h50 : l ≥ 50
  · rw [if_pos h50]
    have HC1 := Lib.hid (su_medadj HSR.out HSB.out i hi1 (by omega) hn (by omega))
    have hb1 : (Sort.medianAdjacent ltZ d i 0).1 < n ∧ (Sort.medianAdjacent ltZ d i 0).2 ≤ 3 := by
      unfold Sort.medianAdjacent
      have := median_in ltZ d (i - 1) i (i + 1) 0
      omega
    obtain ⟨R1, hR1⟩ : ∃ R, Sort.medianAdjacent ltZ d i 0 = R := ⟨_, rfl⟩
    rw [hR1] at HC1 hb1 ⊢
    obtain ⟨r1, s1⟩ := R1
    dsimp only at HC1 hb1 ⊢
    have hb2 : (Sort.medianAdjacent ltZ d j s1).1 < n ∧ (Sort.medianAdjacent ltZ d j s1).2 ≤ 6 := by
      unfold Sort.medianAdjacent
      have := median_in ltZ d (j - 1) j (j + 1) s1
      omega
    obtain ⟨R2, hR2⟩ : ∃ R, Sort.medianAdjacent ltZ d j s1 = R := ⟨_, rfl⟩
    have HR2 := Lib.hid hR2
    rw [hR2] at hb2 ⊢
    obtain ⟨r2, s2⟩ := R2
    dsimp only at hb2 ⊢
    have hb3 : (Sort.medianAdjacent ltZ d k s2).1 < n ∧ (Sort.medianAdjacent ltZ d k s2).2 ≤ 9 := by
      unfold Sort.medianAdjacent
      have := median_in ltZ d (k - 1) k (k + 1) s2
      omega
    obtain ⟨R3, hR3⟩ : ∃ R, Sort.medianAdjacent ltZ d k s2 = R := ⟨_, rfl⟩
    have HR3 := Lib.hid hR3
    rw [hR3] at hb3 ⊢
    obtain ⟨r3, s3⟩ := R3
    dsimp only at hb3 ⊢
    obtain ⟨R, hR⟩ : ∃ R, Sort.median ltZ d r1 r2 r3 s3 = R := ⟨_, rfl⟩
    have HR4 := Lib.hid hR
    rw [hR] at ⊢
    obtain ⟨r, s⟩ := R
    dsimp only at ⊢
    have HBN := Lib.hid (And.intro hb1 (And.intro hb2 hb3))
    clear hR1 hR2 hR3 hR hb1 hb2 hb3
    go_enter Try.func90, Try.ntmps90
    go_wp2_with fail
    clear hW1 hsb
    refine HC1.out.mono ?_
    rintro e w2 ⟨rfl, h2, hs2, ht2⟩
    have HC2 := Lib.hid (su_medadj h2 hs2 j (by omega) (by omega) hn (by have := HBN.out; omega))
    rw [HR2.out] at HC2
    dsimp only at HC2
    have HT2 := Lib.hid ht2
    clear h2 hs2 ht2
    go_wp2_with fail
    refine HC2.out.mono ?_
    rintro e w3 ⟨rfl, h2, hs2, ht2⟩
    have HC3 := Lib.hid (su_medadj h2 hs2 k (by omega) (by omega) hn (by have := HBN.out; omega))
    rw [HR3.out] at HC3
    dsimp only at HC3
    have HT3 := Lib.hid (HT2.out.trans ht2 (fun k hk => .inl hk))
    clear h2 hs2 ht2
    go_wp2_with fail
    refine HC3.out.mono ?_
    rintro e w4 ⟨rfl, h2, hs2, ht2⟩
    have HC4 := Lib.hid (su_median h2 hs2 r1 r2 r3 HBN.out.1.1 HBN.out.2.1.1 HBN.out.2.2.1 hn (by have := HBN.out; omega))
    rw [HR4.out] at HC4
    dsimp only at HC4
    have HT4 := Lib.hid (HT3.out.trans ht2 (fun k hk => .inl hk))
    clear h2 hs2 ht2
    go_wp2_with fail
    refine HC4.out.mono ?_
    rintro e w5 ⟨rfl, h2, hs2, ht2⟩
    have HE := Lib.hid (And.intro h2 (HBL.out.trans ((HT4.out.trans ht2 (fun k hk => .inl hk)).below (base := W.heap.size) (fun k hk => by rw [hk]; exact HSW.out) HBL.out.size)))
    have k0 := blk_cell hs2 0
    clear h2 hs2 ht2
    by_cases hs0 : s = 0
    · subst hs0
      go_wp2_with fail
      go_ret2
      exact ⟨rfl, HE.out⟩
    · by_cases hs12 : s = 12
      · subst hs12
        go_wp2_with fail
        go_ret2
        exact ⟨rfl, HE.out⟩
      · have HH := Lib.hid (show hintZ (if s = 0 then Sort.Hint.increasing else if s = 12 then .decreasing else .unknown) = 0 by rw [if_neg hs0, if_neg hs12]; rfl)
        have hd0 : ((s : Int) == 0) = false := by simp; omega
        have hd12 : ((s : Int) == 12) = false := by simp; omega
        go_wp2_with fail
        go_ret2
        exact ⟨by first | rfl | (rw [HH.out]; rfl) | (simp [hs0, hs12]; rfl), HE.out⟩
  · rw [if_neg h50]
    have HC := Lib.hid (su_median HSR.out HSB.out i j k (by omega) (by omega) (by omega) hn (by omega))
    obtain ⟨R, hR⟩ : ∃ R, Sort.median ltZ d i j k 0 = R := ⟨_, rfl⟩
    rw [hR] at HC ⊢
    obtain ⟨r, s⟩ := R
    dsimp only at HC ⊢
    clear hR
    have hl50 : l < 50 := by omega
    go_enter Try.func90, Try.ntmps90
    go_wp2_with fail
    clear hW1 hsb
    refine HC.out.mono ?_
    rintro e w2 ⟨rfl, h2, hs2, ht2⟩
    have HE := Lib.hid (And.intro h2 (HBL.out.trans (ht2.below (base := W.heap.size) (fun k hk => by rw [hk]; exact HSW.out) HBL.out.size)))
    have k0 := blk_cell hs2 0
    clear h2 hs2 ht2
    by_cases hs0 : s = 0
    · subst hs0
      go_wp2_with fail
      go_ret2
      exact ⟨rfl, HE.out⟩
    · by_cases hs12 : s = 12
      · subst hs12
        go_wp2_with fail
        go_ret2
        exact ⟨rfl, HE.out⟩
      · have HH := Lib.hid (show hintZ (if s = 0 then Sort.Hint.increasing else if s = 12 then .decreasing else .unknown) = 0 by rw [if_neg hs0, if_neg hs12]; rfl)
        have hd0 : ((s : Int) == 0) = false := by simp; omega
        have hd12 : ((s : Int) == 12) = false := by simp; omega
        go_wp2_with fail
        go_ret2
        exact ⟨by first | rfl | (rw [HH.out]; rfl) | (simp [hs0, hs12]; rfl), HE.out⟩
end
end Go.Proofs.Ytmbhicjjbgbneaa
