/- law 10's alive, and what Through makes, plainly. -/
import Derived.Test.YtdfgmdmcdnnhfaaAtU
import Derived.Test.YtdfgmdmcdnnhfaaAtV
import Derived.Test.YtdfgmdmcdnnhfaaMoN
namespace Go.Proofs.Ytdfgmdmcdnnhfaa
open Go.RowKit Go.Shelf Go.Proofs.YtdfgmdmcdnnhfaaW.PrintWords Go.Proofs.YtdfgmdmcdnnhfaaW.PrintLast Go.Proofs.YtdfgmdmcdnnhfaaW.PrintMore
set_option linter.unusedVariables false
set_option linter.unusedSimpArgs false
set_option maxRecDepth 100000

theorem vadd_len' (xs ys : List Int) : (vadd xs ys).length = min xs.length ys.length := by unfold vadd; rw [tab_len]
theorem aX_dim (c : Cfg) (l : Int) (hl : c.in_ l) (x : List Int) (ks vs : List (List Int)) (hx : x.length = c.dim.toNat) : (aX c l x ks vs).length = c.dim.toNat := by
  unfold aX aH
  rw [vadd_len', vadd_len', vmul_len, vmul_len, mrows_in c l 3 hl (by omega) (by omega), mrows_in c l 5 hl (by omega) (by omega), hx]; omega
theorem aThru_dim (c : Cfg) (P : List Pl) (x : List Int) (hx : x.length = c.dim.toNat) (n : Nat) (hn : n ≤ c.layers.toNat) : (aThru c P x n).1.length = c.dim.toNat := by
  induction n with
  | zero => exact hx
  | succ n ih => exact aX_dim c n ⟨by omega, by omega⟩ _ _ _ (ih (by omega))
theorem mtok_dim (c : Cfg) (t : Int) (h0 : 0 ≤ t) (h1 : t < c.vocab) : (mtok c t).length = c.dim.toNat := by
  unfold mtok; rw [if_pos ⟨h0, h1⟩, mrow_len]
theorem aThru_short (c : Cfg) (hok : c.ok) (P : List Pl) (x : List Int) (n : Nat) : Short (aThru c P x n).2.1 ∧ Short (aThru c P x n).2.2 := by
  have key : ∀ (xss : List (List Int)) (y : List Int), Short xss → y.length ≤ 4096 → Short (xss ++ [y]) := fun xss y h hy => by
    have := short_snoc xss xss.length y h hy
    rwa [List.take_length] at this
  induction n with
  | zero => exact ⟨by intro j; show (([] : List (List Int)).getD j []).length ≤ 4096; simp, by intro j; show (([] : List (List Int)).getD j []).length ≤ 4096; simp⟩
  | succ n ih =>
    exact ⟨key _ _ ih.1 (Nat.le_trans (vmul_le c hok _ _ _) (by omega)), key _ _ ih.2 (Nat.le_trans (vmul_le c hok _ _ _) (by omega))⟩
theorem plok_snoc (c : Cfg) (hok : c.ok) (P Q : List Pl) (x : List Int) (h : PlOk c.layers.toNat Q) : PlOk c.layers.toNat (Q ++ [(aThru c P x c.layers.toNat).2]) := by
  intro p hp
  rcases List.mem_append.1 hp with hp | hp
  · exact h p hp
  · obtain rfl : p = (aThru c P x c.layers.toNat).2 := by simpa using hp
    have h1 := aThru_k c P x c.layers.toNat
    have h2 := aThru_short c hok P x c.layers.toNat
    exact ⟨h1.1, h1.2, h2.1, h2.2⟩
theorem plok_nil (L : Nat) : PlOk L [] := fun _ h => absurd h (by simp)

def c10 : Cfg := ⟨5, 4, 2, 2, 1, 0⟩
theorem c10_ok : c10.ok := by unfold Cfg.ok c10; decide
theorem c10_v : c10.v = .agg #[.int .u64 5, .int .i64 4, .int .i64 2, .int .i64 2, .int .i64 1, .int .i64 0] := rfl
set_option maxHeartbeats 1000000 in
theorem alive10_any (W : World) : Calls Try.prog 20 #[] W fun e w' => e = .returned (.bool true) ∧ Below W.heap.size W w' := by
  have HNW := Lib.hid (fun W' => new_ok c10 c10_ok W')
  rw [c10_v] at HNW
  go_enter Try.func20, Try.ntmps20
  go_wp2_with fail
  refine (small_any _).mono ?_
  rintro e w1 ⟨rfl, hb⟩
  have HB := Lib.hid hb
  clear hb
  go_wp2_with fail
  refine (HNW.out w1).mono ?_
  unfold NewYes
  rintro e w2 ⟨p, rfl, hM, hb⟩
  have HMo := Lib.hid hM
  have HB := Lib.hid (below_then HB.out HB.out.size hb)
  clear hM hb
  go_wp2_with fail
  refine (anewG_any 2 w2).mono ?_
  rintro e w3 ⟨q0, rfl, hm, hb⟩
  have HM0 := Lib.hid (show MemG _ w3 q0 c10.layers [] from hm)
  have HMo := Lib.hid (HMo.out.below hb)
  have HB := Lib.hid (below_then HB.out HB.out.size hb)
  clear hm hb
  go_wp2_with fail
  refine (token_any w3 p c10 c10_ok HMo.out 1).mono ?_
  unfold RowR
  rintro e w4 ⟨v4, rfl, ho, hb⟩
  have h2 := mtok_dim c10 1 (by decide) (by decide)
  obtain ⟨X, hX⟩ : ∃ X, mtok c10 1 = X := ⟨_, rfl⟩
  rw [hX] at ho h2
  obtain ⟨A1, k1, rfl, hk1, hC1⟩ := ho.reads
  have HC1 := Lib.hid hC1
  have H2 := Lib.hid h2
  have HM0 := Lib.hid (HM0.out.below hb)
  have HMo := Lib.hid (HMo.out.below hb)
  have HB := Lib.hid (below_then HB.out HB.out.size hb)
  have HT := Lib.hid (thru_same w4 p c10 c10_ok HMo.out _ q0 [] HM0.out (plok_nil _) (by simp) A1 k1 X HC1.out hk1 (by rw [H2.out]; decide))
  have HD1 := Lib.hid (aThru_dim c10 [] X H2.out c10.layers.toNat (Nat.le_refl _))
  have HP1 := Lib.hid (plok_snoc c10 c10_ok [] [] X (plok_nil _))
  obtain ⟨T, hT⟩ : ∃ T, aThru c10 [] X c10.layers.toNat = T := ⟨_, rfl⟩
  rw [hT] at HT HD1 HP1
  obtain ⟨X1, p1⟩ := T
  dsimp only at HT HD1 HP1
  rw [List.nil_append] at HT HP1
  have hs1 : [p1].length = 1 := rfl
  obtain ⟨P1, hP1⟩ : ∃ P1, [p1] = P1 := ⟨_, rfl⟩
  rw [hP1] at HT HP1 hs1
  have HS1 := Lib.hid hs1
  have HP1' := Lib.hid hP1
  clear ho hk1 hC1 hb h2 hX hT hs1 hP1
  unfold ThruR at HT
  go_wp2_with fail
  refine HT.out.mono ?_
  rintro e w5 ⟨A2, k2, q1, rfl, ho, hm, hb⟩
  have HM1 := Lib.hid hm
  have HMo := Lib.hid (HMo.out.below hb)
  have HB := Lib.hid (below_then HB.out HB.out.size hb)
  have hd := HD1.out
  rw [show c10.dim.toNat = 2 from rfl] at hd
  rw [hd]
  clear ho hm hb hd HM0 HT
  go_wp2_with fail
  refine (token_any w5 p c10 c10_ok HMo.out 2).mono ?_
  unfold RowR
  rintro e w6 ⟨v6, rfl, ho, hb⟩
  have h2 := mtok_dim c10 2 (by decide) (by decide)
  obtain ⟨Y, hY⟩ : ∃ X, mtok c10 2 = X := ⟨_, rfl⟩
  rw [hY] at ho h2
  obtain ⟨A3, k3, rfl, hk3, hC3⟩ := ho.reads
  have HC3 := Lib.hid hC3
  have HY2 := Lib.hid h2
  have HM1 := Lib.hid (HM1.out.below hb)
  have HMo := Lib.hid (HMo.out.below hb)
  have HB := Lib.hid (below_then HB.out HB.out.size hb)
  have HT := Lib.hid (thru_same w6 p c10 c10_ok HMo.out _ q1 P1 HM1.out HP1.out (by rw [HS1.out]; omega) A3 k3 Y HC3.out hk3 (by rw [HY2.out]; decide))
  have HD2 := Lib.hid (aThru_dim c10 P1 Y HY2.out c10.layers.toNat (Nat.le_refl _))
  have HP2 := Lib.hid (plok_snoc c10 c10_ok P1 P1 Y HP1.out)
  obtain ⟨T, hT⟩ : ∃ T, aThru c10 P1 Y c10.layers.toNat = T := ⟨_, rfl⟩
  rw [hT] at HT HD2 HP2
  obtain ⟨Y1, p2⟩ := T
  dsimp only at HT HD2 HP2
  have hs2 : (P1 ++ [p2]).length = 2 := by rw [List.length_append, HS1.out]; rfl
  have ht2 : (P1 ++ [p2]).take (min (max (1 : Int) 0) (P1 ++ [p2]).length).toNat = P1 := by
    rw [hs2]; show (P1 ++ [p2]).take 1 = P1
    rw [← HS1.out, List.take_left']; rfl
  obtain ⟨P2, hP2⟩ : ∃ P2, P1 ++ [p2] = P2 := ⟨_, rfl⟩
  rw [hP2] at HT HP2 hs2 ht2
  have HS2 := Lib.hid hs2
  have HT2 := Lib.hid ht2
  clear ho hk3 hC3 hb h2 hY hT hs2 hP2 ht2
  unfold ThruR at HT
  go_wp2_with fail
  refine HT.out.mono ?_
  rintro e w7 ⟨A4, k4, q2, rfl, ho, hm, hb⟩
  have HM2 := Lib.hid hm
  have HM1 := Lib.hid (HM1.out.below hb)
  have HB := Lib.hid (below_then HB.out HB.out.size hb)
  have hd := HD2.out
  rw [show c10.dim.toNat = 2 from rfl] at hd
  rw [hd]
  clear ho hm hb hd HT HMo
  have HL1 := Lib.hid (alen_any w7 q1 c10.layers P1 HM1.out.mem)
  have HL2 := Lib.hid (alen_any w7 q2 c10.layers P2 HM2.out.mem)
  have HY2' := Lib.hid (alay_any w7 q2 c10.layers P2 HM2.out.mem)
  rw [HS1.out] at HL1
  rw [HS2.out] at HL2
  go_wp2_with fail
  refine HL1.out.mono ?_
  rintro e w8 ⟨rfl, hw⟩
  replace hw := hw.symm
  subst hw
  go_wp2_with fail
  refine HL2.out.mono ?_
  rintro e w8 ⟨rfl, hw⟩
  replace hw := hw.symm
  subst hw
  go_wp2_with fail
  refine HY2'.out.mono ?_
  rintro e w8 ⟨rfl, hw⟩
  replace hw := hw.symm
  subst hw
  have hl := show c10.layers = 2 from rfl
  rw [hl]
  clear hl
  go_wp2_with fail
  refine (acut_any w7 q2 c10.layers 1 P2 HM2.out.mem (by rw [HS2.out]; omega)).mono ?_
  unfold CutP
  rw [HT2.out]
  rintro e w8 ⟨q3, rfl, hm, hb⟩
  have HM3 := Lib.hid hm
  have HM1 := Lib.hid (HM1.out.below hb)
  have HM2 := Lib.hid (HM2.out.below hb)
  have HB := Lib.hid (below_then HB.out HB.out.size hb)
  have HSA := Lib.hid (asame_any w8 q3 q1 c10.layers c10.layers _ _ P1 P1 HM3.out HM1.out.mem HP1.out HP1.out (by decide) (by decide) (by rw [HS1.out]; omega) (by rw [HS1.out]; omega))
  rw [decide_eq_true (show c10.layers = c10.layers ∧ P1 = P1 from ⟨rfl, rfl⟩)] at HSA
  clear hm hb
  go_wp2_with fail
  refine HSA.out.mono ?_
  rintro e w9 ⟨rfl, hb⟩
  have HM1 := Lib.hid (HM1.out.below hb)
  have HM2 := Lib.hid (HM2.out.below hb)
  have HB := Lib.hid (below_then HB.out HB.out.size hb)
  have HSB := Lib.hid (asame_any w9 q2 q1 c10.layers c10.layers _ _ P2 P1 HM2.out.mem HM1.out.mem HP2.out HP1.out (by decide) (by decide) (by rw [HS2.out]; omega) (by rw [HS1.out]; omega))
  rw [decide_eq_false (show ¬ (c10.layers = c10.layers ∧ P2 = P1) from fun h => by have h1 := HS1.out; rw [← h.2, HS2.out] at h1; cases h1)] at HSB
  clear hb HSA
  go_wp2_with fail
  refine HSB.out.mono ?_
  rintro e w10 ⟨rfl, hb⟩
  have HB := Lib.hid (below_then HB.out HB.out.size hb)
  clear hb HSB
  go_wp2_with fail
  go_ret
  exact ⟨rfl, HB.out⟩

end Go.Proofs.Ytdfgmdmcdnnhfaa
