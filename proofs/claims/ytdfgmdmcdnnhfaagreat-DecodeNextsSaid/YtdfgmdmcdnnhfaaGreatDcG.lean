/- decode's From, Ref. -/
import Derived.Test.YtdfgmdmcdnnhfaaGreatDcF
namespace Go.Proofs.YtdfgmdmcdnnhfaaGreat
open Go.RowKit Go.Shelf Go.Proofs.YtdfgmdmcdnnhfaaGreatW.PrintWords Go.Proofs.YtdfgmdmcdnnhfaaGreatW.PrintLast Go.Proofs.YtdfgmdmcdnnhfaaGreatW.PrintMore
set_option linter.unusedVariables false
set_option linter.unusedSimpArgs false
set_option maxRecDepth 100000
attribute [local go_sem] gb_max2 gb_min2 gb_max_two gb_min_two gb_max_three gb_min_three run_cfg1 run_cfg2 run_cfg3

/-- What follows a text. -/
def dOut (c : Cfg) (sd : Int) : Nat → List Int → List Int
  | 0, _ => []
  | r + 1, toks => if 256 ≤ toks.length then [] else if dNx c toks sd = 0 then [] else dNx c toks sd :: dOut c sd r (toks ++ [dNx c toks sd])
theorem dOut_succ (c : Cfg) (sd : Int) (r : Nat) (toks : List Int) : dOut c sd (r + 1) toks = if 256 ≤ toks.length then [] else if dNx c toks sd = 0 then [] else dNx c toks sd :: dOut c sd r (toks ++ [dNx c toks sd]) := rfl
theorem dOut_le (c : Cfg) (sd : Int) (r : Nat) (toks : List Int) : (dOut c sd r toks).length ≤ r := by
  induction r generalizing toks with
  | zero => exact Nat.le_refl _
  | succ r ih =>
    unfold dOut
    split
    · exact Nat.zero_le _
    · split
      · exact Nat.zero_le _
      · rw [List.length_cons]; have := ih (toks ++ [dNx c toks sd]); omega
theorem dOut_room (c : Cfg) (sd : Int) (r : Nat) (toks : List Int) (h : toks.length ≤ 256) : toks.length + (dOut c sd r toks).length ≤ 256 := by
  induction r generalizing toks with
  | zero => exact h
  | succ r ih =>
    unfold dOut
    split
    · exact h
    · split
      · exact h
      · have := ih (toks ++ [dNx c toks sd]) (by rw [List.length_append]; simp; omega)
        rw [List.length_append] at this
        rw [List.length_cons]
        simp at this
        omega
theorem snoc_rest {full R : List Int} {t : Int} {i : Nat} (h : full = full.take i ++ t :: R) (hi : i ≤ full.length) : full.take (i + 1) = full.take i ++ [t] ∧ i + 1 ≤ full.length ∧ full = full.take (i + 1) ++ R := by
  obtain ⟨B, hB⟩ : ∃ B, full.take i = B := ⟨_, rfl⟩
  have hl : B.length = i := by rw [← hB, List.length_take]; omega
  rw [hB] at h ⊢
  have e : full = (B ++ [t]) ++ R := by rw [List.append_assoc]; exact h
  have h1 : full.take (i + 1) = B ++ [t] := by
    rw [e]; exact List.take_left' (by rw [List.length_append, hl]; rfl)
  exact ⟨h1, by rw [e]; simp; omega, by rw [h1]; exact e⟩
def FromR (F : Nat → Prop) (W : World) (p : Nat) (c : Cfg) (toks out : List Int) (over : Bool) (e : Ending) (w' : World) : Prop := ∃ A k s, e = .returned (.tuple #[.slice A out.length k, .pointer (some ⟨s, 0, none⟩), .bool over]) ∧ Own w' W.heap.size 3 (.slice A out.length k) out ∧ StG (FU F (Bt W.heap.size w'.heap.size)) w' s p c (toks ++ out) ∧ Below W.heap.size W w'
def dOver (c : Cfg) (sd : Int) (rem lim : Nat) (toks : List Int) : Bool := decide ((dOut c sd rem toks).length < lim ∨ rem ≤ lim)
theorem dfrom_nil (W : World) (mv jv : Value) (sd : Int) (xv : Value) (most n lim : Int) (hj : jv = .agg #[.int .u64 sd, xv, .int .i64 most]) : Calls Tryz.prog 23 #[mv, jv, .pointer none, .int .i64 n, .int .i64 lim] W fun e w' => e = .returned (.tuple #[.slice none 0 0, .pointer none, .bool true]) ∧ Below W.heap.size W w' := by
  subst hj
  go_enter Tryz.func23, Tryz.ntmps23
  go_wp2_with fail
  refine (dlen_nil _).mono ?_
  rintro e w1 ⟨rfl, hw⟩
  replace hw := hw.symm
  subst hw
  go_wp2_with fail
  go_ret3
  exact ⟨rfl, below_alloc (Below.refl _ W) _⟩
set_option maxHeartbeats 2000000 in
theorem dfrom_any (F : Nat → Prop) (W : World) (s p : Nat) (c : Cfg) (hok : c.ok) (hMo : Mo W p c) (mv : Value) (sd most : Int) (A : Option Addr) (nx ca : Nat) (toks : List Int) (h : StG F W s p c toks) (h0 : 0 < toks.length) (h9 : toks.length ≤ 256) (n0 lim : Int) (hn0 : 0 ≤ n0) (hn9 : n0 ≤ 9223372036854775807) (hm9 : most ≤ 9223372036854775807) :
    Calls Tryz.prog 23 #[mv, .agg #[.int .u64 sd, .slice A nx ca, .int .i64 most], .pointer (some ⟨s, 0, none⟩), .int .i64 n0, .int .i64 lim] W (FromR F W p c toks ((dOut c sd (most - n0).toNat toks).take lim.toNat) (dOver c sd (most - n0).toNat lim.toNat toks)) := by
  obtain ⟨rem, hrem⟩ : ∃ r, (most - n0).toNat = r := ⟨_, rfl⟩
  have hr1 : ∀ i : Nat, i ≤ rem → (decide (n0 + (i : Int) < most) = decide (i < rem)) := fun i hi => by
    by_cases hc : i < rem
    · rw [decide_eq_true hc, decide_eq_true (by omega)]
    · rw [decide_eq_false hc, decide_eq_false (by omega)]
  have HR1 := Lib.hid hr1
  have HRM := Lib.hid hrem
  have HMo := Lib.hid (fun (W' : World) (hb : Below W.heap.size W W') => hMo.below hb)
  have HOK := Lib.hid hok
  have HTL := Lib.hid (And.intro h0 h9)
  rw [hrem]
  have hfl := dOut_le c sd rem toks
  have hfr := dOut_room c sd rem toks h9
  obtain ⟨full, hfull⟩ : ∃ f, dOut c sd rem toks = f := ⟨_, rfl⟩
  have HFU := Lib.hid hfull
  rw [hfull] at hfl hfr
  have HFL := Lib.hid hfl
  have HFR := Lib.hid hfr
  obtain ⟨W0, hW0⟩ : ∃ W0, W.alloc (.cells #[.int .u64 sd, .slice A nx ca, .int .i64 most] 27) = W0 := ⟨_, rfl⟩
  obtain ⟨g, hg⟩ : ∃ g, W.heap.size = g := ⟨_, rfl⟩
  have hJ : JB g sd (.slice A nx ca) most W W0 := by
    have h := heap_alloc_new W (.cells #[.int .u64 sd, .slice A nx ca, .int .i64 most] 27)
    rw [hW0, hg] at h
    exact ⟨blk_cell h 0, blk_cell h 1, blk_cell h 2, Lib.hid (by rw [← hW0]; exact below_alloc (Below.refl _ W) _)⟩
  have HJ := Lib.hid hJ
  have HW := Lib.hid hW0
  have HG := Lib.hid hg
  have HF := Lib.hid h.2
  have HS0 := Lib.hid (h.below hJ.b)
  have HL := Lib.hid (dlen_any F W0 s p c toks HS0.out)
  have z0 : ((toks.length : Int) == 0) = false := by rw [beq_eq_false_iff_ne]; omega
  obtain ⟨tl, htl⟩ : ∃ m, toks.length = m := ⟨_, rfl⟩
  rw [htl] at HL z0
  have HTE := Lib.hid htl
  have gn : decide (n0 < 0) = false := decide_eq_false (by omega)
  clear hok hMo h h0 h9 hrem hr1 hfl hfr hfull hW0 hg hJ htl
  go_enter Tryz.func23, Tryz.ntmps23
  go_wp2_with fail
  rw [HW.out]
  try rw [HG.out]
  refine HL.out.mono ?_
  rintro e w1 ⟨rfl, hw⟩
  replace hw := hw.symm
  subst hw
  go_wp2_with fail
  go_loopw [13, 2, 3] (fun v x q wr => ∃ (i s : Nat) (v' : Value) (G : Nat → Prop), v' = v ∧ x = .pointer (some ⟨s, 0, none⟩) ∧ q = .int .i64 (n0 + i) ∧ i ≤ rem ∧ i ≤ lim.toNat ∧ i ≤ full.length ∧ Hid (full = full.take i ++ dOut c sd (rem - i) (toks ++ full.take i)) ∧ Hid (StG G wr s p c (toks ++ full.take i)) ∧ Hid (Own wr W0.heap.size 3 v (full.take i)) ∧ Hid (∀ k, v.ownBlock = some k → ¬ G k) ∧ Hid (∀ k, G k → F k ∨ Bt W.heap.size wr.heap.size k) ∧ Hid (Below W0.heap.size W0 wr)) (fun _ _ q _ => (n0 + rem - intOf q).toNat)
  case atStart => exact ⟨0, s, _, F, rfl, rfl, by simp, by omega, by omega, by omega, Lib.hid (by rw [HFU.out.symm]; simp), by rw [List.take_zero, List.append_nil]; exact HS0, Lib.hid (Kd.R_nil _ _ _ _ _), Lib.hid (fun k hk => by simp [Value.ownBlock] at hk), Lib.hid (fun k hk => .inl hk), Lib.hid (Below.refl _ _)⟩
  case round =>
    obtain ⟨i, s, v, G, rfl, rfl, rfl, hi, hil, hif, HRS, HSi, HVi, HNi, HGi, HBi⟩ := hrel
    have HJr := Lib.hid (HJ.out.step HBi.out)
    obtain ⟨j0, j1, j2, -⟩ := id HJr.out
    have hcond := HR1.out i hi
    have hol : (full.take i).length = i := by rw [List.length_take]; omega
    obtain ⟨Av, cv, hv, -, -⟩ := HVi.out.reads
    rw [hol] at hv
    subst hv
    have HOL := Lib.hid hol
    clear hol
    by_cases hir : i < rem
    · have g1 : decide (n0 + (i : Int) < most) = true := by rw [hcond]; exact decide_eq_true hir
      clear hcond
      by_cases hlim : lim ≤ (i : Int)
      · have g2 : decide (lim ≤ (i : Int)) = true := decide_eq_true hlim
        have HE := Lib.hid (show i = lim.toNat by omega)
        have HOV := Lib.hid (show dOver c sd rem lim.toNat toks = false by
          unfold dOver; rw [HFU.out]; exact decide_eq_false (by omega))
        go_wp2_with fail
        go_ret3
        rw [HOV.out, HFU.out, ← HE.out]
        exact ⟨Av, cv, s, by rw [HOL.out]; rfl, by rw [HOL.out]; exact HVi.out.lower HJ.out.b.size, HSi.out.wide (F' := FU F (Bt W.heap.size wr.heap.size)) HGi.out (fun k hk => by
          rcases hk with hk | hk
          · exact Nat.lt_of_lt_of_le (HF.out k hk) HJr.out.b.size
          · exact hk.2), HJr.out.b⟩
      · have g2 : decide (lim ≤ (i : Int)) = false := decide_eq_false hlim
        have hr' : ∃ r, rem - i = r + 1 := ⟨rem - i - 1, by omega⟩
        obtain ⟨r, hr⟩ := hr'
        have htl : (toks ++ full.take i).length = tl + i := by rw [List.length_append, HOL.out, HTE.out]
        have h256 := HFR.out
        rw [HTE.out] at h256
        by_cases hfullT : 256 ≤ tl + i
        · have HNIL := Lib.hid (show dOut c sd (rem - i) (toks ++ full.take i) = [] by
            rw [hr, dOut_succ, if_pos (by rw [htl]; exact hfullT)])
          have HNX := Lib.hid (dnext_full G wr s p c _ HSi.out (by rw [htl]; exact hfullT) sd)
          have HE := Lib.hid (show full.take lim.toNat = full.take i by
            have h1 : full.length ≤ i := by
              have h := congrArg List.length HRS.out
              rw [HNIL.out, List.append_nil, List.length_take] at h; omega
            rw [List.take_of_length_le (by omega), List.take_of_length_le (by omega)])
          have HOV := Lib.hid (show dOver c sd rem lim.toNat toks = true by
            unfold dOver; rw [HFU.out]
            have h1 : full.length ≤ i := by
              have h := congrArg List.length HRS.out
              rw [HNIL.out, List.append_nil, List.length_take] at h; omega
            exact decide_eq_true (.inl (by omega)))
          clear hfullT hr htl h256
          go_wp2_with fail
          refine HNX.out.mono ?_
          rintro e wn ⟨rfl, hw⟩
          subst hw
          have HVN := HVi
          have HSN := HSi
          have HBN := Lib.hid (Below.refl wn.heap.size wn)
          go_wp2_with fail
          go_ret3
          rw [HOV.out, HFU.out, HE.out]
          exact ⟨Av, cv, s, by rw [HOL.out]; rfl, by rw [HOL.out]; exact HVN.out.lower HJ.out.b.size, HSN.out.wide (F' := FU F (Bt W.heap.size wn.heap.size)) (fun k hk => by
            rcases HGi.out k hk with hk | hk
            · exact .inl hk
            · exact .inr ⟨hk.1, Nat.lt_of_lt_of_le hk.2 HBN.out.size⟩) (fun k hk => by
            rcases hk with hk | hk
            · exact Nat.lt_of_lt_of_le (HF.out k hk) (Nat.le_trans HJr.out.b.size HBN.out.size)
            · exact hk.2), below_then HJr.out.b HJr.out.b.size HBN.out⟩
        · have HNX := Lib.hid (dnext_any G wr s p c HOK.out (HMo.out _ HJr.out.b) _ HSi.out (by rw [htl]; have := HTL.out.1; rw [HTE.out] at this; omega) (by rw [htl]; omega) sd)
          have HD := Lib.hid (show dOut c sd (rem - i) (toks ++ full.take i) = if dNx c (toks ++ full.take i) sd = 0 then [] else dNx c (toks ++ full.take i) sd :: dOut c sd r (toks ++ full.take i ++ [dNx c (toks ++ full.take i) sd]) by
            rw [hr, dOut_succ, if_neg (by rw [htl]; exact hfullT)])
          obtain ⟨t, ht⟩ : ∃ t, dNx c (toks ++ full.take i) sd = t := ⟨_, rfl⟩
          rw [ht] at HNX HD
          have HTLN := Lib.hid htl
          have HFT := Lib.hid hfullT
          have HRR := Lib.hid hr
          clear ht htl hfullT hr h256
          by_cases ht0 : t = 0
          · have HNIL := Lib.hid (show dOut c sd (rem - i) (toks ++ full.take i) = [] by rw [HD.out, if_pos ht0])
            subst ht0
            have HE := Lib.hid (show full.take lim.toNat = full.take i by
              have h1 : full.length ≤ i := by
                have h := congrArg List.length HRS.out
                rw [HNIL.out, List.append_nil, List.length_take] at h; omega
              rw [List.take_of_length_le (by omega), List.take_of_length_le (by omega)])
            have HOV := Lib.hid (show dOver c sd rem lim.toNat toks = true by
              unfold dOver; rw [HFU.out]
              have h1 : full.length ≤ i := by
                have h := congrArg List.length HRS.out
                rw [HNIL.out, List.append_nil, List.length_take] at h; omega
              exact decide_eq_true (.inl (by omega)))
            go_wp2_with fail
            refine HNX.out.mono ?_
            rintro e wn ⟨rfl, hb⟩
            have HBN := Lib.hid hb
            have HVN := Lib.hid (HVi.out.below hb)
            have HSN := Lib.hid (HSi.out.below hb)
            clear hb
            go_wp2_with fail
            go_ret3
            rw [HOV.out, HFU.out, HE.out]
            exact ⟨Av, cv, s, by rw [HOL.out]; rfl, by rw [HOL.out]; exact HVN.out.lower HJ.out.b.size, HSN.out.wide (F' := FU F (Bt W.heap.size wn.heap.size)) (fun k hk => by
              rcases HGi.out k hk with hk | hk
              · exact .inl hk
              · exact .inr ⟨hk.1, Nat.lt_of_lt_of_le hk.2 HBN.out.size⟩) (fun k hk => by
              rcases hk with hk | hk
              · exact Nat.lt_of_lt_of_le (HF.out k hk) (Nat.le_trans HJr.out.b.size HBN.out.size)
              · exact hk.2), below_then HJr.out.b HJr.out.b.size HBN.out⟩
          · have HRS2 := Lib.hid (show full = full.take i ++ t :: dOut c sd r (toks ++ full.take i ++ [t]) by
              have h := HRS.out
              rw [HD.out, if_neg ht0] at h
              exact h)
            obtain ⟨hs1, hs2, hs3⟩ := snoc_rest HRS2.out hif
            have HTK := Lib.hid hs1
            have HR3 := Lib.hid (show full = full.take (i + 1) ++ dOut c sd (rem - (i + 1)) (toks ++ full.take (i + 1)) by
              rw [show rem - (i + 1) = r by have := HRR.out; omega, hs1, ← List.append_assoc]
              rw [hs1] at hs3
              exact hs3)
            have zt : (t == 0) = false := by rw [beq_eq_false_iff_ne]; exact ht0
            have HA := Lib.hid (fun (W' : World) (hb : Below wr.heap.size wr W') => dadd_any G W' s p c HOK.out (HMo.out _ (below_then HJr.out.b HJr.out.b.size hb)) _ (HSi.out.below hb) (by rw [HTLN.out]; have := HFT.out; omega) t)
            have HLV := Lib.hid (fun k (hk : (Value.slice Av i cv).ownBlock = some k) => own_block_lt HVi.out k hk)
            unfold AddR at HA
            clear hs1 hs3 ht0
            go_wp2_with fail
            refine HNX.out.mono ?_
            rintro e wn ⟨rfl, hb⟩
            have HBN := Lib.hid hb
            have HAN := Lib.hid (HA.out wn hb)
            clear hb
            go_wp2_with fail
            refine HAN.out.mono ?_
            rintro e w7 ⟨s7, rfl, hs7, hb7⟩
            have HS7 := Lib.hid hs7
            have HB7 := Lib.hid (below_then HBN.out HBN.out.size hb7)
            have HV7 := Lib.hid (HVi.out.below HB7.out)
            have HBW := Lib.hid (below_then HBi.out HBi.out.size HB7.out)
            have HLW := Lib.hid (And.intro HBN.out.size hb7.size)
            clear hs7 hb7
            go_wp2_with (at_builtin; refine own_append_at (w0 := W0) w7 _ W0.heap.size rfl _ _ 25 3 rfl Tryz.underlying25 infoInt _ _ t w7.heap.size rfl rfl rfl rfl HV7.out HBW.out HBW.out.size (by rw [HOL.out]; have := HFL.out; have := HFR.out; omega) ?_; intro v5 w5 ho5 hb5 hg5 hat5; rw [← HTK.out] at ho5; have HO5 := Lib.hid ho5; have HB5 := Lib.hid hb5; have HNV := Lib.hid (show ∀ k, (Value.slice Av i cv).ownBlock = some k → ¬ FU G (Bt wn.heap.size w7.heap.size) k from fun k hk hf => by
              rcases hf with hf | hf
              · exact HNi.out k hk hf
              · have h1 := HLV.out k hk; have h2 := hf.1; have h3 := HLW.out.1; omega); have HS5 := Lib.hid (HS7.out.grown hg5 (fun k hf he => HNV.out k he.symm hf)); have HN5 := Lib.hid (show ∀ k, v5.ownBlock = some k → ¬ FU G (Bt wn.heap.size w7.heap.size) k from fun k hk hf => by
              rcases hat5 with h | ⟨b, h, hle⟩
              · exact HNV.out k (h ▸ hk) hf
              · rw [h] at hk; injection hk with hk; have := HS7.out.2 k hf; omega); have HG5 := Lib.hid hg5.size; clear ho5 hb5 hg5 hat5)
            have HTS := Lib.hid (show toks ++ full.take i ++ [t] = toks ++ full.take (i + 1) by rw [HTK.out, List.append_assoc])
            rw [HTS.out] at HS5
            have e1 : n0 + ((i + 1 : Nat) : Int) = n0 + (i : Int) + 1 := by omega
            have hw : wrap64 (n0 + (i : Int) + 1) = n0 + (i : Int) + 1 := by have h1 := of_decide_eq_true g1; unfold wrap64; omega
            go_roundw
            case rel => exact ⟨i + 1, s7, _, _, rfl, rfl, by rw [e1, hw], by omega, by omega, hs2, HR3, HS5, HO5, HN5, Lib.hid (fun k hk => by
              rcases hk with hk | hk
              · rcases HGi.out k hk with hk | hk
                · exact .inl hk
                · exact .inr ⟨hk.1, by have h1 := hk.2; have h2 := HLW.out.1; have h3 := HLW.out.2; have h4 := HG5.out; omega⟩
              · exact .inr ⟨by have h1 := hk.1; have h2 := HLW.out.1; have h3 := HJr.out.b.size; omega, by have h1 := hk.2; have h4 := HG5.out; omega⟩), HB5⟩
            case measure =>
              simp [intOf, hw]; omega
    · have g1 : decide (n0 + (i : Int) < most) = false := by rw [hcond]; exact decide_eq_false hir
      clear hcond
      have HE := Lib.hid (show full.take lim.toNat = full.take i by rw [List.take_of_length_le (by have := HFL.out; omega), List.take_of_length_le (by have := HFL.out; omega)])
      have HOV := Lib.hid (show dOver c sd rem lim.toNat toks = true by
        unfold dOver; rw [HFU.out]; exact decide_eq_true (.inr (by omega)))
      go_wp2_with fail
      go_ret3
      rw [HOV.out, HFU.out, HE.out]
      exact ⟨Av, cv, s, by rw [HOL.out]; rfl, by rw [HOL.out]; exact HVi.out.lower HJ.out.b.size, HSi.out.wide (F' := FU F (Bt W.heap.size wr.heap.size)) HGi.out (fun k hk => by
        rcases hk with hk | hk
        · exact Nat.lt_of_lt_of_le (HF.out k hk) HJr.out.b.size
        · exact hk.2), HJr.out.b⟩

end Go.Proofs.YtdfgmdmcdnnhfaaGreat
