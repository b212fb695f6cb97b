/- decode's Start. -/
import Derived.Test.YtdfgmdmcdnnhfaaGreatDcE
namespace Go.Proofs.YtdfgmdmcdnnhfaaGreat
open Go.RowKit Go.Shelf Go.Proofs.YtdfgmdmcdnnhfaaGreatW.PrintWords Go.Proofs.YtdfgmdmcdnnhfaaGreatW.PrintLast Go.Proofs.YtdfgmdmcdnnhfaaGreatW.PrintMore
set_option linter.unusedVariables false
set_option linter.unusedSimpArgs false
set_option maxRecDepth 100000
attribute [local go_sem] gb_max2 gb_min2 gb_max_two gb_min_two gb_max_three gb_min_three run_cfg1 run_cfg2 run_cfg3

/-- A job's box at g. -/
def JB (g : Nat) (sd : Int) (x : Value) (most : Int) (W0 W : World) : Prop := W.cell? ⟨g, 0, none⟩ = some (.int .u64 sd) ∧ W.cell? ⟨g, 1, none⟩ = some x ∧ W.cell? ⟨g, 2, none⟩ = some (.int .i64 most) ∧ Hid (Below W0.heap.size W0 W)
theorem JB.step {g : Nat} {sd : Int} {x : Value} {most : Int} {W0 W W' : World} (h : JB g sd x most W0 W) (hb : Below W.heap.size W W') : JB g sd x most W0 W' := ⟨pw_cell_below hb h.1, pw_cell_below hb h.2.1, pw_cell_below hb h.2.2.1, Lib.hid (below_then h.2.2.2.out h.2.2.2.out.size hb)⟩
theorem JB.b {g : Nat} {sd : Int} {x : Value} {most : Int} {W0 W : World} (h : JB g sd x most W0 W) : Below W0.heap.size W0 W := h.2.2.2.out
theorem JB.re {g : Nat} {sd : Int} {x : Value} {most : Int} {W0 W : World} (h : JB g sd x most W0 W) : JB g sd x most W W := ⟨h.1, h.2.1, h.2.2.1, Lib.hid (Below.refl _ _)⟩
theorem bt_wide {a : Nat} {w1 w2 : World} {s p : Nat} {c : Cfg} {toks : List Int} (h : StG (FU (Bt a w1.heap.size) (Bt w1.heap.size w2.heap.size)) w2 s p c toks) (h1 : a ≤ w1.heap.size) (h2 : w1.heap.size ≤ w2.heap.size) : StG (Bt a w2.heap.size) w2 s p c toks :=
  h.wide (fun k hk => by
    rcases hk with hk | hk
    · exact ⟨hk.1, Nat.lt_of_lt_of_le hk.2 h2⟩
    · exact ⟨Nat.le_trans h1 hk.1, hk.2⟩) (fun k hk => hk.2)
def StartY (W : World) (p : Nat) (c : Cfg) (toks : List Int) (e : Ending) (w' : World) : Prop := ∃ s, e = .returned (.tuple #[.pointer (some ⟨s, 0, none⟩), .int .i64 0]) ∧ StG (Bt W.heap.size w'.heap.size) w' s p c toks ∧ Below W.heap.size W w'
def StartR (W : World) (p : Nat) (c : Cfg) (xs ys : List Int) (most : Int) (e : Ending) (w' : World) : Prop :=
  if Jok c xs most then
    if (ys.length : Int) > most ∨ (ys.length : Int) > 255 - (xs.length : Int) then FeedN 5 W e w'
    else if ∃ t ∈ ys, badT c t then FeedN 1 W e w' else StartY W p c (0 :: (xs ++ ys)) e w'
  else FeedN 1 W e w'
set_option maxHeartbeats 2000000 in
theorem dstart_any (W : World) (p : Nat) (c : Cfg) (hok : c.ok) (hMo : Mo W p c) (sd most : Int) (A B : Option Addr) (ca cb : Nat) (xs ys : List Int) (hx : (Kd.int .i64).C W A xs.length xs) (hy : (Kd.int .i64).C W B ys.length ys) :
    Calls Tryz.prog 22 #[.pointer (some ⟨p, 0, none⟩), .agg #[.int .u64 sd, .slice A xs.length ca, .int .i64 most], .slice B ys.length cb] W (StartR W p c xs ys most) := by
  have HMo := Lib.hid (fun (W' : World) (hb : Below W.heap.size W W') => hMo.below hb)
  have HOK := Lib.hid hok
  have HX := Lib.hid (fun (W' : World) (hb : Below W.heap.size W W') => Kd.C_below hx hb)
  have HY := Lib.hid (fun (W' : World) (hb : Below W.heap.size W W') => Kd.C_below hy hb)
  have HCV := Lib.hid (show c.v = .agg #[.int .u64 c.seed, .int .i64 c.vocab, .int .i64 c.dim, .int .i64 c.layers, .int .i64 c.top, .int .i64 c.heat] from rfl)
  obtain ⟨n, hn⟩ : ∃ n, xs.length = n := ⟨_, rfl⟩
  obtain ⟨m, hm⟩ : ∃ n, ys.length = n := ⟨_, rfl⟩
  have HN := Lib.hid hn
  have HM := Lib.hid hm
  have hm9 : m ≤ 9223372036854775807 := by rw [← hm]; exact hy.2.1
  have hn9 : n ≤ 9223372036854775807 := by rw [← hn]; exact hx.2.1
  rw [hn, hm]
  obtain ⟨W0, hW0⟩ : ∃ W0, W.alloc (.cells #[.int .u64 sd, .slice A n ca, .int .i64 most] 27) = W0 := ⟨_, rfl⟩
  obtain ⟨g, hg⟩ : ∃ g, W.heap.size = g := ⟨_, rfl⟩
  have hJ : JB g sd (.slice A n ca) most W W0 := by
    have h := heap_alloc_new W (.cells #[.int .u64 sd, .slice A n ca, .int .i64 most] 27)
    rw [hW0, hg] at h
    exact ⟨blk_cell h 0, blk_cell h 1, blk_cell h 2, Lib.hid (by rw [← hW0]; exact below_alloc (Below.refl _ W) _)⟩
  have HJ := Lib.hid hJ
  have HW := Lib.hid hW0
  have HG := Lib.hid hg
  clear hok hMo hx hy hn hm hW0 hg hJ
  obtain ⟨j0, j1, j2, -⟩ := id HJ.out
  go_enter Tryz.func22, Tryz.ntmps22
  go_wp2_with fail
  rw [HW.out]
  try rw [HG.out]
  refine (dnew_any W0 p c HOK.out (HMo.out _ HJ.out.b)).mono ?_
  unfold NewD
  rintro e w1 ⟨s, rfl, hst, hb⟩
  have HJ1 := Lib.hid (HJ.out.step hb)
  have HST := Lib.hid hst
  have HSZ := Lib.hid (show W.heap.size ≤ W0.heap.size from HJ.out.b.size)
  have HC := Lib.hid (config_any w1 p c (HMo.out _ HJ1.out.b))
  rw [HCV.out] at HC
  clear hst hb j0 j1 j2
  obtain ⟨j0, j1, j2, -⟩ := id HJ1.out
  have HMY := Lib.hid (fun (W' : World) (hb : Below w1.heap.size w1 W') => dmay_any c sd most A ca xs W' (HX.out W' (below_then HJ1.out.b HJ1.out.b.size hb)))
  rw [HCV.out, HN.out] at HMY
  have bD := below_drew (Below.refl w1.heap.size w1)
  have hS : JB g sd (.slice A n ca) most w1 w1.drew := HJ1.out.re.step bD
  clear bD
  by_cases hjk : Jok c xs most
  · have HJK := Lib.hid hjk
    rw [decide_eq_true hjk] at HMY
    clear hjk
    go_wp2_with fail
    go_region_held3 (fun w' => w'.cell? ⟨g, 0, none⟩ = some (.int .u64 sd) ∧ w'.cell? ⟨g, 1, none⟩ = some (.slice A n ca) ∧ w'.cell? ⟨g, 2, none⟩ = some (.int .i64 most) ∧ Hid (Below w1.heap.size w1 w'))
      (first | exact hS | exact JB.step (by assumption) (by assumption))
      (first
        | (go_at_call 26; refine (config_any _ p c (HMo.out _ (below_then HJ1.out.b HJ1.out.b.size (JB.b (by assumption))))).mono ?_; rw [HCV.out]; rintro e w2 ⟨rfl, hb2⟩)
        | (go_at_call 10; refine (HMY.out _ (JB.b (by assumption))).mono ?_; rintro e w3 ⟨rfl, hb3⟩))
    all_goals
      have HJ3 := Lib.hid (show JB g sd (.slice A n ca) most w1 w3 by assumption)
      have HST := Lib.hid (HST.out.below HJ3.out.b)
      have HB3 := Lib.hid (below_then HJ1.out.b HJ1.out.b.size HJ3.out.b)
      clear hS hb2 hb3 HC HMY j0 j1 j2
      obtain ⟨j0, j1, j2, -⟩ := id HJ3.out
    by_cases hbig : (m : Int) > most ∨ (m : Int) > 255 - (n : Int)
    · have HBG := Lib.hid hbig
      by_cases h1 : most < (m : Int)
      · have g1 : decide (most < (m : Int)) = true := decide_eq_true h1
        clear hbig
        go_wp2_with fail
        go_ret2
        unfold StartR FeedN
        rw [if_pos HJK.out, HM.out, HN.out, if_pos HBG.out]
        exact ⟨rfl, HB3.out⟩
      · have g1 : decide (most < (m : Int)) = false := decide_eq_false h1
        have g2 : decide (255 - (n : Int) < (m : Int)) = true := decide_eq_true (by omega)
        have hn3 : n < 256 := by have h := HJK.out.2.2.1; rw [HN.out] at h; exact h
        clear hbig
        go_wp2_with fail
        go_ret2
        unfold StartR FeedN
        rw [if_pos HJK.out, HM.out, HN.out, if_pos HBG.out]
        exact ⟨rfl, HB3.out⟩
    · have HBG := Lib.hid hbig
      have g1 : decide (most < (m : Int)) = false := decide_eq_false (by omega)
      have g2 : decide (255 - (n : Int) < (m : Int)) = false := decide_eq_false (by omega)
      have hn3 : n < 256 := by have h := HJK.out.2.2.1; rw [HN.out] at h; exact h
      have hnm : n + m ≤ 255 := by omega
      clear hbig
      go_wp2_with fail
      have hb4 := below_alloc (Below.refl w3.heap.size w3) (.cells #[.slice A n ca, .slice B m cb] 25)
      have HB4 := Lib.hid (below_then HB3.out HB3.out.size hb4)
      have HST := Lib.hid (HST.out.below hb4)
      have hcc := concat_any (w3.alloc (.cells #[.slice A n ca, .slice B m cb] 25)) w3.heap.size A B ca cb xs ys (by rw [HN.out, HM.out]; exact heap_alloc_new w3 _) (HX.out _ HB4.out) (HY.out _ HB4.out) (by rw [HN.out, HM.out]; omega)
      refine hcc.mono ?_
      rintro e w5 ⟨v5, rfl, ho5, hb5⟩
      obtain ⟨A9, k9, hv9, hk9, hC9⟩ := ho5.reads
      obtain ⟨zs, hzs⟩ : ∃ zs, xs ++ ys = zs := ⟨_, rfl⟩
      have hzl : zs.length = n + m := by rw [← hzs, List.length_append, HN.out, HM.out]
      rw [hzs] at hv9 hC9
      rw [hzl] at hv9
      subst hv9
      have HZ := Lib.hid hzs
      have HZL := Lib.hid hzl
      have HC9 := Lib.hid (fun (W' : World) (hb : Below w5.heap.size w5 W') => Kd.C_below hC9 hb)
      have HST := Lib.hid ((HST.out.below hb5).wide (F' := Bt W.heap.size w5.heap.size) (fun k hk => ⟨Nat.le_trans HSZ.out hk.1, by
        have h1 := hk.2
        have h2 := HJ3.out.b.size
        have h3 := hb5.size
        simp at h3
        omega⟩) (fun k hk => hk.2))
      have HB5 := Lib.hid (below_then HB4.out HB4.out.size hb5)
      obtain ⟨N, hNe⟩ : ∃ N, n + m = N := ⟨_, rfl⟩
      rw [hNe] at HZL
      rw [hNe]
      have hN5 : N ≤ 255 := by omega
      clear hb4 hcc ho5 hb5 hk9 hC9 hzs hzl j0 j1 j2 g1 g2 hNe
      go_wp2_with fail
      go_loopw [8, 9, 48] (fun x y q wr => ∃ (i s : Nat), x = .pointer (some ⟨s, 0, none⟩) ∧ y = .int .i64 0 ∧ q = .int .i64 i ∧ i ≤ N ∧ Hid (StG (Bt W.heap.size wr.heap.size) wr s p c (0 :: zs.take i)) ∧ Hid (∀ t ∈ zs.take i, ¬ badT c t) ∧ Hid (Below w5.heap.size w5 wr)) (fun _ _ q _ => N - (intOf q).toNat)
      case atStart => exact ⟨0, s, rfl, rfl, rfl, by omega, HST, Lib.hid (by simp), Lib.hid (Below.refl _ _)⟩
      case round =>
        obtain ⟨i, s, rfl, rfl, rfl, hi, HSi, HTi, HBi⟩ := hrel
        by_cases hiN : i < N
        · obtain ⟨b9, e9, q9⟩ := at_nat (HC9.out wr HBi.out) i (by rw [HZL.out]; exact hiN)
          subst e9
          have HTK := Lib.hid (show zs.take (i + 1) = zs.take i ++ [zs.getD i 0] by
            rw [List.take_succ_eq_append_getElem (by rw [HZL.out]; exact hiN), List.getD_eq_getElem?_getD, List.getElem?_eq_getElem (by rw [HZL.out]; exact hiN)]; rfl)
          have HIN := Lib.hid (show zs.getD i 0 ∈ zs by
            rw [List.getD_eq_getElem?_getD, List.getElem?_eq_getElem (by rw [HZL.out]; exact hiN)]; exact List.getElem_mem _)
          obtain ⟨t, ht⟩ : ∃ t, zs.getD i 0 = t := ⟨_, rfl⟩
          rw [ht] at q9 HTK HIN
          have htl : (0 :: zs.take i).length = i + 1 := by rw [List.length_cons, List.length_take, HZL.out]; omega
          have HWr := Lib.hid (below_then HB5.out HB5.out.size HBi.out)
          clear ht
          by_cases hbad : badT c t
          · have HBD := Lib.hid hbad
            have HFD := Lib.hid (dfeed_arg _ wr s p c (HMo.out _ HWr.out) _ HSi.out (by rw [htl]; omega) t (by unfold badT at hbad; omega))
            unfold FeedN at HFD
            clear hbad htl
            go_wp2_with fail
            refine HFD.out.mono ?_
            rintro e w6 ⟨rfl, hb⟩
            have HBE := Lib.hid (below_then HWr.out HWr.out.size hb)
            clear hb
            go_wp2_with fail
            go_ret2
            unfold StartR FeedN
            rw [if_pos HJK.out, HM.out, HN.out, if_neg HBG.out, if_pos (show ∃ t ∈ ys, badT c t from ⟨t, by
              have h := HIN.out
              rw [← HZ.out] at h
              rcases List.mem_append.1 h with h | h
              · exact absurd HBD.out (HJK.out.2.2.2 t h)
              · exact h, HBD.out⟩)]
            exact ⟨rfl, HBE.out⟩
          · have HFD := Lib.hid (dfeed_ok _ wr s p c HOK.out (HMo.out _ HWr.out) _ HSi.out (by rw [htl]; omega) (by rw [htl]; omega) t (by unfold badT at hbad; omega))
            have HT2 := Lib.hid (show ∀ u ∈ zs.take (i + 1), ¬ badT c u by
              intro u hu
              rw [HTK.out] at hu
              rcases List.mem_append.1 hu with hu | hu
              · exact HTi.out u hu
              · obtain rfl : u = t := by simpa using hu
                exact hbad)
            have HTE := Lib.hid (show (0 :: zs.take i) ++ [t] = 0 :: zs.take (i + 1) by rw [HTK.out]; rfl)
            rw [HTE.out] at HFD
            unfold FeedY at HFD
            clear hbad htl
            go_wp2_with fail
            refine HFD.out.mono ?_
            rintro e w6 ⟨s2, rfl, hst, hb⟩
            have HS2 := Lib.hid (bt_wide hst HWr.out.size hb.size)
            have HB2 := Lib.hid (below_then HBi.out HBi.out.size hb)
            clear hst hb
            go_wp2_with fail
            go_roundw
            case rel => exact ⟨i + 1, s2, rfl, rfl, by go_num, by omega, HS2, HT2, HB2⟩
            case measure => simp [intOf]; omega
        · have HE := Lib.hid (show zs.take i = zs from List.take_of_length_le (by rw [HZL.out]; omega))
          go_wp2_with fail
          go_ret2
          unfold StartR StartY
          rw [if_pos HJK.out, HM.out, HN.out, if_neg HBG.out, if_neg (show ¬ ∃ t ∈ ys, badT c t by
            rintro ⟨t, ht, hb⟩
            refine HTi.out t ?_ hb
            rw [HE.out, ← HZ.out]
            exact List.mem_append_right _ ht)]
          exact ⟨s, rfl, by rw [HZ.out, ← HE.out]; exact HSi.out, below_then HB5.out HB5.out.size HBi.out⟩
  · rw [decide_eq_false hjk] at HMY
    have HJK := Lib.hid hjk
    clear hjk
    go_wp2_with fail
    go_region_held3 (fun w' => w'.cell? ⟨g, 0, none⟩ = some (.int .u64 sd) ∧ w'.cell? ⟨g, 1, none⟩ = some (.slice A n ca) ∧ w'.cell? ⟨g, 2, none⟩ = some (.int .i64 most) ∧ Hid (Below w1.heap.size w1 w'))
      (first | exact hS | exact JB.step (by assumption) (by assumption))
      (first
        | (go_at_call 26; refine (config_any _ p c (HMo.out _ (below_then HJ1.out.b HJ1.out.b.size (JB.b (by assumption))))).mono ?_; rw [HCV.out]; rintro e w2 ⟨rfl, hb2⟩)
        | (go_at_call 10; refine (HMY.out _ (JB.b (by assumption))).mono ?_; rintro e w3 ⟨rfl, hb3⟩))
    all_goals
      have HB3 := Lib.hid (below_then HJ1.out.b HJ1.out.b.size (show JB g sd (.slice A n ca) most w1 w3 by assumption).b)
      go_wp2_with fail
      go_ret2
      unfold StartR FeedN
      rw [if_neg HJK.out]
      exact ⟨rfl, HB3.out⟩

end Go.Proofs.YtdfgmdmcdnnhfaaGreat
