/- decode's State: Len, Tokens, add. -/
import Derived.Test.YtdfgmdmcdnnhfaaGreatDcA
namespace Go.Proofs.YtdfgmdmcdnnhfaaGreat
open Go.RowKit Go.Shelf Go.Proofs.YtdfgmdmcdnnhfaaGreatW.PrintWords Go.Proofs.YtdfgmdmcdnnhfaaGreatW.PrintLast Go.Proofs.YtdfgmdmcdnnhfaaGreatW.PrintMore
set_option linter.unusedVariables false
set_option linter.unusedSimpArgs false
set_option maxRecDepth 100000
attribute [local go_sem] gb_max2 gb_min2 gb_max_two gb_min_two gb_max_three gb_min_three run_cfg1 run_cfg2 run_cfg3

theorem dlen_any (F : Nat → Prop) (W : World) (s p : Nat) (c : Cfg) (toks : List Int) (h : StG F W s p c toks) : Calls Tryz.prog 14 #[.pointer (some ⟨s, 0, none⟩)] W fun e w' => e = .returned (.int .i64 toks.length) ∧ w' = W := by
  obtain ⟨At, ct, Ao, co, q, h1, h2, hh, hC, hR, hM⟩ := h.at_
  have k1 := blk_cell hh 1
  obtain ⟨n, hn⟩ : ∃ n, toks.length = n := ⟨_, rfl⟩
  rw [hn] at k1 ⊢
  clear h hh hC hR hM h1 h2 hn
  go_enter Tryz.func14, Tryz.ntmps14
  go_wp2_with fail
  go_ret
  exact ⟨rfl, rfl⟩
theorem dlen_nil (W : World) : Calls Tryz.prog 14 #[.pointer none] W fun e w' => e = .returned (.int .i64 0) ∧ w' = W := by
  go_enter Tryz.func14, Tryz.ntmps14
  go_wp2_with fail
  go_ret
  exact ⟨rfl, rfl⟩
theorem iclone_any (A : Option Addr) (c : Nat) (xs : List Int) (w : World) (hx : (Kd.int .i64).C w A xs.length xs) (hc : xs.length ≤ c) (hn : xs.length ≤ 1000000) :
    Calls Tryz.prog 29 #[.slice A xs.length c] w fun e w' => ∃ v, e = .returned v ∧ (Kd.int .i64).R 3 w' w.heap.size (fun _ => True) v xs ∧ Below w.heap.size w w' := by
  cases A with
  | none =>
    have h0 : xs = [] := by
      cases xs with
      | nil => rfl
      | cons x l => obtain ⟨a, h, _⟩ := at_nat hx 0 (by simp); simp at h
    subst h0
    have he := fun W : World => Lib.run_eql_slice_nil (P := Tryz.prog) W 25 3 none 0 c 0 0 Tryz.underlying25
    clear hx
    go_enter Tryz.func29, Tryz.ntmps29
    go_wp2
    go_ret
    exact ⟨_, rfl, Kd.R_nil _ _ _ _ _, Below.refl _ _⟩
  | some a =>
    have HX := Lib.hid (Kd.C_below hx ((Below.refl _ w).alloc (Nat.le_refl _) (.cells #[] 3)))
    have HO := Lib.hid (R_empty w .i64 w.heap.size 3 (Nat.le_refl _))
    have HB := Lib.hid ((Below.refl _ w).alloc (Nat.le_refl _) (.cells #[] 3))
    clear hx
    have he := fun W : World => Lib.run_eql_slice_nil (P := Tryz.prog) W 25 3 (some a) xs.length c 0 0 Tryz.underlying25
    go_enter Tryz.func29, Tryz.ntmps29
    go_wp2_with (at_builtin; refine Kd.R_append_row (w0 := w) (Value.int .i64) 0 (h1 := fun _ => rfl) w.heap.size rfl _ _ 25 3 (.int .i64 0) 8 rfl Tryz.underlying25 infoInt rfl (by decide) _ [] xs (some a) xs.length c (fun _ => True) rfl rfl (fun _ _ => trivial) HO.out HX.out HB.out (by simp) (by simp; omega) ?_; intro v1 w1 hr hb hg hat)
    go_ret
    exact ⟨_, rfl, hr, hb⟩
theorem dtoks_nil (W : World) : Calls Tryz.prog 16 #[.pointer none] W fun e w' => e = .returned (.slice none 0 0) ∧ w' = W := by
  go_enter Tryz.func16, Tryz.ntmps16
  go_wp2_with fail
  go_ret
  exact ⟨rfl, rfl⟩
theorem dtoks_any (F : Nat → Prop) (W : World) (s p : Nat) (c : Cfg) (toks : List Int) (h : StG F W s p c toks) (hl : toks.length ≤ 1000000) : Calls Tryz.prog 16 #[.pointer (some ⟨s, 0, none⟩)] W fun e w' => ∃ A k, e = .returned (.slice A toks.length k) ∧ Own w' W.heap.size 3 (.slice A toks.length k) toks ∧ Below W.heap.size W w' := by
  obtain ⟨At, ct, Ao, co, q, h1, h2, hh, hC, hR, hM⟩ := h.at_
  have k1 := blk_cell hh 1
  have HCL := Lib.hid (iclone_any At ct toks W hC h1 hl)
  obtain ⟨n, hn⟩ : ∃ n, toks.length = n := ⟨_, rfl⟩
  have HN := Lib.hid hn
  rw [hn] at k1 HCL
  clear h hh hC hR hM h1 h2 hn
  go_enter Tryz.func16, Tryz.ntmps16
  go_wp2_with fail
  refine HCL.out.mono ?_
  rintro e w' ⟨v, rfl, ho, hb⟩
  obtain ⟨A, k, hv, -, -⟩ := Kd.R_reads ho
  subst hv
  have HO := Lib.hid ho
  have HB := Lib.hid hb
  clear ho hb
  go_wp2_with fail
  go_ret
  exact ⟨A, k, rfl, HO.out, HB.out⟩

theorem cutIn (A : Option Addr) (n c : Nat) (j : Nat) (h : j ≤ c) (W : World) : (Instr.slice 25 (.slice A n c) none (some (.int .i64 j)) (some (.int .i64 j))).run Tryz.prog W = .ok (.slice A j j) W := by
  obtain ⟨i, hi, _, hs, _⟩ := info_parts infoInt
  have hel : Tryz.prog.elem 25 = 3 := by simp [Program.elem, Tryz.underlying25]
  have hu : Tryz.prog.underlying 25 = some (.slice (Tryz.prog.elem 25)) := by rw [hel]; exact Tryz.underlying25
  have ha : (A.map fun x => x.add 0) = A := by cases A <;> simp [Addr.add]
  rw [run_slice_hm W 25 A n c hu .i64 .i64 j j (by omega) (by omega) (by omega), hel]
  simp [sizeOf, typeInfo, hi, sliced, Result.andThen, ha]
theorem cutRw (A : Option Addr) (n c : Nat) (j : Nat) (h : j ≤ c) (W : World) : (Instr.slice 54 (.slice A n c) none (some (.int .i64 j)) (some (.int .i64 j))).run Tryz.prog W = .ok (.slice A j j) W := by
  obtain ⟨i, hi, _, hs, _⟩ := info_parts infoRowT
  have hel : Tryz.prog.elem 54 = 55 := by simp [Program.elem, Tryz.underlying54]
  have hu : Tryz.prog.underlying 54 = some (.slice (Tryz.prog.elem 54)) := by rw [hel]; exact Tryz.underlying54
  have ha : (A.map fun x => x.add 0) = A := by cases A <;> simp [Addr.add]
  rw [run_slice_hm W 54 A n c hu .i64 .i64 j j (by omega) (by omega) (by omega), hel]
  simp [sizeOf, typeInfo, hi, sliced, Result.andThen, ha]
/-- The state's cells, in a drawn region. -/
def SX (W : World) (s : Nat) (a b c d : Value) (w : World) : Prop := w.cell? ⟨s, 0, none⟩ = some a ∧ w.cell? ⟨s, 1, none⟩ = some b ∧ w.cell? ⟨s, 2, none⟩ = some c ∧ w.cell? ⟨s, 3, none⟩ = some d ∧ Hid (Below W.heap.size W w)
theorem SX.step {W : World} {s : Nat} {a b c d : Value} {w w1 : World} (h : SX W s a b c d w) (hb : Below w.heap.size w w1) : SX W s a b c d w1 := ⟨pw_cell_below hb h.1, pw_cell_below hb h.2.1, pw_cell_below hb h.2.2.1, pw_cell_below hb h.2.2.2.1, Lib.hid (below_then h.2.2.2.2.out h.2.2.2.2.out.size hb)⟩
theorem SX.b {W : World} {s : Nat} {a b c d : Value} {w : World} (h : SX W s a b c d w) : Below W.heap.size W w := h.2.2.2.2.out

def AddR (F : Nat → Prop) (W : World) (p : Nat) (c : Cfg) (toks : List Int) (e : Ending) (w' : World) : Prop := ∃ s, e = .returned (.pointer (some ⟨s, 0, none⟩)) ∧ StG (FU F (Bt W.heap.size w'.heap.size)) w' s p c toks ∧ Below W.heap.size W w'
set_option maxHeartbeats 2000000 in
theorem dadd_any (F : Nat → Prop) (W : World) (s p : Nat) (c : Cfg) (hok : c.ok) (hMo : Mo W p c) (toks : List Int) (h : StG F W s p c toks) (hl : toks.length ≤ 800) (t : Int) :
    Calls Tryz.prog 28 #[.pointer (some ⟨s, 0, none⟩), .int .i64 t] W (AddR F W p c (toks ++ [t])) := by
  obtain ⟨At, ct, Ao, co, q, olds, h1, h2, h3, h4, h5, h6⟩ := h.1
  obtain ⟨hh, hC, hRO⟩ := h5.self
  have hM : MemG F W q c.layers (dP c toks) := ⟨h6, h.2⟩
  have HTK := Lib.hid (fun (W' : World) (hb : Below W.heap.size W W') => token_any W' p c hok (hMo.below hb) t)
  have HPL := Lib.hid (fun (W' : World) (hb : Below W.heap.size W W') => place_any W' p c hok (hMo.below hb) toks.length)
  have HTH := Lib.hid (fun (W' : World) (hb : Below W.heap.size W W') (A : Option Addr) (px : Nat) (xs : List Int) (hx : (Kd.int .i64).C W' A xs.length xs) (hcx : xs.length ≤ px) (hnx : xs.length ≤ 4096) =>
    thru_at W' p c hok (hMo.below hb) F q (dP c toks) (hM.below hb) (dP_ok c hok toks) (by rw [(dSt_len c toks).2]; omega) A px xs hx hcx hnx)
  have hmt := mtok_len c hok t
  have hdx := dX_len c hok t toks.length
  have hmp := mplc_len' c hok toks.length
  have k0 := blk_cell hh 0
  have k1 := blk_cell hh 1
  have k2 := blk_cell hh 2
  have k3 := blk_cell hh 3
  obtain ⟨n, hn⟩ : ∃ n, toks.length = n := ⟨_, rfl⟩
  rw [hn] at k1 k2 HPL h1 h2 hl hmp hdx
  have HDX : Hid ((dX c t n).length ≤ 4096) := Lib.hid (by omega)
  have HN := Lib.hid hn
  have HX := Lib.hid (show vadd (mtok c t) (mplc c n) = dX c t n from rfl)
  obtain ⟨X1, hX1⟩ : ∃ X, mtok c t = X := ⟨_, rfl⟩
  obtain ⟨X2, hX2⟩ : ∃ X, mplc c n = X := ⟨_, rfl⟩
  rw [hX1] at HTK HX hmt
  rw [hX2] at HPL HX hmp
  unfold RowR at HTK HPL
  unfold ThruR at HTH
  unfold AddR
  have hS : SX W s (.pointer (some ⟨p, 0, none⟩)) (.slice At n ct) (.slice Ao n co) (.pointer (some ⟨q, 0, none⟩)) W.drew := by
    have bD := below_drew (Below.refl W.heap.size W)
    exact ⟨pw_cell_below bD k0, pw_cell_below bD k1, pw_cell_below bD k2, pw_cell_below bD k3, Lib.hid bD⟩
  have HH := Lib.hid h
  have hC0 := Lib.hid (fun (W' : World) (hb : Below W.heap.size W W') => Kd.C_below hC hb)
  have HRO := Lib.hid (fun (W' : World) (hb : Below W.heap.size W W') => (h5 W' (fun k hk => hb.block k (h.2 k hk))).2.2.2)
  have HOL := Lib.hid (show olds.length = n by have h9 := hRO.1.1; rw [(dSt_len c toks).1] at h9; omega)
  have HAO := Lib.hid (fun hA => show n = 0 by rw [← HN.out, h4 hA]; rfl)
  have HFT := Lib.hid (show Ft F W (fun W' => Reps (KRow.K W') 1 (dO c toks) olds) from fun W' hW => (h5 W' hW).2.2.1)
  clear hX1 hX2 hn h h3 h4 h5 h6 hh hC hRO hM hMo hok
  go_enter Tryz.func28, Tryz.ntmps28
  go_wp2_with fail
  clear k1
  go_region_held3 (fun w' => w'.cell? ⟨s, 0, none⟩ = some (.pointer (some ⟨p, 0, none⟩)) ∧ w'.cell? ⟨s, 1, none⟩ = some (.slice At n ct) ∧ w'.cell? ⟨s, 2, none⟩ = some (.slice Ao n co) ∧ w'.cell? ⟨s, 3, none⟩ = some (.pointer (some ⟨q, 0, none⟩)) ∧ Hid (Below W.heap.size W w'))
    (first | exact hS | exact SX.step (by assumption) (by assumption))
    (first
      | (go_at_call 45; refine (HTK.out _ (SX.b (by assumption))).mono ?_; rintro e wT ⟨vT, rfl, hoT, hbT⟩; obtain ⟨AT, cT, hvT, hcT, hCT⟩ := hoT.reads; subst hvT; have HCT := Lib.hid (fun (W' : World) (hb : Below wT.heap.size wT W') => Kd.C_below hCT hb); clear hoT hCT)
      | (go_at_call 46; refine (HPL.out _ (SX.b (by assumption))).mono ?_; rintro e wP ⟨vP, rfl, hoP, hbP⟩; obtain ⟨AP, cP, hvP, hcP, hCP⟩ := hoP.reads; subst hvP; have HCP := Lib.hid (fun (W' : World) (hb : Below wP.heap.size wP W') => Kd.C_below hCP hb); clear hoP hCP)
      | (go_at_call 44; refine (vadd_any AT AP cT cP X1 X2 _ (HCT.out _ (by first | assumption | exact Below.refl _ _)) (HCP.out _ (by first | assumption | exact Below.refl _ _)) hcT hcP (by omega) (by omega)).mono ?_; rw [HX.out]; rintro e wA ⟨vA, rfl, hoA, hbA⟩; obtain ⟨AA, cA, hvA, hcA, hCA⟩ := hoA.reads; subst hvA; have HCA := Lib.hid hCA; clear hoA hCA)
      | (go_at_call 43; have HBA := Lib.hid (show Below W.heap.size W wA from SX.b (by assumption)).size; refine (HTH.out _ (SX.b (by assumption)) AA cA (dX c t n) HCA.out hcA HDX.out).mono ?_; rintro e wH ⟨AY, cY, q2, rfl, hoY, hmY, hbH⟩))
  have hSH : SX W s (.pointer (some ⟨p, 0, none⟩)) (.slice At n ct) (.slice Ao n co) (.pointer (some ⟨q, 0, none⟩)) wH := by assumption
  have HBH := Lib.hid hSH.b
  obtain ⟨k0, k1, k2, k3, -⟩ := hSH
  clear hS
  have HOY := Lib.hid (hoY.lower HBA.out)
  have HMY := Lib.hid (hmY.wide (F' := FU F (Bt W.heap.size wH.heap.size)) (fun k hk => by
    rcases hk with hk | hk
    · exact .inl hk
    · exact .inr ⟨Nat.le_trans HBA.out hk.1, hk.2⟩) (fun k hk => by
    rcases hk with hk | hk
    · exact Nat.lt_of_lt_of_le (HH.out.2 k hk) HBH.out.size
    · exact hk.2))
  have HTY := Lib.hid (show ty c (dP c toks) (dX c t toks.length) = ty c (dP c toks) (dX c t n) by rw [HN.out])
  have hdp := dP_snoc c toks t
  rw [HN.out] at hdp
  rw [← hdp] at HMY
  obtain ⟨Y, hY⟩ : ∃ Y, ty c (dP c toks) (dX c t n) = Y := ⟨_, rfl⟩
  rw [hY] at HOY HTY ⊢
  have bD := below_drew (Below.refl wH.heap.size wH)
  have hS : SX wH s (.pointer (some ⟨p, 0, none⟩)) (.slice At n ct) (.slice Ao n co) (.pointer (some ⟨q, 0, none⟩)) wH.drew := ⟨pw_cell_below bD k0, pw_cell_below bD k1, pw_cell_below bD k2, pw_cell_below bD k3, Lib.hid bD⟩
  have HTC := Lib.hid (fun (W' : World) (hb : Below wH.heap.size wH W') => Kd.C_below (hC0.out wH HBH.out) hb)
  have HOC := Lib.hid (fun (W' : World) (hb : Below wH.heap.size wH W') => HRO.out W' (below_then HBH.out HBH.out.size hb))
  have F1 := Lib.hid (show (wH.drew.alloc (.cells #[.int .i64 t] 3)).cell? ⟨wH.heap.size, 0, none⟩ = some (.int .i64 t) from blk_cell (heap_alloc_new wH.drew _) 0)
  have F2 := Lib.hid (show ((wH.drew.alloc (.cells #[.int .i64 t] 3)).alloc (.cells #[.slice AY Y.length cY] 55)).cell? ⟨wH.heap.size, 0, none⟩ = some (.int .i64 t) from blk_cell (blk_alloc (heap_alloc_new wH.drew _) _) 0)
  have F3 := Lib.hid (show ((wH.drew.alloc (.cells #[.slice AY Y.length cY] 55)).alloc (.cells #[.int .i64 t] 3)).cell? ⟨wH.heap.size + 1, 0, none⟩ = some (.int .i64 t) from blk_cell (heap_alloc2_new wH.drew _ _) 0)
  have G2 := Lib.hid (show ((wH.drew.alloc (.cells #[.int .i64 t] 3)).alloc (.cells #[.slice AY Y.length cY] 55)).cell? ⟨wH.heap.size + 1, 0, none⟩ = some (.slice AY Y.length cY) from blk_cell (heap_alloc2_new wH.drew _ _) 0)
  have G3 := Lib.hid (show ((wH.drew.alloc (.cells #[.slice AY Y.length cY] 55)).alloc (.cells #[.int .i64 t] 3)).cell? ⟨wH.heap.size, 0, none⟩ = some (.slice AY Y.length cY) from blk_cell (blk_alloc (heap_alloc_new wH.drew _) _) 0)
  have c1 := cutIn At n ct n h1
  have c2 := cutRw Ao n co n h2
  clear hdp hoY hmY hbH hY hcT hcP hcA bD k0 k1 k2 k3
  go_wp2_with fail
  go_region_held3 (fun w' => w'.cell? ⟨s, 0, none⟩ = some (.pointer (some ⟨p, 0, none⟩)) ∧ w'.cell? ⟨s, 1, none⟩ = some (.slice At n ct) ∧ w'.cell? ⟨s, 2, none⟩ = some (.slice Ao n co) ∧ w'.cell? ⟨s, 3, none⟩ = some (.pointer (some ⟨q, 0, none⟩)) ∧ Hid (Below wH.heap.size wH w'))
    (first | exact hS | exact SX.step (by assumption) (below_alloc (Below.refl _ _) _) | exact SX.step (by assumption) (by assumption))
    (first
      | (refine step_grow_int (by rfl) _ _ (by rfl) At toks t n HN.out (HTC.out _ (SX.b (by assumption))) (by rfl) _ (by rfl) (by rw [add_plain]; first | exact F1.out | exact F2.out | exact F3.out) (by omega) ?_; intro A5 c5 w5 ho5 hb5; have HO5 := Lib.hid (ho5.lower (Nat.le_trans HBH.out.size (Below.size (SX.b (W := wH) (by assumption))))); (try have k9 := Lib.hid (pw_cell_below hb5 G2.out)); (try have k9' := Lib.hid (pw_cell_below hb5 G3.out)); clear ho5)
      | (refine step_grow_rows (by rfl) _ _ (by rfl) Ao n olds HAO.out HOL.out (HOC.out _ (SX.b (by assumption))) (by rfl) _ AY Y.length cY (by rfl) (by rw [add_plain]; first | exact k9.out | exact k9'.out | exact blk_cell (heap_alloc_new _ _) 0) (by omega) ?_; intro A6 c6 w6 ho6 hb6; have HO6 := Lib.hid (own_weaken ho6 (Nat.le_trans HBH.out.size (Below.size (SX.b (W := wH) (by assumption))))); have HB6 := Lib.hid ((fun {u : World} (h1 : Below wH.heap.size wH u) (h2 : Below u.heap.size u w6) => below_then h1 h1.size h2) (SX.b (by assumption)) hb6); have HT6 : Hid (Own w6 W.heap.size 3 (.slice A5 (n + 1) c5) (toks ++ [t])) := Lib.hid (by first | exact HO5.out.below hb6 | exact (HO5.out.below (below_alloc (Below.refl _ _) _)).below hb6); clear ho6))
  all_goals
    have HST := Lib.hid (stF_made HN.out HH.out.2 HFT.out (below_then HBH.out HBH.out.size HB6.out) (by rw [HN.out]; omega) HT6.out HO6.out (HOY.out.below HB6.out) HTY.out ((HMY.out.below HB6.out).wide (F' := FU F (Bt W.heap.size w6.heap.size)) (fun k hk => by
      rcases hk with hk | hk
      · exact .inl hk
      · exact .inr ⟨hk.1, Nat.lt_of_lt_of_le hk.2 HB6.out.size⟩) (fun k hk => by
      rcases hk with hk | hk
      · exact Nat.lt_of_lt_of_le (HH.out.2 k hk) (Nat.le_trans HBH.out.size HB6.out.size)
      · exact hk.2)) (p := p))
    have HBE := Lib.hid (below_alloc (below_then HBH.out HBH.out.size HB6.out) (.cells #[.pointer (some ⟨p, 0, none⟩), .slice A5 (n + 1) c5, .slice A6 (n + 1) c6, .pointer (some ⟨q2, 0, none⟩)] 66))
    have HSW := Lib.hid (show StG (FU F (Bt W.heap.size (w6.alloc (.cells #[.pointer (some ⟨p, 0, none⟩), .slice A5 (n + 1) c5, .slice A6 (n + 1) c6, .pointer (some ⟨q2, 0, none⟩)] 66)).heap.size)) (w6.alloc (.cells #[.pointer (some ⟨p, 0, none⟩), .slice A5 (n + 1) c5, .slice A6 (n + 1) c6, .pointer (some ⟨q2, 0, none⟩)] 66)) w6.heap.size p c (toks ++ [t]) by
      have e : (w6.alloc (.cells #[.pointer (some ⟨p, 0, none⟩), .slice A5 (n + 1) c5, .slice A6 (n + 1) c6, .pointer (some ⟨q2, 0, none⟩)] 66)).heap.size = w6.heap.size + 1 := by simp
      rw [e]; exact HST.out)
    go_wp2_with fail
    go_ret
    exact ⟨_, rfl, HSW.out, HBE.out⟩

end Go.Proofs.YtdfgmdmcdnnhfaaGreat
