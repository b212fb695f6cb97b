/- decode's New, Feed, Next. -/
import Derived.Test.YtdfgmdmcdnnhfaaGreatDcB
import Derived.Test.YtdfgmdmcdnnhfaaGreatSaN
namespace Go.Proofs.YtdfgmdmcdnnhfaaGreat
open Go.RowKit Go.Shelf Go.Proofs.YtdfgmdmcdnnhfaaGreatW.PrintWords Go.Proofs.YtdfgmdmcdnnhfaaGreatW.PrintLast Go.Proofs.YtdfgmdmcdnnhfaaGreatW.PrintMore
set_option linter.unusedVariables false
set_option linter.unusedSimpArgs false
set_option maxRecDepth 100000
attribute [local go_sem] gb_max2 gb_min2 gb_max_two gb_min_two gb_max_three gb_min_three run_cfg1 run_cfg2 run_cfg3

theorem stG_empty {W : World} {p q : Nat} {c : Cfg} {F : Nat → Prop} (hF : ∀ k, F k → k < W.heap.size) (h : MemF F W q c.layers []) :
    StG (FU F (Bt W.heap.size (W.heap.size + 1))) (W.alloc (.cells #[.pointer (some ⟨p, 0, none⟩), .slice none 0 0, .slice none 0 0, .pointer (some ⟨q, 0, none⟩)] 66)) W.heap.size p c [] := by
  refine ⟨⟨none, 0, none, 0, q, [], by simp, by simp, by simp, fun _ => rfl, fun W' hW => ⟨?_, ⟨rfl, by simp, fun h => absurd h (by simp)⟩, Reps.none _ _, fun b hb => by cases hb⟩, ?_⟩, fun k hk => ?_⟩
  · rw [hW _ (.inr ⟨Nat.le_refl _, Nat.lt_succ_self _⟩)]; exact heap_alloc_new W _
  · exact (h.move (fun k hk => Below.heap_alloc _ _ _ (hF k hk))).mono (fun k hk => .inl hk)
  · rcases hk with hk | hk
    · have := hF k hk; simp; omega
    · have := hk.2; simp; omega
def NewD (W : World) (p : Nat) (c : Cfg) (e : Ending) (w' : World) : Prop := ∃ s, e = .returned (.tuple #[.pointer (some ⟨s, 0, none⟩), .int .i64 0]) ∧ StG (Bt W.heap.size w'.heap.size) w' s p c [0] ∧ Below W.heap.size W w'
theorem dnew_any (W : World) (p : Nat) (c : Cfg) (hok : c.ok) (hMo : Mo W p c) : Calls Tryz.prog 13 #[.pointer (some ⟨p, 0, none⟩)] W (NewD W p c) := by
  have HC1 := Lib.hid (config_any W p c hMo)
  rw [show c.v = .agg #[.int .u64 c.seed, .int .i64 c.vocab, .int .i64 c.dim, .int .i64 c.layers, .int .i64 c.top, .int .i64 c.heat] from rfl] at HC1
  have z : (c.layers == 0) = false := by have := hok.2.2.1; simp; omega
  have hmin : min (max c.layers 0) 4 = c.layers := by have := hok.2.2.1; omega
  have HMIN := Lib.hid hmin
  have HMo := Lib.hid (fun (W' : World) (hb : Below W.heap.size W W') => hMo.below hb)
  have HOK := Lib.hid hok
  unfold NewD
  clear hmin hok hMo
  go_enter Tryz.func13, Tryz.ntmps13
  go_wp2_with fail
  refine HC1.out.mono ?_
  rintro e w1 ⟨rfl, hb⟩
  have HB1 := Lib.hid hb
  clear hb HC1
  go_wp2_with fail
  refine (anewG_any c.layers w1).mono ?_
  rw [HMIN.out]
  rintro e w2 ⟨q, rfl, hm, hb⟩
  have HB2 := Lib.hid (below_then HB1.out HB1.out.size hb)
  have hs := stG_empty (p := p) hm.2 hm.1
  have hb3 := below_alloc (Below.refl w2.heap.size w2) (.cells #[.pointer (some ⟨p, 0, none⟩), .slice none 0 0, .slice none 0 0, .pointer (some ⟨q, 0, none⟩)] 66)
  have HB3 := Lib.hid (below_then HB2.out HB2.out.size hb3)
  have HADD := Lib.hid (dadd_any _ _ w2.heap.size p c HOK.out (HMo.out _ HB3.out) [] hs (by simp) 0)
  have hz1 := HB1.out.size
  clear hm hb hs hb3
  unfold AddR at HADD
  go_wp2_with fail
  refine HADD.out.mono ?_
  rintro e w4 ⟨s, rfl, hst, hb⟩
  have HB4 := Lib.hid (below_then HB3.out HB3.out.size hb)
  have HSZ := Lib.hid (show w2.heap.size + 1 ≤ w4.heap.size by have h := hb.size; simp at h; omega)
  have HST := Lib.hid (hst.wide (F' := Bt W.heap.size w4.heap.size) (fun k hk => by
    have h4 := HSZ.out
    rcases hk with (hk | hk) | hk
    · exact ⟨Nat.le_trans hz1 hk.1, by have := hk.2; omega⟩
    · exact ⟨by have := hk.1; have := HB2.out.size; omega, by have := hk.2; omega⟩
    · refine ⟨?_, hk.2⟩
      have h5 := hk.1
      have h6 := HB3.out.size
      omega) (fun k hk => hk.2))
  clear hst hb
  go_wp2_with fail
  go_ret2
  exact ⟨_, rfl, HST.out, HB4.out⟩

/-- Feed. -/
theorem dfeed_nil (W : World) (t : Int) : Calls Tryz.prog 15 #[.pointer none, .int .i64 t] W fun e w' => e = .returned (.tuple #[.pointer none, .int .i64 2]) ∧ w' = W := by
  go_enter Tryz.func15, Tryz.ntmps15
  go_wp2_with fail
  refine (dlen_nil _).mono ?_
  rintro e w1 ⟨rfl, hw⟩
  replace hw := hw.symm
  subst hw
  go_wp2_with fail
  go_ret2
  exact ⟨rfl, rfl⟩
def FeedN (k : Int) (W : World) (e : Ending) (w' : World) : Prop := e = .returned (.tuple #[.pointer none, .int .i64 k]) ∧ Below W.heap.size W w'
theorem dfeed_arg (F : Nat → Prop) (W : World) (s p : Nat) (c : Cfg) (hMo : Mo W p c) (toks : List Int) (h : StG F W s p c toks) (h0 : 0 < toks.length) (t : Int) (ht : ¬ (0 ≤ t ∧ t < c.vocab)) :
    Calls Tryz.prog 15 #[.pointer (some ⟨s, 0, none⟩), .int .i64 t] W (FeedN 1 W) := by
  have HL := Lib.hid (dlen_any F W s p c toks h)
  have HC := Lib.hid (config_any W p c hMo)
  rw [show c.v = .agg #[.int .u64 c.seed, .int .i64 c.vocab, .int .i64 c.dim, .int .i64 c.layers, .int .i64 c.top, .int .i64 c.heat] from rfl] at HC
  obtain ⟨At, ct, Ao, co, q, -, -, hh, -⟩ := h.at_
  have k0 := blk_cell hh 0
  obtain ⟨n, hn⟩ : ∃ n, toks.length = n := ⟨_, rfl⟩
  rw [hn] at HL h0
  have z : ((n : Int) == 0) = false := by simp; omega
  unfold FeedN
  clear h hMo hh hn
  by_cases hneg : t < 0
  · have g1 : decide (t < 0) = true := decide_eq_true hneg
    clear ht
    go_enter Tryz.func15, Tryz.ntmps15
    go_wp2_with fail
    refine HL.out.mono ?_
    rintro e w1 ⟨rfl, hw⟩
    replace hw := hw.symm
    subst hw
    go_wp2_with fail
    go_ret2
    exact ⟨rfl, Below.refl _ _⟩
  · have g1 : decide (t < 0) = false := decide_eq_false hneg
    have g2 : decide (c.vocab ≤ t) = true := decide_eq_true (by omega)
    clear ht hneg
    go_enter Tryz.func15, Tryz.ntmps15
    go_wp2_with fail
    refine HL.out.mono ?_
    rintro e w1 ⟨rfl, hw⟩
    replace hw := hw.symm
    subst hw
    go_wp2_with fail
    refine HC.out.mono ?_
    rintro e w1 ⟨rfl, hb⟩
    have HB := Lib.hid hb
    clear hb
    go_wp2_with fail
    go_ret2
    exact ⟨rfl, HB.out⟩
theorem dfeed_many (F : Nat → Prop) (W : World) (s p : Nat) (c : Cfg) (hMo : Mo W p c) (toks : List Int) (h : StG F W s p c toks) (h0 : 256 ≤ toks.length) (t : Int) (ht : 0 ≤ t ∧ t < c.vocab) :
    Calls Tryz.prog 15 #[.pointer (some ⟨s, 0, none⟩), .int .i64 t] W (FeedN 5 W) := by
  have HL := Lib.hid (fun (W' : World) (hb : Below W.heap.size W W') => dlen_any F W' s p c toks (h.below hb))
  have HC := Lib.hid (config_any W p c hMo)
  rw [show c.v = .agg #[.int .u64 c.seed, .int .i64 c.vocab, .int .i64 c.dim, .int .i64 c.layers, .int .i64 c.top, .int .i64 c.heat] from rfl] at HC
  obtain ⟨At, ct, Ao, co, q, -, -, hh, -⟩ := h.at_
  have k0 := blk_cell hh 0
  obtain ⟨n, hn⟩ : ∃ n, toks.length = n := ⟨_, rfl⟩
  rw [hn] at HL h0
  have z : ((n : Int) == 0) = false := by simp; omega
  have g1 : decide (t < 0) = false := decide_eq_false (by omega)
  have g2 : decide (c.vocab ≤ t) = false := decide_eq_false (by omega)
  have g3 : decide (256 ≤ n) = true := decide_eq_true h0
  have g4 : decide ((256 : Int) ≤ (n : Int)) = true := decide_eq_true (by omega)
  unfold FeedN
  clear h hMo hh hn ht
  go_enter Tryz.func15, Tryz.ntmps15
  go_wp2_with fail
  refine (HL.out W (Below.refl _ _)).mono ?_
  rintro e w1 ⟨rfl, hw⟩
  replace hw := hw.symm
  subst hw
  go_wp2_with fail
  refine HC.out.mono ?_
  rintro e w1 ⟨rfl, hb⟩
  have HB := Lib.hid hb
  clear hb
  go_wp2_with fail
  refine (HL.out w1 HB.out).mono ?_
  rintro e w2 ⟨rfl, hw⟩
  replace hw := hw.symm
  subst hw
  go_wp2_with fail
  go_ret2
  exact ⟨rfl, HB.out⟩
def FeedY (F : Nat → Prop) (W : World) (p : Nat) (c : Cfg) (toks : List Int) (e : Ending) (w' : World) : Prop := ∃ s, e = .returned (.tuple #[.pointer (some ⟨s, 0, none⟩), .int .i64 0]) ∧ StG (FU F (Bt W.heap.size w'.heap.size)) w' s p c toks ∧ Below W.heap.size W w'
theorem fu_wide {F : Nat → Prop} {W w1 w2 : World} {s p : Nat} {c : Cfg} {toks : List Int} (h : StG (FU F (Bt w1.heap.size w2.heap.size)) w2 s p c toks) (hF : ∀ k, F k → k < W.heap.size) (h1 : W.heap.size ≤ w1.heap.size) (h2 : w1.heap.size ≤ w2.heap.size) : StG (FU F (Bt W.heap.size w2.heap.size)) w2 s p c toks :=
  h.wide (fun k hk => by
    rcases hk with hk | hk
    · exact .inl hk
    · exact .inr ⟨Nat.le_trans h1 hk.1, hk.2⟩) (fun k hk => by
    rcases hk with hk | hk
    · have := hF k hk; omega
    · exact hk.2)
theorem dfeed_ok (F : Nat → Prop) (W : World) (s p : Nat) (c : Cfg) (hok : c.ok) (hMo : Mo W p c) (toks : List Int) (h : StG F W s p c toks) (h0 : 0 < toks.length) (h9 : toks.length < 256) (t : Int) (ht : 0 ≤ t ∧ t < c.vocab) :
    Calls Tryz.prog 15 #[.pointer (some ⟨s, 0, none⟩), .int .i64 t] W (FeedY F W p c (toks ++ [t])) := by
  have HL := Lib.hid (fun (W' : World) (hb : Below W.heap.size W W') => dlen_any F W' s p c toks (h.below hb))
  have HC := Lib.hid (config_any W p c hMo)
  rw [show c.v = .agg #[.int .u64 c.seed, .int .i64 c.vocab, .int .i64 c.dim, .int .i64 c.layers, .int .i64 c.top, .int .i64 c.heat] from rfl] at HC
  have HA := Lib.hid (fun (W' : World) (hb : Below W.heap.size W W') => dadd_any F W' s p c hok (hMo.below hb) toks (h.below hb) (by omega) t)
  have HF := Lib.hid h.2
  obtain ⟨At, ct, Ao, co, q, -, -, hh, -⟩ := h.at_
  have k0 := blk_cell hh 0
  obtain ⟨n, hn⟩ : ∃ n, toks.length = n := ⟨_, rfl⟩
  rw [hn] at HL h0 h9
  have z : ((n : Int) == 0) = false := by simp; omega
  have g1 : decide (t < 0) = false := decide_eq_false (by omega)
  have g2 : decide (c.vocab ≤ t) = false := decide_eq_false (by omega)
  have g3 : decide (256 ≤ n) = false := decide_eq_false (by omega)
  have g4 : decide ((256 : Int) ≤ (n : Int)) = false := decide_eq_false (by omega)
  unfold FeedY
  unfold AddR at HA
  clear h hMo hh hn ht
  go_enter Tryz.func15, Tryz.ntmps15
  go_wp2_with fail
  refine (HL.out W (Below.refl _ _)).mono ?_
  rintro e w1 ⟨rfl, hw⟩
  replace hw := hw.symm
  subst hw
  go_wp2_with fail
  refine HC.out.mono ?_
  rintro e w1 ⟨rfl, hb⟩
  have HB := Lib.hid hb
  clear hb
  go_wp2_with fail
  refine (HL.out w1 HB.out).mono ?_
  rintro e w2 ⟨rfl, hw⟩
  replace hw := hw.symm
  subst hw
  go_wp2_with fail
  refine (HA.out w1 HB.out).mono ?_
  rintro e w3 ⟨s', rfl, hst, hb⟩
  have HST := Lib.hid (fu_wide hst HF.out HB.out.size hb.size)
  have HBE := Lib.hid (below_then HB.out HB.out.size hb)
  clear hst hb
  go_wp2_with fail
  go_ret2
  exact ⟨_, rfl, HST.out, HBE.out⟩

/-- Next. -/
theorem dnext_nil (W : World) (sd : Int) : Calls Tryz.prog 17 #[.pointer none, .int .u64 sd] W fun e w' => e = .returned (.tuple #[.int .i64 0, .bool false]) ∧ w' = W := by
  go_enter Tryz.func17, Tryz.ntmps17
  go_wp2_with fail
  refine (dlen_nil _).mono ?_
  rintro e w1 ⟨rfl, hw⟩
  replace hw := hw.symm
  subst hw
  go_wp2_with fail
  go_ret2
  exact ⟨rfl, rfl⟩
theorem dnext_full (F : Nat → Prop) (W : World) (s p : Nat) (c : Cfg) (toks : List Int) (h : StG F W s p c toks) (h0 : 256 ≤ toks.length) (sd : Int) : Calls Tryz.prog 17 #[.pointer (some ⟨s, 0, none⟩), .int .u64 sd] W fun e w' => e = .returned (.tuple #[.int .i64 0, .bool false]) ∧ w' = W := by
  have HL := Lib.hid (dlen_any F W s p c toks h)
  obtain ⟨n, hn⟩ : ∃ n, toks.length = n := ⟨_, rfl⟩
  rw [hn] at HL h0
  have z : ((n : Int) == 0) = false := by simp; omega
  have g3 : decide (256 ≤ n) = true := decide_eq_true h0
  have g4 : decide ((256 : Int) ≤ (n : Int)) = true := decide_eq_true (by omega)
  clear h hn
  go_enter Tryz.func17, Tryz.ntmps17
  go_wp2_with fail
  refine HL.out.mono ?_
  rintro e w1 ⟨rfl, hw⟩
  replace hw := hw.symm
  subst hw
  go_wp2_with fail
  go_ret2
  exact ⟨rfl, rfl⟩
/-- The token that comes next. -/
def dNx (c : Cfg) (toks : List Int) (sd : Int) : Int := vnext c ((dO c toks).getD (toks.length - 1) []) sd toks.length
theorem dnext_any (F : Nat → Prop) (W : World) (s p : Nat) (c : Cfg) (hok : c.ok) (hMo : Mo W p c) (toks : List Int) (h : StG F W s p c toks) (h0 : 0 < toks.length) (h9 : toks.length < 256) (sd : Int) :
    Calls Tryz.prog 17 #[.pointer (some ⟨s, 0, none⟩), .int .u64 sd] W fun e w' => e = .returned (.tuple #[.int .i64 (dNx c toks sd), .bool true]) ∧ Below W.heap.size W w' := by
  have HL := Lib.hid (dlen_any F W s p c toks h)
  obtain ⟨At, ct, Ao, co, q, -, hco, hh, -, hR, -⟩ := h.at_
  have k0 := blk_cell hh 0
  have k2 := blk_cell hh 2
  obtain ⟨b, A1, c1, e1, q1, hc1, hC1⟩ := hR.at_ (toks.length - 1) (by rw [(dSt_len c toks).1]; omega)
  have hsh : ((dO c toks).getD (toks.length - 1) []).length ≤ 16 := by
    rw [List.getD_eq_getElem?_getD, List.getElem?_eq_getElem (by rw [(dSt_len c toks).1]; omega)]
    exact dO_short c hok toks _ (List.getElem_mem _)
  have HNX := Lib.hid (fun (W' : World) (hb : Below W.heap.size W W') => next_any W' p c hok (hMo.below hb) A1 c1 ((dO c toks).getD (toks.length - 1) []) sd toks.length (Kd.C_below hC1 hb) hc1 (by omega))
  unfold dNx
  obtain ⟨n, hn⟩ : ∃ n, toks.length = n := ⟨_, rfl⟩
  rw [hn] at HL h0 h9 HNX q1 k2 hco ⊢
  obtain ⟨R, hR9⟩ : ∃ R, vnext c ((dO c toks).getD (n - 1) []) sd n = R := ⟨_, rfl⟩
  rw [hR9] at HNX ⊢
  obtain ⟨m, hm⟩ : ∃ m, ((dO c toks).getD (n - 1) []).length = m := ⟨_, rfl⟩
  rw [hm] at HNX q1
  subst e1
  obtain ⟨k, hk⟩ : ∃ k, n - 1 = k := ⟨_, rfl⟩
  rw [hk] at q1
  have hkn : k < n := by omega
  have ek : (n : Int) - 1 = (k : Int) := by omega
  have i3 : IntKind.i64.wrap ((n : Int) - 1) = (k : Int) := by rw [IntKind.wrap_i64]; omega
  have i5 : IntKind.u64.wrap (n : Int) = (n : Int) := by unfold IntKind.wrap; simp [IntKind.bits, IntKind.signed]; omega
  clear ek
  have z : ((n : Int) == 0) = false := by simp; omega
  have g3 : decide (256 ≤ n) = false := decide_eq_false (by omega)
  have g4 : decide ((256 : Int) ≤ (n : Int)) = false := decide_eq_false (by omega)
  have bD := below_drew (Below.refl W.heap.size W)
  have hS : S3 W ⟨s, 0, none⟩ ⟨s, 2, none⟩ (b.add k) (.pointer (some ⟨p, 0, none⟩)) (.slice (some b) n co) (.slice A1 m c1) W.drew := ⟨pw_cell_below bD k0, pw_cell_below bD k2, pw_cell_below bD q1, Lib.hid bD⟩
  clear h hMo hh hR hC1 hc1 hsh hn hR9 hm hk bD
  go_enter Tryz.func17, Tryz.ntmps17
  go_wp2_with fail
  refine HL.out.mono ?_
  rintro e w1 ⟨rfl, hw⟩
  replace hw := hw.symm
  subst hw
  go_wp2_with fail
  go_region_held3 (fun w' => w'.cell? ⟨s, 0, none⟩ = some (.pointer (some ⟨p, 0, none⟩)) ∧ w'.cell? ⟨s, 2, none⟩ = some (.slice (some b) n co) ∧ w'.cell? (b.add k) = some (.slice A1 m c1) ∧ Hid (Below W.heap.size W w'))
    (first | exact hS | exact S3.step (by assumption) (by assumption))
    (first
      | (go_at_call 30; refine (HNX.out _ (S3.b (by assumption))).mono ?_; rintro e w2 ⟨rfl, hb⟩))
  all_goals
    have HBE := Lib.hid (show Below W.heap.size W w2 from S3.b (by assumption))
    go_wp2_with fail
    go_ret2
    exact ⟨rfl, HBE.out⟩

end Go.Proofs.YtdfgmdmcdnnhfaaGreat
