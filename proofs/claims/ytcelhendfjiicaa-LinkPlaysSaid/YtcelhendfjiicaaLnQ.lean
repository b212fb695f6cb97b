/- The document's link: a second one. -/
import Derived.Test.YtcelhendfjiicaaLnN
namespace Go.Proofs.Ytcelhendfjiicaa
open Go.RowKit Go.Shelf Go.Proofs.YtcelhendfjiicaaW.PrintWords Go.Proofs.YtcelhendfjiicaaW.PrintLast Go.Proofs.YtcelhendfjiicaaW.PrintMore
set_option linter.unusedVariables false
set_option linter.unusedSimpArgs false
set_option maxRecDepth 100000
attribute [local go_sem] gb_max2 gb_min2 gb_max_two gb_min_two gb_max_three gb_min_three
theorem C_boxT {W : World} {b : Nat} {x : SlT} (h : W.heap[b]? = some (.cells #[encT x] 28 (0, 0))) : KTs.C W (some ⟨b, 0, none⟩) 1 [x] := by
  refine ⟨rfl, by simp, fun _ => ⟨_, rfl, fun j p hj => ?_⟩⟩
  match j, hj with
  | 0, hj =>
    obtain rfl : x = p := by simpa using hj
    refine ⟨[encT x], rfl, rfl, fun i u hu => ?_⟩
    rw [Nat.zero_mul, Nat.zero_add, add_plain, blk_cell h, ← hu]
    simp
  | j + 1, hj => simp at hj
theorem Tx8.kept2 {w w1 : World} {base : Nat} {v : Value} {xs : List Int} (h : Tx8 w base v xs) (hk : ∀ k, base ≤ k → k < w.heap.size → (∃ cells, w.heap[k]? = some (.cells cells 5 (0, 0))) → w1.heap[k]? = w.heap[k]?) : Tx8 w1 base v xs := by
  obtain ⟨h0, inner, hown, hr⟩ := h
  refine ⟨h0, inner, ?_, hr⟩
  refine own_move hown (fun k hk' => ?_)
  obtain ⟨cells, hc⟩ := own_typed hown k hk'
  rcases own_base' hown with hb | ⟨k2, hb, hle⟩
  · rw [hb] at hk'; cases hk'
  · rw [hb] at hk'; injection hk' with hk'; subst hk'
    exact hk k2 hle (blk_lt hc) ⟨cells, hc⟩
theorem Tx8.over {w w1 : World} {base b2 : Nat} {v lv : Value} {xs : List Int} {ts : List SlT} (h : Tx8 w base v xs) (hL : RvO w b2 lv ts) (hg : w.grownBy w1 lv.ownBlock) : Tx8 w1 base v xs :=
  h.kept2 (fun k hb hlt hc => hg.block k hlt (fun e => by
    obtain ⟨cells, hc⟩ := hc
    obtain ⟨cells', hc'⟩ := own_typed (Kd.own_of_R (enc := encT) (h1 := fun _ => rfl) hL) k e.symm
    rw [hc] at hc'
    injection hc' with hc'
    injection hc' with _ hc'
    exact absurd hc' (by decide)))
set_option maxHeartbeats 4000000 in
theorem rtwice_in (W : World) (base q : Nat) (room : Int) (ts : List SlT) (s c d t : Int) (h : RF W base q room ts s c d t) (hf : (ts.length : Int) < room) (hn9 : ts.length ≤ 1000000) (i : Nat) (hi : i < ts.length)
    (A : Option Addr) (m k : Nat) (xs : List Int) (hv : ts.getD i (none, 0, 0) = (A, m, k)) (hm : xs.length = m) (hmk : m ≤ k) (hm9 : m ≤ 140737488351232) (hx : (Kd.int .u8).C W A m xs) :
    Calls Try.prog 33 #[.pointer (some ⟨q, 0, none⟩), .int .i64 i] W fun e w' => e = .returned (.int .i64 0) ∧ ∃ x, Tx8 w' W.heap.size (encT x) xs ∧ RfP W base q room (ts ++ [x]) s c d t w' := by
  have HH := Lib.hid (rhas_yes h i hi)
  have HR := Lib.hid h
  obtain ⟨n, hn⟩ : ∃ n, ts.length = n := ⟨_, rfl⟩
  have HN := Lib.hid hn
  have HM := Lib.hid hm
  obtain ⟨A1, k1, q0, q1, -, -, -, -, hk1, hC1, ff⟩ := h.cells n hn
  obtain ⟨ad, e1, qi⟩ := C_at hn hC1 i (by omega)
  subst e1
  rw [hv] at qi
  unfold encT at qi
  dsimp only at qi
  have f1 := ff 1
  have HCT := Lib.hid (fun (W' : World) (hb : Below W.heap.size W W') => Kd.C_below hC1 hb)
  have HXT := Lib.hid (fun (W' : World) (hb : Below W.heap.size W W') => Kd.C_below hx hb)
  have HFR := Lib.hid (fun (W' : World) (hb : Below W.heap.size W W') => show W'.frozen? ⟨q, 1, none⟩ = false by
    obtain ⟨A7, k7, -, -, -, -, -, -, -, -, ff⟩ := (h.below hb).cells n hn
    exact ff 1)
  rw [hn] at hf hi hn9
  have hq9 : n + 1 ≤ 1000001 := by omega
  clear h hn hC1 hv hx hm ff
  go_enter Try.func33, Try.ntmps33
  go_wp2_with fail
  refine HH.out.mono ?_
  rintro e w' ⟨rfl, rfl⟩
  go_wp2_with fail
  go_quiet (fail)
  have hbq := pw_below_drewN (Below.refl W.heap.size W) nq
  obtain ⟨w3, hw3⟩ : ∃ w3, W.drewN nq = w3 := ⟨_, rfl⟩
  rw [hw3] at hbq ⊢
  replace q1 := pw_cell_below hbq q1
  replace qi := pw_cell_below hbq qi
  have HLG := Lib.hid ((Lg.refl q none W).bel hbq)
  have HSW := Lib.hid hbq.size
  have HSB := Lib.hid hbq
  have HR3 := Lib.hid (HR.out.below hbq)
  have HNW := Lib.hid ((RN.refl W q).bel HR.out hbq)
  have HCT3 := Lib.hid (fun (W' : World) (hb : Below w3.heap.size w3 W') => HCT.out W' (below_then hbq hbq.size hb))
  have HXT3 := Lib.hid (fun (W' : World) (hb : Below w3.heap.size w3 W') => HXT.out W' (below_then hbq hbq.size hb))
  have HQ1 := Lib.hid q1
  have HQI := Lib.hid qi
  have HB3 := Lib.hid (below_drew (Below.refl w3.heap.size w3))
  clear q0 f1 hw3 hbq
  go_upto_region 5 with fail
  go_region_law (first
    | (refine Kd.R_append_rows_step KTs (Rr := KTs.K w3.drew) (w0 := w3) (W := w3.drew) w3.heap.size rfl _ _ 22 28 (.slice none 0 0) 24 rfl Try.underlying22 infoBytes (by rfl) (by decide) (by decide) (.slice none 0 0) [] ts (some ad) n k1 (fun _ => True) (fun _ => False) (by rfl) (by rfl) (Kd.R_nil _ _ _ _ _) (HCT3.out _ HB3.out) (fun _ _ h => h) (fun _ h => h.elim) (fun _ _ => trivial) HB3.out (Nat.le_refl _) (by simp; omega) ?_; intro v4 w4 hr4 hb4 hg4 hat4; have hv4 := RvO.reads (show RvO w4 w3.heap.size v4 ts from hr4); obtain ⟨A4, k4, hv4, -, -⟩ := hv4; rw [HN.out] at hv4; subst hv4; have HR4 := Lib.hid (show RvO w4 w3.heap.size (.slice A4 n k4) ts from hr4); have HB4 := Lib.hid hb4; have q1 := pw_cell_below hb4 HQ1.out; have qi := pw_cell_below hb4 HQI.out; clear hr4 hb4 hg4 hat4)
    | (refine Kd.R_append_rows_step (Kd.int .u8) (Rr := (Kd.int .u8).K w4) (w0 := w4) (W := w4) w4.heap.size rfl _ _ 28 5 (.int .u8 0) 1 rfl Try.underlying28 infoU8b (by rfl) (by decide) (by decide) (.slice none 0 0) [] xs A m k (fun _ => True) (fun _ => False) (by rfl) (by rfl) (Kd.R_nil _ _ _ _ _) (HXT3.out w4 HB4.out) (fun _ _ h => h) (fun _ h => h.elim) (fun _ _ => trivial) (Below.refl _ _) (Nat.le_refl _) (by simp; omega) ?_; intro v5 w5 hr5 hb5 hg5 hat5; obtain ⟨A5, k5, hv5, -, -⟩ := Kd.R_reads hr5; rw [List.nil_append, HM.out] at hv5; subst hv5; have HT5 := Lib.hid ((show Tx8 w5 w4.heap.size (.slice A5 m k5) xs from hr5).lower HB4.out.size); have HR5 := Lib.hid (HR4.out.below hb5); have HB5 := Lib.hid (below_then HB4.out HB4.out.size hb5); have q1 := pw_cell_below HB5.out HQ1.out; have qi := pw_cell_below HB5.out HQI.out; clear hr5 hb5 hg5 hat5)
    | (refine Kd.R_append_rows_step (Kd.int .u8) (Rr := (Kd.int .u8).K w3.drew) (w0 := w3) (W := w3.drew) w3.heap.size rfl _ _ 28 5 (.int .u8 0) 1 rfl Try.underlying28 infoU8b (by rfl) (by decide) (by decide) (.slice none 0 0) [] xs A m k (fun _ => True) (fun _ => False) (by rfl) (by rfl) (Kd.R_nil _ _ _ _ _) (HXT3.out _ HB3.out) (fun _ _ h => h) (fun _ h => h.elim) (fun _ _ => trivial) HB3.out (Nat.le_refl _) (by simp; omega) ?_; intro v5 w5 hr5 hb5 hg5 hat5; obtain ⟨A5, k5, hv5, -, -⟩ := Kd.R_reads hr5; rw [List.nil_append, HM.out] at hv5; subst hv5; have HT5 := Lib.hid (show Tx8 w5 w3.heap.size (.slice A5 m k5) xs from hr5); have HB5 := Lib.hid hb5; have q1 := pw_cell_below HB5.out HQ1.out; have qi := pw_cell_below HB5.out HQI.out; clear hr5 hb5 hg5 hat5)
    | (refine Kd.R_append_rows_step KTs (Rr := KTs.K w5) (w0 := w3) (W := w5) w3.heap.size rfl _ _ 22 28 (.slice none 0 0) 24 rfl Try.underlying22 infoBytes (by rfl) (by decide) (by decide) (.slice none 0 0) [] ts (some ad) n k1 (fun _ => True) (fun _ => False) (by rfl) (by rfl) (Kd.R_nil _ _ _ _ _) (HCT3.out _ HB5.out) (fun _ _ h => h) (fun _ h => h.elim) (fun _ _ => trivial) HB5.out HB5.out.size (by simp; omega) ?_; intro v4 w4 hr4 hb4 hg4 hat4; have hv4 := RvO.reads (show RvO w4 w3.heap.size v4 ts from hr4); obtain ⟨A4, k4, hv4, -, -⟩ := hv4; rw [HN.out] at hv4; subst hv4; have HR4 := Lib.hid (show RvO w4 w3.heap.size (.slice A4 n k4) ts from hr4); have HB4 := Lib.hid hb4; have HT4 := Lib.hid (HT5.out.kept2 (fun kk _ hlt _ => hg4.block kk hlt (by simp [Value.ownBlock]))); have q1 := pw_cell_below hb4 HQ1.out; clear hr4 hb4 hg4 hat4)
    | (refine Kd.R_append_rows_step KTs (Rr := KTs.K (w5.alloc (.cells #[.slice A5 m k5] 28))) (w0 := w3) (W := w5.alloc (.cells #[.slice A5 m k5] 28)) w3.heap.size rfl _ _ 22 28 (.slice none 0 0) 24 rfl Try.underlying22 infoBytes (by rfl) (by decide) (by decide) (.slice none 0 0) [] ts (some ad) n k1 (fun _ => True) (fun _ => False) (by rfl) (by rfl) (Kd.R_nil _ _ _ _ _) (HCT3.out _ (below_alloc HB5.out _)) (fun _ _ h => h) (fun _ h => h.elim) (fun _ _ => trivial) (below_alloc HB5.out _) (below_alloc HB5.out _).size (by simp; omega) ?_; intro v4 w4 hr4 hb4 hg4 hat4; have hv4 := RvO.reads (show RvO w4 w3.heap.size v4 ts from hr4); obtain ⟨A4, k4, hv4, -, -⟩ := hv4; rw [HN.out] at hv4; subst hv4; have HR4 := Lib.hid (show RvO w4 w3.heap.size (.slice A4 n k4) ts from hr4); have HB4 := Lib.hid hb4; have HT4 := Lib.hid ((HT5.out.below (below_alloc (Below.refl _ _) (.cells #[.slice A5 m k5] 28))).kept2 (fun kk _ hlt _ => hg4.block kk hlt (by simp [Value.ownBlock]))); have HBX := Lib.hid (show w4.heap[w5.heap.size]? = some (.cells #[encT (A5, m, k5)] 28 (0, 0)) from (hg4.block w5.heap.size (by simp) (by simp [Value.ownBlock])).trans (heap_alloc_new w5 _)); have q1 := pw_cell_below hb4 HQ1.out; clear hr4 hb4 hg4 hat4)
    | (refine Kd.R_append_step KTs (w0 := w3) (W := w5) w3.heap.size rfl _ _ 22 28 (.slice none 0 0) 24 rfl Try.underlying22 infoBytes (by rfl) (by decide) (by decide) (.slice A4 n k4) ts (A5, m, k5) [.slice A5 m k5] (fun _ => True) (fun _ => False) (by rfl) (by rfl) rfl (fun _ h => h.elim) (fun _ _ => trivial) HR5.out HB5.out HB5.out.size (by rw [HN.out]; omega) ?_; intro v6 w6 hr6 hb6 hg6 hat6; have hv6 := RvO.reads (show RvO w6 w3.heap.size v6 (ts ++ [(A5, m, k5)]) from hr6); obtain ⟨A6, k6, hv6, -, -⟩ := hv6; subst hv6; have HP := Lib.hid (HR3.out.turn hb6 (show RvO w6 w3.heap.size _ (ts ++ [(A5, m, k5)]) from hr6)); have HT6 := Lib.hid (HT5.out.over HR5.out hg6); have q1 := pw_cell_below hb6 HQ1.out; have f1 := HFR.out w6 (below_then (by first | exact HSB.out) (by exact HSW.out) hb6); clear hr6 hb6 hg6 hat6)
    | (refine Kd.R_append_step KTs (w0 := w3) (W := w4) w3.heap.size rfl _ _ 22 28 (.slice none 0 0) 24 rfl Try.underlying22 infoBytes (by rfl) (by decide) (by decide) (.slice A4 n k4) ts (A5, m, k5) [.slice A5 m k5] (fun _ => True) (fun _ => False) (by rfl) (by rfl) rfl (fun _ h => h.elim) (fun _ _ => trivial) HR4.out HB4.out HB4.out.size (by rw [HN.out]; omega) ?_; intro v6 w6 hr6 hb6 hg6 hat6; have hv6 := RvO.reads (show RvO w6 w3.heap.size v6 (ts ++ [(A5, m, k5)]) from hr6); obtain ⟨A6, k6, hv6, -, -⟩ := hv6; subst hv6; have HP := Lib.hid (HR3.out.turn hb6 (show RvO w6 w3.heap.size _ (ts ++ [(A5, m, k5)]) from hr6)); have HT6 := Lib.hid (HT4.out.over HR4.out hg6); have q1 := pw_cell_below hb6 HQ1.out; have f1 := HFR.out w6 (below_then (by first | exact HSB.out) (by exact HSW.out) hb6); clear hr6 hb6 hg6 hat6)
    | (refine Kd.R_append_rows_step KTs (Rr := KTs.K w4) (w0 := w3) (W := w4) w3.heap.size rfl _ _ 22 28 (.slice none 0 0) 24 rfl Try.underlying22 infoBytes (by rfl) (by decide) (by decide) (.slice A4 n k4) ts [(A5, m, k5)] (some ⟨w5.heap.size, 0, none⟩) 1 1 (fun _ => True) (fun _ => False) (by rfl) (by rfl) HR4.out (C_boxT HBX.out) (fun _ _ h => h) (fun _ h => h.elim) (fun _ _ => trivial) HB4.out HB4.out.size (by rw [HN.out]; omega) ?_; intro v6 w6 hr6 hb6 hg6 hat6; have hv6 := RvO.reads (show RvO w6 w3.heap.size v6 (ts ++ [(A5, m, k5)]) from hr6); obtain ⟨A6, k6, hv6, -, -⟩ := hv6; subst hv6; have HP := Lib.hid (HR3.out.turn hb6 (show RvO w6 w3.heap.size _ (ts ++ [(A5, m, k5)]) from hr6)); have HT6 := Lib.hid (HT4.out.over HR4.out hg6); have q1 := pw_cell_below hb6 HQ1.out; have f1 := HFR.out w6 (below_then (by first | exact HSB.out) (by exact HSW.out) hb6); clear hr6 hb6 hg6 hat6))
  all_goals
    go_wp2_with fail
    go_ret
    have hP := HP.out
    rw [List.length_append, List.length_singleton] at hP
    obtain ⟨_, _, _, _, _, _, _, hq⟩ := HR.out.parts
    have hs := HSW.out
    exact ⟨rfl, (A5, m, k5), (HT6.out.far (by omega) 1 _).lower hs, hP.1, HLG.out.trans hP.2.1 (GN.refl _ _), RN.trans HNW.out hP.2.2 hs⟩
end Go.Proofs.Ytcelhendfjiicaa
