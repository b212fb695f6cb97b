/- May a job be? For seats that do not reach the model. -/
import Derived.Test.YtmbhicjjbgbneaaAdB
namespace Go.Proofs.Ytmbhicjjbgbneaa
open Go.RowKit Go.Shelf Go.Proofs.YtmbhicjjbgbneaaW.PrintWords Go.Proofs.YtmbhicjjbgbneaaW.PrintLast Go.Proofs.YtmbhicjjbgbneaaW.PrintMore
set_option linter.unusedVariables false
set_option linter.unusedSimpArgs false
set_option maxRecDepth 100000
structure Cfg where
  seed : Int
  vocab : Int
  dim : Int
  layers : Int
  top : Int
  heat : Int
def Cfg.v (c : Cfg) : Value := .agg #[.int .u64 c.seed, .int .i64 c.vocab, .int .i64 c.dim, .int .i64 c.layers, .int .i64 c.top, .int .i64 c.heat]
/-- It may be. -/
def Cfg.ok (c : Cfg) : Prop := (2 ≤ c.vocab ∧ c.vocab ≤ 64) ∧ (1 ≤ c.dim ∧ c.dim ≤ 16) ∧ (1 ≤ c.layers ∧ c.layers ≤ 4) ∧ (1 ≤ c.top ∧ c.top ≤ c.vocab) ∧ (0 ≤ c.heat ∧ c.heat ≤ 8)
instance (c : Cfg) : Decidable c.ok := by unfold Cfg.ok; infer_instance
theorem at_nat {w : World} {A : Option Addr} {k : IntKind} {xs : List Int} (h : (Kd.int k).C w A xs.length xs) (i : Nat) (h1 : i < xs.length) : ∃ ad : Addr, A = some ad ∧ w.cell? (ad.add i) = some (.int k (xs.getD i 0)) := by
  obtain ⟨ad, e, h2⟩ := Kd.at_int h (i : Int) (by omega) (by omega)
  exact ⟨ad, e, by simpa [rd] using h2⟩
def badT (c : Cfg) (t : Int) : Prop := t < 0 ∨ c.vocab ≤ t
instance (c : Cfg) (t : Int) : Decidable (badT c t) := by unfold badT; infer_instance
theorem mayf_any (c : Cfg) (g : Nat) (t : Int) (W : World) (hg : W.cell? ⟨g, 1, none⟩ = some (.int .i64 c.vocab)) : Calls Try.prog 72 #[.int .i64 t, .pointer (some ⟨g, 0, none⟩)] W fun e w' => e = .returned (.bool (decide (badT c t))) ∧ w' = W := by
  by_cases h0 : t < 0
  · rw [decide_eq_true (show badT c t from .inl h0)]
    have g1 : decide (t < 0) = true := decide_eq_true h0
    go_enter Try.func72, Try.ntmps72
    go_wp2_with fail
    go_ret
    exact ⟨rfl, rfl⟩
  · have g1 : decide (t < 0) = false := decide_eq_false h0
    obtain ⟨r, hr⟩ : ∃ r, decide (c.vocab ≤ t) = r := ⟨_, rfl⟩
    rw [show decide (badT c t) = r by rw [← hr]; unfold badT; simp [h0]]
    clear h0
    go_enter Try.func72, Try.ntmps72
    go_wp2_with fail
    go_ret
    exact ⟨rfl, rfl⟩
set_option maxHeartbeats 1000000 in
theorem findex_any (c : Cfg) (g : Nat) (A : Option Addr) (cp : Nat) (xs : List Int) (W : World) (hg : W.cell? ⟨g, 1, none⟩ = some (.int .i64 c.vocab)) (hx : (Kd.int .i64).C W A xs.length xs) :
    Calls Try.prog 81 #[.slice A xs.length cp, .func (.func 72) #[] #[.pointer (some ⟨g, 0, none⟩)]] W fun e w' => ∃ r : Int, e = .returned (.int .i64 r) ∧ (decide (0 ≤ r) = decide (∃ t ∈ xs, badT c t)) ∧ w' = W := by
  obtain ⟨n, hn⟩ : ∃ n, xs.length = n := ⟨_, rfl⟩
  have hn9 : n ≤ 9223372036854775807 := by rw [← hn]; exact hx.2.1
  have HN := Lib.hid hn
  have HX := Lib.hid hx
  rw [hn]
  clear hn hx
  go_enter Try.func81, Try.ntmps81
  go_wp2_with fail
  go_loopw [8] (fun s wr => ∃ i : Nat, s = .int .i64 i ∧ i ≤ n ∧ Hid (∀ t ∈ xs.take i, ¬ badT c t) ∧ wr = W) (fun s _ => n - (intOf s).toNat)
  case atStart => exact ⟨0, rfl, by omega, Lib.hid (by simp), rfl⟩
  case round =>
    obtain ⟨i, rfl, hi, HT, hw⟩ := hrel
    subst hw
    by_cases hin : i < n
    · obtain ⟨b, e1, q1⟩ := at_nat HX.out i (by rw [HN.out]; exact hin)
      subst e1
      have HTK := Lib.hid (show xs.take (i + 1) = xs.take i ++ [xs.getD i 0] by
        rw [List.take_succ_eq_append_getElem (by rw [HN.out]; exact hin), List.getD_eq_getElem?_getD, List.getElem?_eq_getElem (by rw [HN.out]; exact hin)]; rfl)
      have HIN := Lib.hid (show xs.getD i 0 ∈ xs by
        rw [List.getD_eq_getElem?_getD, List.getElem?_eq_getElem (by rw [HN.out]; exact hin)]; exact List.getElem_mem _)
      obtain ⟨t, ht⟩ : ∃ t, xs.getD i 0 = t := ⟨_, rfl⟩
      rw [ht] at q1 HTK HIN
      have HM := Lib.hid (mayf_any c g t wr hg)
      clear ht
      by_cases hb : badT c t
      · have HBD := Lib.hid hb
        rw [decide_eq_true hb] at HM
        clear hb
        go_wp2_with fail
        refine HM.out.mono ?_
        rintro e w2 ⟨rfl, hw⟩
        replace hw := hw.symm
        subst hw
        go_wp2_with fail
        go_ret
        exact ⟨i, rfl, by rw [decide_eq_true (show (0 : Int) ≤ (i : Int) by omega), decide_eq_true (show ∃ t ∈ xs, badT c t from ⟨t, HIN.out, HBD.out⟩)], rfl⟩
      · have HBD := Lib.hid hb
        rw [decide_eq_false hb] at HM
        have HT2 := Lib.hid (show ∀ u ∈ xs.take (i + 1), ¬ badT c u by
          intro u hu
          rw [HTK.out] at hu
          rcases List.mem_append.1 hu with hu | hu
          · exact HT.out u hu
          · obtain rfl : u = t := by simpa using hu
            exact hb)
        clear hb
        go_wp2_with fail
        refine HM.out.mono ?_
        rintro e w2 ⟨rfl, hw⟩
        replace hw := hw.symm
        subst hw
        go_wp2_with fail
        go_roundw
        case rel => exact ⟨i + 1, by go_num, by omega, HT2, by first | rfl | trivial⟩
        case measure => simp [intOf]; omega
    · have HF := Lib.hid (show ¬ ∃ t ∈ xs, badT c t by
        rintro ⟨t, ht, hb⟩
        refine HT.out t ?_ hb
        rwa [List.take_of_length_le (by rw [HN.out]; omega)])
      go_wp2_with fail
      go_ret
      exact ⟨-1, rfl, by rw [decide_eq_false HF.out]; rfl, rfl⟩
theorem fcontains_any (c : Cfg) (g : Nat) (A : Option Addr) (cp : Nat) (xs : List Int) (W : World) (hg : W.cell? ⟨g, 1, none⟩ = some (.int .i64 c.vocab)) (hx : (Kd.int .i64).C W A xs.length xs) :
    Calls Try.prog 73 #[.slice A xs.length cp, .func (.func 72) #[] #[.pointer (some ⟨g, 0, none⟩)]] W fun e w' => e = .returned (.bool (decide (∃ t ∈ xs, badT c t))) ∧ w' = W := by
  have HF := Lib.hid (findex_any c g A cp xs W hg hx)
  obtain ⟨b, hb⟩ : ∃ b, decide (∃ t ∈ xs, badT c t) = b := ⟨_, rfl⟩
  rw [hb] at HF ⊢
  obtain ⟨n, hn⟩ : ∃ n, xs.length = n := ⟨_, rfl⟩
  rw [hn] at HF ⊢
  clear hb hx hn
  go_enter Try.func73, Try.ntmps73
  go_wp2_with fail
  refine HF.out.mono ?_
  rintro e w2 ⟨r, rfl, hr, hw⟩
  replace hw := hw.symm
  subst hw
  go_wp2_with fail
  go_ret
  exact ⟨rfl, rfl⟩
/-- May a job be? -/
def Jok (c : Cfg) (xs : List Int) (most : Int) : Prop := 0 ≤ most ∧ most ≤ 256 ∧ xs.length < 256 ∧ ∀ t ∈ xs, ¬ badT c t
instance (c : Cfg) (xs : List Int) (most : Int) : Decidable (Jok c xs most) := by unfold Jok; infer_instance
set_option maxHeartbeats 1000000 in
theorem dmay_any (c : Cfg) (sd most : Int) (A : Option Addr) (cp : Nat) (xs : List Int) (W : World) (hx : (Kd.int .i64).C W A xs.length xs) :
    Calls Try.prog 54 #[c.v, .agg #[.int .u64 sd, .slice A xs.length cp, .int .i64 most]] W fun e w' => e = .returned (.bool (decide (Jok c xs most))) ∧ Below W.heap.size W w' := by
  rw [show c.v = .agg #[.int .u64 c.seed, .int .i64 c.vocab, .int .i64 c.dim, .int .i64 c.layers, .int .i64 c.top, .int .i64 c.heat] from rfl]
  obtain ⟨n, hn⟩ : ∃ n, xs.length = n := ⟨_, rfl⟩
  rw [hn]
  obtain ⟨W0, hW0⟩ : ∃ W0, (W.alloc (.cells #[.int .u64 c.seed, .int .i64 c.vocab, .int .i64 c.dim, .int .i64 c.layers, .int .i64 c.top, .int .i64 c.heat] 24)).alloc (.cells #[.int .u64 sd, .slice A n cp, .int .i64 most] 44) = W0 := ⟨_, rfl⟩
  have hB : Below W.heap.size W W0 := by rw [← hW0]; exact below_alloc (below_alloc (Below.refl _ W) _) _
  obtain ⟨g, hg⟩ : ∃ g, W.heap.size = g := ⟨_, rfl⟩
  obtain ⟨j, hj⟩ : ∃ j, g + 1 = j := ⟨_, rfl⟩
  have h1 : W0.heap[g]? = some (.cells #[.int .u64 c.seed, .int .i64 c.vocab, .int .i64 c.dim, .int .i64 c.layers, .int .i64 c.top, .int .i64 c.heat] 24 (0, 0)) := by rw [← hW0, ← hg]; exact blk_alloc (heap_alloc_new W _) _
  have h2 : W0.heap[j]? = some (.cells #[.int .u64 sd, .slice A n cp, .int .i64 most] 44 (0, 0)) := by rw [← hW0, ← hj, ← hg]; exact heap_alloc2_new W _ _
  have HCF := Lib.hid (fcontains_any c g A cp xs W0 (by rw [blk_cell h1]; rfl) (Kd.C_below hx hB))
  have HW := Lib.hid hW0
  have HG := Lib.hid hg
  have HJ := Lib.hid hj
  have HB := Lib.hid hB
  have y1 := blk_cell h2 1
  have y2 := blk_cell h2 2
  obtain ⟨b, hb⟩ : ∃ b, decide (∃ t ∈ xs, badT c t) = b := ⟨_, rfl⟩
  rw [hn] at HCF
  rw [hb] at HCF
  have HR := Lib.hid (show decide (Jok c xs most) = (decide (0 ≤ most) && decide (most ≤ 256) && decide (n < 256) && !b) by
    rw [← hb, ← hn]
    have e : decide (∀ t, t ∈ xs → ¬ badT c t) = !decide (∃ t ∈ xs, badT c t) := by
      by_cases h : ∃ t ∈ xs, badT c t
      · rw [decide_eq_true h, decide_eq_false (fun h2 => by obtain ⟨t, ht, hb⟩ := h; exact h2 t ht hb)]; rfl
      · rw [decide_eq_false h, decide_eq_true (show ∀ t, t ∈ xs → ¬ badT c t from fun t ht hb => h ⟨t, ht, hb⟩)]; rfl
    rw [← e]
    unfold Jok
    by_cases q1 : 0 ≤ most <;> by_cases q2 : most ≤ 256 <;> by_cases q3 : xs.length < 256 <;> simp [q1, q2, q3])
  obtain ⟨R, hR⟩ : ∃ R, decide (Jok c xs most) = R := ⟨_, rfl⟩
  rw [hR] at HR ⊢
  clear hx hW0 hB hg hj h1 h2 hn hb hR
  by_cases q1 : 0 ≤ most
  · by_cases q2 : most ≤ 256
    · by_cases q3 : n < 256
      · have HE := Lib.hid (show R = !b by rw [HR.out]; simp [q1, q2, q3])
        go_enter Try.func54, Try.ntmps54
        go_wp2_with fail
        try rw [HG.out]
        try rw [HJ.out]
        try rw [HW.out]
        refine HCF.out.mono ?_
        rintro e w2 ⟨rfl, hw⟩
        replace hw := hw.symm
        subst hw
        go_wp2_with fail
        go_ret
        exact ⟨by rw [HE.out]; first | rfl | (cases b <;> rfl), by first | exact HB.out | (rw [← HG.out]; exact HB.out)⟩
      · have HE := Lib.hid (show R = false by rw [HR.out]; simp [q3])
        go_enter Try.func54, Try.ntmps54
        go_wp2_with fail
        go_ret
        try rw [HG.out]
        try rw [HJ.out]
        try rw [HW.out]
        exact ⟨by rw [HE.out]; rfl, by first | exact HB.out | (rw [← HG.out]; exact HB.out)⟩
    · have HE := Lib.hid (show R = false by rw [HR.out]; simp [q2])
      go_enter Try.func54, Try.ntmps54
      go_wp2_with fail
      go_ret
      try rw [HG.out]
      try rw [HJ.out]
      try rw [HW.out]
      exact ⟨by rw [HE.out]; rfl, by first | exact HB.out | (rw [← HG.out]; exact HB.out)⟩
  · have HE := Lib.hid (show R = false by rw [HR.out]; simp [q1])
    go_enter Try.func54, Try.ntmps54
    go_wp2_with fail
    go_ret
    try rw [HG.out]
    try rw [HJ.out]
    try rw [HW.out]
    exact ⟨by rw [HE.out]; rfl, by first | exact HB.out | (rw [← HG.out]; exact HB.out)⟩

end Go.Proofs.Ytmbhicjjbgbneaa
