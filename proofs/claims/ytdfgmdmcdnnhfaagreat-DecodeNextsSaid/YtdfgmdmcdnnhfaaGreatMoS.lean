/- (*Model).ok, Config, row, Token, Place, Rows; (*Model).row, Token, Place, Rows; Fields of structs that are no cells. -/
import Derived.Test.YtdfgmdmcdnnhfaaGreatMoM
import Derived.Deep.QuietTactic
import Derived.Test.YtdfgmdmcdnnhfaaGreatProg
import Derived.WalkKit
import Derived.KernelRfl
import Derived.Tactics
namespace Go.Proofs.YtdfgmdmcdnnhfaaGreat
open Go.RowKit Go.Shelf Go.Proofs.YtdfgmdmcdnnhfaaGreatW.PrintWords Go.Proofs.YtdfgmdmcdnnhfaaGreatW.PrintLast Go.Proofs.YtdfgmdmcdnnhfaaGreatW.PrintMore
set_option linter.unusedVariables false
set_option linter.unusedSimpArgs false
set_option maxRecDepth 100000
attribute [local go_sem] gb_max2 gb_min2 gb_max_two gb_min_two gb_max_three gb_min_three

theorem mok_any (W : World) (p : Nat) (c : Cfg) (h : Mo W p c) :
    Calls Tryz.prog 42 #[.pointer (some ⟨p, 0, none⟩)] W fun e w' => e = .returned (.bool true) ∧ W = w' := by
  obtain ⟨-, -, -, -, -, -, A, k, m6, -, -⟩ := h.at_
  obtain ⟨n, hn⟩ : ∃ n, (mtables c).length = n := ⟨_, rfl⟩
  have hn0 : 0 < n := by rw [← hn, mtables_len]; omega
  rw [hn] at m6
  clear h hn
  go_enter Tryz.func42, Tryz.ntmps42
  go_wp2_with fail
  go_ret
  exact ⟨rfl, rfl⟩
theorem mok_nil (W : World) :
    Calls Tryz.prog 42 #[.pointer none] W fun e w' => e = .returned (.bool false) ∧ W = w' := by
  go_enter Tryz.func42, Tryz.ntmps42
  go_wp2_with fail
  go_ret
  exact ⟨rfl, rfl⟩

theorem config_any (W : World) (p : Nat) (c : Cfg) (h : Mo W p c) :
    Calls Tryz.prog 26 #[.pointer (some ⟨p, 0, none⟩)] W fun e w' => e = .returned c.v ∧ Below W.heap.size W w' := by
  have HMo := Lib.hid (h.below ((Below.refl _ W).alloc (Nat.le_refl _) (.cells #[.int .u64 0, .int .i64 0, .int .i64 0, .int .i64 0, .int .i64 0, .int .i64 0] 24)))
  have HV := Lib.hid (show c.v = .agg #[.int .u64 c.seed, .int .i64 c.vocab, .int .i64 c.dim, .int .i64 c.layers, .int .i64 c.top, .int .i64 c.heat] from rfl)
  rw [HV.out]
  obtain ⟨W0, hW0⟩ : ∃ W0, W.alloc (.cells #[.int .u64 0, .int .i64 0, .int .i64 0, .int .i64 0, .int .i64 0, .int .i64 0] 24) = W0 := ⟨_, rfl⟩
  obtain ⟨g, hg⟩ : ∃ g, W.heap.size = g := ⟨_, rfl⟩
  have HB0 := Lib.hid (show Below W.heap.size W W0 by rw [← hW0]; exact below_alloc (Below.refl _ W) _)
  have hh : W0.heap[g]? = some (.cells #[.int .u64 0, .int .i64 0, .int .i64 0, .int .i64 0, .int .i64 0, .int .i64 0] 24 (0, 0)) := by rw [← hW0, ← hg]; exact heap_alloc_new _ _
  have hge : W.heap.size ≤ g := by omega
  rw [hW0] at HMo
  have HW0 := Lib.hid hW0
  have HG := Lib.hid hg
  have z0 : W0.cell? ⟨g, 0, none⟩ = some (.int .u64 0) := by rw [blk_cell hh]; rfl
  have z1 : W0.cell? ⟨g, 1, none⟩ = some (.int .i64 0) := by rw [blk_cell hh]; rfl
  have z2 : W0.cell? ⟨g, 2, none⟩ = some (.int .i64 0) := by rw [blk_cell hh]; rfl
  have z3 : W0.cell? ⟨g, 3, none⟩ = some (.int .i64 0) := by rw [blk_cell hh]; rfl
  have z4 : W0.cell? ⟨g, 4, none⟩ = some (.int .i64 0) := by rw [blk_cell hh]; rfl
  have z5 : W0.cell? ⟨g, 5, none⟩ = some (.int .i64 0) := by rw [blk_cell hh]; rfl
  have f0 := blk_frozen hh 0
  have f1 := blk_frozen hh 1
  have f2 := blk_frozen hh 2
  have f3 := blk_frozen hh 3
  have f4 := blk_frozen hh 4
  have f5 := blk_frozen hh 5
  have HH := Lib.hid hh
  clear h hW0 hg hh
  go_enter Tryz.func26, Tryz.ntmps26
  go_wp2_with fail
  rw [HW0.out, HG.out]
  refine (mok_any _ p c HMo.out).mono ?_
  rintro e w' ⟨rfl, rfl⟩
  obtain ⟨m0, m1, m2, m3, m4, m5, -⟩ := HMo.out.at_
  go_wp2_with fail
  refine bodyPost_ret (results_cell_row rfl _ _ g 24 #[.int .u64 c.seed, .int .i64 c.vocab, .int .i64 c.dim, .int .i64 c.layers, .int .i64 c.top, .int .i64 c.heat] (0, 0) _ rfl (blk_set (blk_set (blk_set (blk_set (blk_set (blk_set HH.out 0 _) 1 _) 2 _) 3 _) 4 _) 5 _) Tryz.underlying24 rfl (by kernel_rfl)) rfl ?_
  exact ⟨rfl, (((((HB0.out.setCell (p := ⟨g, 0, none⟩) hge _).setCell (p := ⟨g, 1, none⟩) hge _).setCell (p := ⟨g, 2, none⟩) hge _).setCell (p := ⟨g, 3, none⟩) hge _).setCell (p := ⟨g, 4, none⟩) hge _).setCell (p := ⟨g, 5, none⟩) hge _⟩

end Go.Proofs.YtdfgmdmcdnnhfaaGreat

namespace Go.Proofs.YtdfgmdmcdnnhfaaGreat
open Go.RowKit Go.Shelf Go.Proofs.YtdfgmdmcdnnhfaaGreatW.PrintWords Go.Proofs.YtdfgmdmcdnnhfaaGreatW.PrintLast Go.Proofs.YtdfgmdmcdnnhfaaGreatW.PrintMore
set_option linter.unusedVariables false
set_option linter.unusedSimpArgs false
set_option maxRecDepth 100000
attribute [local go_sem] gb_max2 gb_min2 gb_max_two gb_min_two gb_max_three gb_min_three

theorem KT_at {w : World} {A : Option Addr} {n : Nat} {ts : List (List (List Int))} (h : KT.C w A n ts) (k : Nat) (hk : k < n) :
    ∃ (ad : Addr) (A' : Option Addr) (c' : Nat), A = some ad ∧ w.cell? (ad.add k) = some (.slice A' (ts.getD k []).length c') ∧ (ts.getD k []).length ≤ c' ∧ Rows_ w A' (ts.getD k []) := by
  obtain ⟨ad, c, e, hl, hK, hcell⟩ := Kd.C_get h [] (k : Int) (by omega) (by omega)
  obtain ⟨A', c', rfl, h1, h2⟩ := hK
  refine ⟨ad, A', c', e, ?_, by simpa using h1, by unfold Rows_; simpa using h2⟩
  have := hcell 0 _ rfl
  simpa [show KT.sz = 1 from rfl] using this
/-- Row r of a table. -/
def tget (tb : List (List Int)) (r : Int) : List Int := if 0 ≤ r ∧ r < tb.length then tb.getD r.toNat [] else []

theorem mrow_any (W : World) (p : Nat) (c : Cfg) (h : Mo W p c) (tI : Int) (t : Nat) (hI : tI = t) (tb : List (List Int)) (ht : t < (mtables c).length) (htb : (mtables c).getD t [] = tb) (hs : Short tb) (r : Int) :
    Calls Tryz.prog 66 #[.pointer (some ⟨p, 0, none⟩), .int .i64 tI, .int .i64 r] W (RowR (tget tb r) W) := by
  subst hI
  have HMo := Lib.hid h
  obtain ⟨-, -, -, -, -, -, A, k, m6, hk, hC⟩ := h.at_
  obtain ⟨n, hn⟩ : ∃ n, (mtables c).length = n := ⟨_, rfl⟩
  rw [hn] at m6 hk hC ht
  obtain ⟨ad, A', c', rfl, q1, hc', hR⟩ := KT_at hC t ht
  rw [htb] at q1 hc' hR
  obtain ⟨N, hN⟩ : ∃ N, tb.length = N := ⟨_, rfl⟩
  have hN9 : N ≤ 9223372036854775807 := by rw [← hN]; exact hR.2.1
  have HR := Lib.hid hR
  have HN := Lib.hid hN
  have HS := Lib.hid hs
  rw [hN] at q1 hc'
  unfold RowR
  clear h hn hC htb hR hN hs
  by_cases h0 : r < 0
  · have HF := Lib.hid (show tget tb r = [] by unfold tget; rw [if_neg (by omega)])
    go_enter Tryz.func66, Tryz.ntmps66
    go_wp2_with fail
    refine (mok_any W p c HMo.out).mono ?_
    rintro e w' ⟨rfl, rfl⟩
    go_wp2_with fail
    go_ret
    exact ⟨_, rfl, by rw [HF.out]; exact Kd.R_nil _ _ _ _ _, Below.refl _ _⟩
  · obtain ⟨q, rfl⟩ : ∃ q : Nat, r = q := ⟨r.toNat, by omega⟩
    by_cases h1 : q < N
    · have HF := Lib.hid (show tget tb q = tb.getD q [] by unfold tget; rw [if_pos (by rw [HN.out]; omega)]; rfl)
      obtain ⟨a, A2, c2, ea, q2, hc2, hC2⟩ := HR.out.at_ q (by rw [HN.out]; exact h1)
      subst ea
      have hs2 := HS.out q
      have g1 : decide ((N : Int) ≤ q) = false := decide_eq_false (by omega)
      obtain ⟨xs, hxs⟩ : ∃ xs, tb.getD q [] = xs := ⟨_, rfl⟩
      rw [hxs] at q2 hc2 hC2 hs2 HF
      have HC2 := Lib.hid hC2
      obtain ⟨m, hm⟩ : ∃ m, xs.length = m := ⟨_, rfl⟩
      have HM := Lib.hid hm
      rw [hm] at q2 hc2 hs2
      clear hxs hC2 hm
      go_enter Tryz.func66, Tryz.ntmps66
      go_wp2_with fail
      refine (mok_any W p c HMo.out).mono ?_
      rintro e w' ⟨rfl, rfl⟩
      go_wp2_with fail
      rw [← HM.out]
      refine (clone_any A2 c2 xs W HC2.out (by rw [HM.out]; exact hc2) (by rw [HM.out]; omega)).mono ?_
      rintro e w2 ⟨v2, rfl, ho2, hb2⟩
      have HO2 := Lib.hid ho2
      have HB2 := Lib.hid hb2
      clear ho2 hb2
      go_wp2_with fail
      go_ret
      exact ⟨_, rfl, by rw [HF.out]; exact HO2.out, HB2.out⟩
    · have HF := Lib.hid (show tget tb q = [] by unfold tget; rw [if_neg (by rw [HN.out]; omega)])
      have g1 : decide ((N : Int) ≤ q) = true := decide_eq_true (by omega)
      go_enter Tryz.func66, Tryz.ntmps66
      go_wp2_with fail
      refine (mok_any W p c HMo.out).mono ?_
      rintro e w' ⟨rfl, rfl⟩
      go_wp2_with fail
      go_ret
      exact ⟨_, rfl, by rw [HF.out]; exact Kd.R_nil _ _ _ _ _, Below.refl _ _⟩

theorem tget_tok (c : Cfg) (hok : c.ok) (t : Int) : tget (mtab c 0 c.vocab.toNat) t = mtok c t := by
  unfold tget mtok
  rw [mtab_len]
  by_cases h : 0 ≤ t ∧ t < c.vocab
  · rw [if_pos h, if_pos (by have := hok.1; omega), mtab_get c 0 _ _ (by have := hok.1; omega)]
    congr 1; omega
  · rw [if_neg h, if_neg (by have := hok.1; omega)]
theorem tget_plc (c : Cfg) (p : Int) : tget ((List.range 256).map fun r : Nat => mplace c r) p = mplc c p := by
  unfold tget mplc
  rw [List.length_map, List.length_range]
  by_cases h : 0 ≤ p ∧ p < 256
  · rw [if_pos h, if_pos (by omega), List.getD_eq_getElem?_getD, List.getElem?_map, List.getElem?_range (by omega)]
    show mplace c (p.toNat : Int) = mplace c p
    congr 1; omega
  · rw [if_neg h, if_neg (by omega)]
theorem short_tab (c : Cfg) (hok : c.ok) (t : Int) (n : Nat) : Short (mtab c t n) := by
  intro j
  by_cases h : j < n
  · rw [mtab_get c t n j h, mrow_len]; have := hok.2.1; omega
  · rw [List.getD_eq_getElem?_getD, List.getElem?_eq_none (by rw [mtab_len]; omega)]; simp
theorem short_plc (c : Cfg) (hok : c.ok) : Short ((List.range 256).map fun r : Nat => mplace c r) := by
  intro j
  rw [List.getD_eq_getElem?_getD, List.getElem?_map]
  cases (List.range 256)[j]? with
  | none => simp
  | some q =>
    show (mplace c (q : Int)).length ≤ 4096
    rw [mplace_len]; have := hok.2.1; omega

theorem token_any (W : World) (p : Nat) (c : Cfg) (hok : c.ok) (h : Mo W p c) (t : Int) :
    Calls Tryz.prog 45 #[.pointer (some ⟨p, 0, none⟩), .int .i64 t] W (RowR (mtok c t) W) := by
  have HC := Lib.hid (mrow_any W p c h 0 0 rfl (mtab c 0 c.vocab.toNat) (by rw [mtables_len]; omega) rfl (short_tab c hok 0 _) t)
  rw [tget_tok c hok] at HC
  unfold RowR at HC ⊢
  clear h hok
  go_enter Tryz.func45, Tryz.ntmps45
  go_wp2_with fail
  refine HC.out.mono ?_
  rintro e w2 ⟨v2, rfl, ho2, hb2⟩
  have HO2 := Lib.hid ho2
  have HB2 := Lib.hid hb2
  clear ho2 hb2
  go_wp2_with fail
  go_ret
  exact ⟨_, rfl, HO2.out, HB2.out⟩
theorem place_any (W : World) (p : Nat) (c : Cfg) (hok : c.ok) (h : Mo W p c) (t : Int) :
    Calls Tryz.prog 46 #[.pointer (some ⟨p, 0, none⟩), .int .i64 t] W (RowR (mplc c t) W) := by
  have HC := Lib.hid (mrow_any W p c h 1 1 rfl ((List.range 256).map fun r : Nat => mplace c r) (by rw [mtables_len]; omega) rfl (short_plc c hok) t)
  rw [tget_plc c] at HC
  unfold RowR at HC ⊢
  clear h hok
  go_enter Tryz.func46, Tryz.ntmps46
  go_wp2_with fail
  refine HC.out.mono ?_
  rintro e w2 ⟨v2, rfl, ho2, hb2⟩
  have HO2 := Lib.hid ho2
  have HB2 := Lib.hid hb2
  clear ho2 hb2
  go_wp2_with fail
  go_ret
  exact ⟨_, rfl, HO2.out, HB2.out⟩

def TabO (xss : List (List Int)) (w : World) (e : Ending) (w' : World) : Prop := ∃ v, e = .returned v ∧ (Kd.slice 2 (Kd.int .i64)).R 55 w' w.heap.size (fun _ => True) v xss ∧ Below w.heap.size w w'
theorem mrows_len (c : Cfg) (l k : Int) : (mrows c l k).length ≤ c.dim.toNat := by
  unfold mrows; split
  · rw [mtab_len]; exact Nat.le_refl _
  · simp
set_option maxHeartbeats 1000000 in
theorem mrows_any (W : World) (p : Nat) (c : Cfg) (hok : c.ok) (h : Mo W p c) (l k : Int) :
    Calls Tryz.prog 95 #[.pointer (some ⟨p, 0, none⟩), .int .i64 l, .int .i64 k] W (TabO (mrows c l k) W) := by
  have HMo := Lib.hid h
  obtain ⟨L, hL⟩ : ∃ L : Nat, c.layers = L := ⟨c.layers.toNat, by have := hok.2.2.1; omega⟩
  obtain ⟨D, hD⟩ : ∃ D : Nat, c.dim = D := ⟨c.dim.toNat, by have := hok.2.1; omega⟩
  have hL1 : 1 ≤ L := by have := hok.2.2.1; omega
  have hL4 : L ≤ 4 := by have := hok.2.2.1; omega
  have hD16 : D ≤ 16 := by have := hok.2.1; omega
  obtain ⟨-, -, -, m3, -, -, A, kk, m6, hk, hC⟩ := h.at_
  have HD := Lib.hid hD
  rw [hL] at m3
  unfold TabO
  by_cases h0 : 0 ≤ l ∧ l ≤ (L : Int) - 1
  · by_cases h1 : 0 ≤ k ∧ k ≤ 5
    · have HF := Lib.hid (show mrows c l k = mtab c (2 + (6 * l + k)) D by unfold mrows; rw [if_pos (by omega), hD]; rfl)
      obtain ⟨ln, rfl⟩ : ∃ ln : Nat, l = ln := ⟨l.toNat, by omega⟩
      obtain ⟨kn, rfl⟩ : ∃ kn : Nat, k = kn := ⟨k.toNat, by omega⟩
      obtain ⟨n, hn⟩ : ∃ n, (mtables c).length = n := ⟨_, rfl⟩
      have hn2 : n = 2 + 6 * L := by rw [← hn, mtables_len, hL]; omega
      obtain ⟨T, hT⟩ : ∃ T : Nat, 2 + 6 * ln + kn = T := ⟨_, rfl⟩
      have htb : (mtables c).getD T [] = mtab c (2 + (6 * ln + kn)) D := by
        unfold mtables
        rw [List.getD_eq_getElem?_getD, List.getElem?_append_right (by simp; omega), List.getElem?_map, List.getElem?_range (by simp; omega), hD]
        show mtab c (2 + ((T - 2 : Nat) : Int)) D = _
        congr 1; omega
      rw [hn] at m6 hk hC
      obtain ⟨ad, A', c', rfl, q1, hc', hR⟩ := KT_at hC T (by omega)
      have HS := Lib.hid (short_tab c hok (2 + (6 * ln + kn)) D)
      obtain ⟨tb, htt⟩ : ∃ tb, mtab c (2 + (6 * ln + kn)) D = tb := ⟨_, rfl⟩
      have hN : tb.length = D := by rw [← htt, mtab_len]
      rw [htb, htt, hN] at q1 hc'
      rw [htb, htt] at hR
      rw [htt] at HF HS
      have HR := Lib.hid hR
      have HN := Lib.hid hN
      have hlnL : ln ≤ 3 := by omega
      have e1 : (2 + 6 * (ln : Int) + (kn : Int)).toNat = T := by omega
      have b1 : 0 ≤ 2 + 6 * (ln : Int) + (kn : Int) := by omega
      have b2 : 2 + 6 * (ln : Int) + (kn : Int) < (n : Int) := by omega
      have hk5 : kn ≤ 5 := by omega
      have HY1 := Lib.hid (And.intro h0.1 h0.2)
      have HY2 := Lib.hid (And.intro h1.1 h1.2)
      have hbx := Lib.hid (fun (W' : World) (hb : Below W.heap.size W W') (q : Nat) (hq : q < D) => (hR.below hb).at_ q (by rw [hN]; exact hq))
      clear h hL hD hok hk hC hn hn2 hT htb htt hR hN h0 h1
      go_enter Tryz.func95, Tryz.ntmps95
      go_wp2_with fail
      refine (mok_any W p c HMo.out).mono ?_
      rintro e w' ⟨rfl, rfl⟩
      go_wp2_with fail
      refine (min_yes _ _ _ _ HY1.out.1 HY1.out.2).mono ?_
      rintro e w' ⟨rfl, rfl⟩
      go_wp2_with fail
      refine (min_yes _ _ _ _ HY2.out.1 HY2.out.2).mono ?_
      rintro e w' ⟨rfl, rfl⟩
      go_wp2_with fail
      go_loopw [7, 41] (fun v q wr => ∃ (j : Nat) (v' : Value), v' = v ∧ q = .int .i64 j ∧ j ≤ D ∧ (Kd.slice 2 (Kd.int .i64)).R 55 wr W.heap.size (fun _ => True) v (tb.take j) ∧ Below W.heap.size W wr) (fun _ q _ => D - (intOf q).toNat)
      case atStart => exact ⟨0, _, rfl, rfl, by omega, Kd.R_nil _ _ _ _ _, Below.refl _ _⟩
      case round =>
        obtain ⟨j, v, rfl, rfl, hj, ho, hb⟩ := hrel
        have HO := Lib.hid ho
        have HB := Lib.hid hb
        have hsz := hb.size
        by_cases hjD : j < D
        · obtain ⟨a, A2, c2, ea, q2, hc2, hC2⟩ := hbx.out _ hb j hjD
          subst ea
          have hs2 := HS.out j
          have HJ := Lib.hid (show tb.take (j + 1) = tb.take j ++ [tb.getD j []] by
            rw [List.take_succ_eq_append_getElem (by rw [HN.out]; exact hjD), List.getD_eq_getElem?_getD, List.getElem?_eq_getElem (by rw [HN.out]; exact hjD)]; rfl)
          have HT := Lib.hid (show (tb.take j).length = j by rw [List.length_take, HN.out]; omega)
          obtain ⟨xs, hxs⟩ : ∃ xs, tb.getD j [] = xs := ⟨_, rfl⟩
          rw [hxs] at q2 hc2 hC2 hs2 HJ
          have HC2 := Lib.hid hC2
          obtain ⟨m, hm⟩ : ∃ m, xs.length = m := ⟨_, rfl⟩
          have HM := Lib.hid hm
          rw [hm] at q2 hc2 hs2
          clear hxs hC2 hm ho hb
          go_wp2_with fail
          rw [← HM.out]
          refine (clone_any A2 c2 xs wr HC2.out (by rw [HM.out]; exact hc2) (by rw [HM.out]; omega)).mono ?_
          rintro e w2 ⟨v2, rfl, ho2, hb2⟩
          obtain ⟨A3, c3, hv2, -, -⟩ := Kd.R_reads ho2
          rw [HM.out] at hv2
          subst hv2
          have HO2 := Lib.hid (Kd.R_below HO.out hb2)
          obtain ⟨inner, hown⟩ := Kd.R_own HO.out
          have HN2 := Lib.hid (Kd.R_lower (Kd.R_new ho2 hown) hsz)
          clear hown
          have HB2 := Lib.hid (below_then HB.out hsz hb2)
          have hsz2 := HB2.out.size
          clear ho2 hb2
          go_wp2_with (at_builtin; go_loud (refine Kd.R_append (Kd.slice 2 (Kd.int .i64)) (w0 := W) (W := w2) W.heap.size rfl _ _ 54 55 (.slice none 0 0) 24 rfl Tryz.underlying54 infoRow rfl (by decide) (by decide) v (tb.take j) xs [.slice A3 m c3] (fun _ => True) (fun k => True ∧ some k ≠ v.ownBlock) (by rfl) (by rfl) ⟨_, rfl, HN2.out⟩ (fun _ h => h) (fun _ _ => trivial) HO2.out HB2.out hsz2 (by rw [HT.out]; omega) ?_); intro v5 w5 hr5 hb5 hg5 hat5; have HR5 := Lib.hid hr5; have HB5 := Lib.hid hb5; clear hr5 hb5 hg5 hat5)
          go_roundw
          case rel => exact ⟨j + 1, _, rfl, by go_num, by omega, by rw [HJ.out]; exact HR5.out, HB5.out⟩
          case measure => simp [intOf]; omega
        · have HJ := Lib.hid (show tb.take j = tb from List.take_of_length_le (by rw [HN.out]; omega))
          clear ho hb
          go_wp2_with fail
          go_ret
          exact ⟨_, rfl, by rw [HF.out, ← HJ.out]; exact HO.out, HB.out⟩
    · have HF := Lib.hid (show mrows c l k = [] by unfold mrows; rw [if_neg (by omega)])
      have HY1 := Lib.hid (And.intro h0.1 h0.2)
      have HY2 := Lib.hid h1
      clear h hL hD hok hk hC h0 h1
      go_enter Tryz.func95, Tryz.ntmps95
      go_wp2_with fail
      refine (mok_any W p c HMo.out).mono ?_
      rintro e w' ⟨rfl, rfl⟩
      go_wp2_with fail
      refine (min_yes _ _ _ _ HY1.out.1 HY1.out.2).mono ?_
      rintro e w' ⟨rfl, rfl⟩
      go_wp2_with fail
      refine (min_no _ _ _ _ HY2.out).mono ?_
      rintro e w' ⟨rfl, rfl⟩
      go_wp2_with fail
      go_ret
      exact ⟨_, rfl, by rw [HF.out]; exact Kd.R_nil _ _ _ _ _, Below.refl _ _⟩
  · have HF := Lib.hid (show mrows c l k = [] by unfold mrows; rw [if_neg (by omega)])
    have HY1 := Lib.hid h0
    clear h hL hD hok hk hC h0
    go_enter Tryz.func95, Tryz.ntmps95
    go_wp2_with fail
    refine (mok_any W p c HMo.out).mono ?_
    rintro e w' ⟨rfl, rfl⟩
    go_wp2_with fail
    refine (min_no _ _ _ _ HY1.out).mono ?_
    rintro e w' ⟨rfl, rfl⟩
    go_wp2_with fail
    go_ret
    exact ⟨_, rfl, by rw [HF.out]; exact Kd.R_nil _ _ _ _ _, Below.refl _ _⟩

end Go.Proofs.YtdfgmdmcdnnhfaaGreat

namespace Go.Proofs.YtdfgmdmcdnnhfaaGreat
open Go.RowKit
set_option linter.unusedVariables false
set_option linter.unusedSimpArgs false
set_option maxRecDepth 100000

/-- A field of a configuration that is no cell. -/
theorem run_cfg1 (s v d l t h : Value) (w : World) : (Instr.field 24 (.agg #[s, v, d, l, t, h]) 1).run Tryz.prog w = .ok v w := by
  simp [Instr.field, run_underlying Tryz.underlying24, part, isAgg, run_underlying Tryz.underlying3, asAgg]
theorem run_cfg2 (s v d l t h : Value) (w : World) : (Instr.field 24 (.agg #[s, v, d, l, t, h]) 2).run Tryz.prog w = .ok d w := by
  simp [Instr.field, run_underlying Tryz.underlying24, part, isAgg, run_underlying Tryz.underlying3, asAgg]
theorem run_cfg3 (s v d l t h : Value) (w : World) : (Instr.field 24 (.agg #[s, v, d, l, t, h]) 3).run Tryz.prog w = .ok l w := by
  simp [Instr.field, run_underlying Tryz.underlying24, part, isAgg, run_underlying Tryz.underlying3, asAgg]

end Go.Proofs.YtdfgmdmcdnnhfaaGreat
