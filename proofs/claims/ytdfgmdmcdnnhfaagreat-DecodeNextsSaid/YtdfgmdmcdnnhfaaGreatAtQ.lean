/- The document's Rows and Step; Step of a layer that is not there; The document's Step. -/
import Derived.Test.YtdfgmdmcdnnhfaaGreatAtS
import Derived.Deep.Heap
namespace Go.Proofs.YtdfgmdmcdnnhfaaGreat
open Go.RowKit Go.Shelf Go.Proofs.YtdfgmdmcdnnhfaaGreatW.PrintWords Go.Proofs.YtdfgmdmcdnnhfaaGreatW.PrintLast Go.Proofs.YtdfgmdmcdnnhfaaGreatW.PrintMore
set_option linter.unusedVariables false
set_option linter.unusedSimpArgs false
set_option maxRecDepth 100000
attribute [local go_sem] gb_max2 gb_min2 gb_max_two gb_min_two gb_max_three gb_min_three run_cfg1 run_cfg2 run_cfg3

def StepO (xs : List Int) (w : World) (e : Ending) (w' : World) : Prop := ∃ A1 c1, e = .returned (.tuple #[.slice A1 xs.length c1, .slice none 0 0, .slice none 0 0]) ∧ Own w' w.heap.size 2 (.slice A1 xs.length c1) xs ∧ Below w.heap.size w w'
theorem step_out (W : World) (p : Nat) (c : Cfg) (hok : c.ok) (h : Mo W p c) (l : Int) (hl : ¬ c.in_ l) (A KA VA : Option Addr) (px nk pk nv pv : Nat) (xs : List Int) (hx : (Kd.int .i64).C W A xs.length xs) (hcx : xs.length ≤ px) (hnx : xs.length ≤ 4096) :
    Calls Tryz.prog 62 #[.pointer (some ⟨p, 0, none⟩), .int .i64 l, .slice A xs.length px, .slice KA nk pk, .slice VA nv pv] W (StepO xs W) := by
  obtain ⟨W0, hW0⟩ : ∃ W0, (W.alloc (.cells #[.pointer (some ⟨p, 0, none⟩)] 28)).alloc (.cells #[.int .i64 l] 3) = W0 := ⟨_, rfl⟩
  have hHB : Below W.heap.size W W0 := by rw [← hW0]; exact below_alloc (below_alloc (Below.refl _ W) _) _
  have hb5 : W0.cell? ⟨W.heap.size, 0, none⟩ = some (.pointer (some ⟨p, 0, none⟩)) := by rw [← hW0, blk_cell (blk_alloc (heap_alloc_new W _) _)]; rfl
  have hb6 : W0.cell? ⟨W.heap.size + 1, 0, none⟩ = some (.int .i64 l) := by rw [← hW0, blk_cell (heap_alloc2_new W _ _)]; rfl
  obtain ⟨b5, e5⟩ : ∃ b, W.heap.size = b := ⟨_, rfl⟩
  obtain ⟨b6, e6⟩ : ∃ b, W.heap.size + 1 = b := ⟨_, rfl⟩
  rw [e5] at hb5
  rw [e6] at hb6
  have hC := rowsc_any W0 p b5 b6 c hok (h.below hHB) l 0 hb5 hb6
  rw [mrows_out c l 0 hl] at hC
  have HCT := Lib.hid hC
  have HX := Lib.hid (fun (W' : World) (hb : Below W.heap.size W W') => toO (clone_any A px xs W' (Kd.C_below hx hb) hcx (by omega)))
  have HB := Lib.hid hHB
  have HW0 := Lib.hid hW0
  have E5 := Lib.hid e5
  have E6 := Lib.hid (show b5 + 1 = b6 by omega)
  obtain ⟨nx, hnxe⟩ : ∃ n, xs.length = n := ⟨_, rfl⟩
  unfold RowO at HX
  rw [hnxe] at HX
  unfold StepO
  rw [hnxe]
  clear hW0 hHB hb5 hb6 e5 e6 h hx hok hl hnxe hC hcx hnx
  go_enter Tryz.func62, Tryz.ntmps62
  go_wp2_with fail
  try rw [E5.out]
  try rw [E6.out]
  rw [HW0.out]
  refine HCT.out.mono ?_
  unfold TabC
  rintro e w1 ⟨AT, cT, rfl, hcT, hT, hb⟩
  have HB := Lib.hid (below_then HB.out HB.out.size hb)
  clear hT hb
  go_wp2_with fail
  refine (HX.out _ HB.out).mono ?_
  rintro e w2 ⟨A1, c1, rfl, ho, hb⟩
  have HO := Lib.hid (ho.lower HB.out.size)
  have HB := Lib.hid (below_then HB.out HB.out.size hb)
  clear ho hb
  go_wp2_with fail
  go_ret3
  exact ⟨A1, c1, rfl, HO.out, HB.out⟩

set_option maxHeartbeats 600000 in
theorem rrows_any (c : Cfg) (hok : c.ok) (l k : Int) (W : World) :
    Calls Tryz.prog 77 #[c.v, .int .i64 l, .int .i64 k] W (TabO (mrows c l k) W) := by
  obtain ⟨L, hL⟩ : ∃ L : Nat, c.layers = L := ⟨c.layers.toNat, by have := hok.2.2.1; omega⟩
  obtain ⟨D, hD⟩ : ∃ D : Nat, c.dim = D := ⟨c.dim.toNat, by have := hok.2.1; omega⟩
  have hL4 : L ≤ 4 := by have := hok.2.2.1; omega
  have hD16 : D ≤ 16 := by have := hok.2.1; omega
  have HBX := Lib.hid (Bx.new c W)
  have HCV := Lib.hid (show c.v = .agg #[.int .u64 c.seed, .int .i64 c.vocab, .int .i64 c.dim, .int .i64 c.layers, .int .i64 c.top, .int .i64 c.heat] from rfl)
  obtain ⟨W0, hW0⟩ : ∃ W0, W.alloc (.cells #[.int .u64 c.seed, .int .i64 c.vocab, .int .i64 c.dim, .int .i64 c.layers, .int .i64 c.top, .int .i64 c.heat] 24) = W0 := ⟨_, rfl⟩
  obtain ⟨g, hg⟩ : ∃ g, W.heap.size = g := ⟨_, rfl⟩
  have HBE := Lib.hid (show Below W.heap.size W W0 by rw [← hW0]; exact below_alloc (Below.refl _ W) _)
  rw [hW0, hg] at HBX
  have HW0 := Lib.hid hW0
  have HG := Lib.hid hg
  have HD := Lib.hid hD
  have HL := Lib.hid hL
  have HOK := Lib.hid hok
  unfold TabO
  rw [HCV.out]
  obtain ⟨x0, x1, x2, x3, x4, x5⟩ := HBX.out.at_
  rw [hL] at x3
  by_cases h0 : 0 ≤ l ∧ l < (L : Int)
  · by_cases h1 : 0 ≤ k ∧ k ≤ 5
    · have HF := Lib.hid (show mrows c l k = mtab c (2 + (6 * l + k)) D by unfold mrows; rw [if_pos (by omega), hD]; rfl)
      obtain ⟨ln, rfl⟩ : ∃ ln : Nat, l = ln := ⟨l.toNat, by omega⟩
      obtain ⟨kn, rfl⟩ : ∃ kn : Nat, k = kn := ⟨k.toNat, by omega⟩
      have hln : ln ≤ 3 := by omega
      have hkn : kn ≤ 5 := by omega
      have gl1 : (ln : Int) < c.layers := by rw [hL]; omega
      have HTD := Lib.hid (show (2 + (6 * (ln : Int) + kn) : Int) = 2 + 6 * ln + kn by omega)
      obtain ⟨tb, htb⟩ : ∃ tb, mtab c (2 + (6 * ln + kn)) D = tb := ⟨_, rfl⟩
      have HTB := Lib.hid htb
      have HTL := Lib.hid (show tb.length = D by rw [← htb, mtab_len])
      clear hok hW0 hg hL hD h0 h1 x0 x1 x2 x4 x5 htb
      go_enter Tryz.func77, Tryz.ntmps77
      go_wp2_with fail
      try rw [HG.out]
      try rw [HW0.out]
      go_loopw [7, 8] (fun v q wr => ∃ (j : Nat) (v' : Value), v' = v ∧ q = .int .i64 j ∧ j ≤ D ∧ (Kd.slice 2 (Kd.int .i64)).R 55 wr W0.heap.size (fun _ => True) v (tb.take j) ∧ Below W0.heap.size W0 wr) (fun _ q _ => D - (intOf q).toNat)
      case atStart => exact ⟨0, _, rfl, rfl, by omega, Kd.R_nil _ _ _ _ _, Below.refl _ _⟩
      case round =>
        obtain ⟨j, v, rfl, rfl, hj, ho, hb⟩ := hrel
        obtain ⟨x0, x1, x2, x3', x4, x5⟩ := (HBX.out.below hb).at_
        rw [HD.out] at x2
        have HO := Lib.hid ho
        have HB := Lib.hid hb
        have hsz := hb.size
        clear ho hb
        by_cases hjD : j < D
        · have HJ := Lib.hid (show tb.take (j + 1) = tb.take j ++ [mrow c (2 + 6 * ln + kn) j] by
            rw [List.take_succ_eq_append_getElem (by rw [HTL.out]; exact hjD)]
            congr 2
            have h := mtab_get c (2 + (6 * ln + kn)) D j hjD
            rw [HTB.out, List.getD_eq_getElem?_getD, List.getElem?_eq_getElem (by rw [HTL.out]; exact hjD), HTD.out] at h
            exact h)
          have HT := Lib.hid (show (tb.take j).length = j by rw [List.length_take, HTL.out]; omega)
          have HROW := Lib.hid (rrow_any c HOK.out (2 + 6 * ln + kn) j wr (by omega) (by omega) (by omega) (by omega))
          rw [HCV.out, HD.out] at HROW
          obtain ⟨xs, hxs⟩ : ∃ xs, mrow c (2 + 6 * ln + kn) j = xs := ⟨_, rfl⟩
          rw [hxs] at HROW HJ
          clear hxs
          go_wp2_with fail
          refine HROW.out.mono ?_
          unfold RowR
          rintro e w2 ⟨v2, rfl, ho2, hb2⟩
          obtain ⟨A3, c3, hv2, -, -⟩ := Kd.R_reads ho2
          subst hv2
          have HO2 := Lib.hid (Kd.R_below HO.out hb2)
          obtain ⟨inner, hown⟩ := Kd.R_own HO.out
          have HN2 := Lib.hid (Kd.R_lower (Kd.R_new ho2 hown) hsz)
          have HB2 := Lib.hid (below_then HB.out hsz hb2)
          have hsz2 := HB2.out.size
          clear ho2 hb2 hown x0 x1 x2 x3' x4 x5
          go_wp2_with (at_builtin; refine Kd.R_append (Kd.slice 2 (Kd.int .i64)) (w0 := W0) (W := w2) W0.heap.size rfl _ _ 54 55 (.slice none 0 0) 24 rfl Tryz.underlying54 infoRow rfl (by decide) (by decide) v (tb.take j) xs [.slice A3 xs.length c3] (fun _ => True) (fun k => True ∧ some k ≠ v.ownBlock) (by rfl) (by rfl) ⟨_, rfl, HN2.out⟩ (fun _ h => h) (fun _ _ => trivial) HO2.out HB2.out hsz2 (by rw [HT.out]; omega) ?_; intro v5 w5 hr5 hb5 hg5 hat5; have HR5 := Lib.hid hr5; have HB5 := Lib.hid hb5; clear hr5 hb5 hg5 hat5)
          go_roundw
          case rel => exact ⟨j + 1, _, rfl, by go_num, by omega, by rw [HJ.out]; exact HR5.out, HB5.out⟩
          case measure => simp [intOf]; omega
        · have HJ := Lib.hid (show tb.take j = tb from List.take_of_length_le (by rw [HTL.out]; omega))
          go_wp2_with fail
          go_ret
          exact ⟨_, rfl, by rw [HF.out, HTB.out, ← HJ.out]; exact Kd.R_lower HO.out HBE.out.size, below_then HBE.out HBE.out.size HB.out⟩
    · have HF := Lib.hid (show mrows c l k = [] by unfold mrows; rw [if_neg (by omega)])
      have g0 : ¬ l < 0 := by omega
      have g1 : l < c.layers := by rw [hL]; omega
      by_cases g2 : k < 0
      · clear hok hW0 hg hL hD h0 h1 x0 x1 x2 x4 x5
        go_enter Tryz.func77, Tryz.ntmps77
        go_wp2_with fail
        go_ret
        exact ⟨_, rfl, by rw [HF.out]; exact Kd.R_nil _ _ _ _ _, by rw [HW0.out]; exact HBE.out⟩
      · have g3 : 5 < k := by omega
        clear hok hW0 hg hL hD h0 h1 x0 x1 x2 x4 x5
        go_enter Tryz.func77, Tryz.ntmps77
        go_wp2_with fail
        go_ret
        exact ⟨_, rfl, by rw [HF.out]; exact Kd.R_nil _ _ _ _ _, by rw [HW0.out]; exact HBE.out⟩
  · have HF := Lib.hid (show mrows c l k = [] by unfold mrows; rw [if_neg (by omega)])
    by_cases g0 : l < 0
    · clear hok hW0 hg hL hD h0 x0 x1 x2 x4 x5
      go_enter Tryz.func77, Tryz.ntmps77
      go_wp2_with fail
      go_ret
      exact ⟨_, rfl, by rw [HF.out]; exact Kd.R_nil _ _ _ _ _, by rw [HW0.out]; exact HBE.out⟩
    · have g1 : c.layers ≤ l := by rw [hL]; omega
      clear hok hW0 hg hL hD h0 x0 x1 x2 x4 x5
      go_enter Tryz.func77, Tryz.ntmps77
      go_wp2_with fail
      go_ret
      exact ⟨_, rfl, by rw [HF.out]; exact Kd.R_nil _ _ _ _ _, by rw [HW0.out]; exact HBE.out⟩

end Go.Proofs.YtdfgmdmcdnnhfaaGreat

namespace Go.Proofs.YtdfgmdmcdnnhfaaGreat
open Go.RowKit Go.Shelf Go.Proofs.YtdfgmdmcdnnhfaaGreatW.PrintWords Go.Proofs.YtdfgmdmcdnnhfaaGreatW.PrintLast Go.Proofs.YtdfgmdmcdnnhfaaGreatW.PrintMore
set_option linter.unusedVariables false
set_option linter.unusedSimpArgs false
set_option maxRecDepth 100000
attribute [local go_sem] gb_max2 gb_min2 gb_max_two gb_min_two gb_max_three gb_min_three run_cfg1 run_cfg2 run_cfg3

structure RI (c : Cfg) (b5 b10 : Nat) (A KA VA : Option Addr) (xs : List Int) (ks vs : List (List Int)) (W : World) : Prop where
  bx : Bx c b5 W
  md : W.heap[b10]? = some (.cells #[.slice none 0 0, .slice none 0 0, .slice none 0 0] 94 (0, 0))
  x : (Kd.int .i64).C W A xs.length xs
  k : Rows_ W KA ks
  v : Rows_ W VA vs
theorem RI.below {c : Cfg} {b5 b10 : Nat} {A KA VA : Option Addr} {xs : List Int} {ks vs : List (List Int)} {W W' : World} (h : RI c b5 b10 A KA VA xs ks vs W) (hb : Below W.heap.size W W') : RI c b5 b10 A KA VA xs ks vs W' :=
  ⟨h.bx.below hb, blk_below h.md hb, Kd.C_below h.x hb, h.k.below hb, h.v.below hb⟩
theorem fix_typ (wc : World) : ∀ q, q ∈ 55 :: (KFix wc).E → q ≠ 2 := by
  intro q hq
  have h : q = 55 := by simpa [Kd.fixed] using hq
  subst h; decide
def BxT (c : Cfg) (b5 b10 : Nat) (W W' : World) : Prop := W'.cell? ⟨b5, 0, none⟩ = some (.int .u64 c.seed) ∧ W'.cell? ⟨b5, 1, none⟩ = some (.int .i64 c.vocab) ∧ W'.cell? ⟨b5, 2, none⟩ = some (.int .i64 c.dim) ∧ W'.cell? ⟨b5, 3, none⟩ = some (.int .i64 c.layers) ∧ W'.cell? ⟨b5, 4, none⟩ = some (.int .i64 c.top) ∧ W'.cell? ⟨b5, 5, none⟩ = some (.int .i64 c.heat) ∧ Hid (b5 < b10 ∧ W.heap.size ≤ b5 ∧ Below W.heap.size W W')
theorem BxT.step {c : Cfg} {b5 b10 : Nat} {W W1 W' : World} (h : BxT c b5 b10 W W1) (hb : Below W1.heap.size W1 W') : BxT c b5 b10 W W' := by
  obtain ⟨h0, h1, h2, h3, h4, h5, h6⟩ := h
  exact ⟨pw_cell_below hb h0, pw_cell_below hb h1, pw_cell_below hb h2, pw_cell_below hb h3, pw_cell_below hb h4, pw_cell_below hb h5, Lib.hid ⟨h6.out.1, h6.out.2.1, below_then h6.out.2.2 h6.out.2.2.size hb⟩⟩
theorem BxT.set {c : Cfg} {b5 b10 : Nat} {W W1 : World} (h : BxT c b5 b10 W W1) (i : Nat) (v : Value) : BxT c b5 b10 W (W1.setCell ⟨b10, i, none⟩ v) := by
  obtain ⟨h0, h1, h2, h3, h4, h5, h6⟩ := h
  have hne : b5 ≠ b10 := Nat.ne_of_lt h6.out.1
  have hc : ∀ k, (W1.setCell ⟨b10, i, none⟩ v).cell? ⟨b5, k, none⟩ = W1.cell? ⟨b5, k, none⟩ := fun k => by
    simp only [World.cell?, Go.Deep.blk_setCell_other W1 ⟨b10, i, none⟩ v b5 hne]
  exact ⟨by rw [hc]; exact h0, by rw [hc]; exact h1, by rw [hc]; exact h2, by rw [hc]; exact h3, by rw [hc]; exact h4, by rw [hc]; exact h5, Lib.hid ⟨h6.out.1, h6.out.2.1, h6.out.2.2.setCell (p := ⟨b10, i, none⟩) (by have := h6.out; show W.heap.size ≤ b10; omega) v⟩⟩
theorem BxT.below {c : Cfg} {b5 b10 : Nat} {W W1 : World} (h : BxT c b5 b10 W W1) : Below W.heap.size W W1 := h.2.2.2.2.2.2.out.2.2
theorem own_set3 {w : World} {g t base : Nat} {cells : Array Value} {v : Value} {xs : List Int} (h : Own w base 2 v xs) (hb : w.heap[g]? = some (.cells cells t (0, 0))) (ht : 2 ≠ t) (a b d : Value) : Own (((w.setCell ⟨g, 0, none⟩ a).setCell ⟨g, 1, none⟩ b).setCell ⟨g, 2, none⟩ d) base 2 v xs := by
  have ht' : ∀ q, q ∈ 2 :: (Kd.int .i64).E → q ≠ t := by
    intro q hq
    have h1 : q = 2 := by simpa [Kd.int, Kd.scalar] using hq
    subst h1; exact ht
  exact Kd.R_set (Kd.R_set (Kd.R_set h hb ht' 0 a) (blk_set hb 0 a) ht' 1 b) (blk_set (blk_set hb 0 a) 1 b) ht' 2 d
def RStepR (X K V : List Int) (w : World) (e : Ending) (w' : World) : Prop := ∃ A1 c1 A2 c2 A3 c3, e = .returned (.agg #[.slice A1 X.length c1, .slice A2 K.length c2, .slice A3 V.length c3]) ∧ Own w' w.heap.size 2 (.slice A1 X.length c1) X ∧ Own w' w.heap.size 2 (.slice A2 K.length c2) K ∧ Own w' w.heap.size 2 (.slice A3 V.length c3) V ∧ Below w.heap.size w w'

set_option maxHeartbeats 4000000 in
theorem rstep_in (W : World) (c : Cfg) (hok : c.ok) (l : Int) (A KA VA : Option Addr) (px pk pv : Nat) (xs : List Int) (ks vs : List (List Int)) (hx : (Kd.int .i64).C W A xs.length xs) (hcx : xs.length ≤ px) (hnx : xs.length ≤ 4096) (hk : Rows_ W KA ks) (hck : ks.length ≤ pk) (hnk : ks.length ≤ 1000) (hsk : Short ks) (hv : Rows_ W VA vs) (hcv : vs.length ≤ pv) (hnv : vs.length ≤ 1000) (hsv : Short vs) :
    Calls Tryz.prog 49 #[c.v, .int .i64 l, .slice A xs.length px, .slice KA ks.length pk, .slice VA vs.length pv] W (RStepR (aX c l xs ks vs) (aK c l xs) (aV c l xs) W) := by
  obtain ⟨W0, hW0⟩ : ∃ W0, (W.alloc (.cells #[.int .u64 c.seed, .int .i64 c.vocab, .int .i64 c.dim, .int .i64 c.layers, .int .i64 c.top, .int .i64 c.heat] 24)).alloc (.cells #[.slice none 0 0, .slice none 0 0, .slice none 0 0] 94) = W0 := ⟨_, rfl⟩
  have hHB : Below W.heap.size W W0 := by rw [← hW0]; exact below_alloc (below_alloc (Below.refl _ W) _) _
  have hb5 : Bx c W.heap.size W0 := by rw [← hW0]; exact blk_alloc (heap_alloc_new W _) _
  have hb10 : W0.heap[W.heap.size + 1]? = some (.cells #[.slice none 0 0, .slice none 0 0, .slice none 0 0] 94 (0, 0)) := by rw [← hW0]; exact heap_alloc2_new W _ _
  obtain ⟨b5, e5⟩ : ∃ b, W.heap.size = b := ⟨_, rfl⟩
  obtain ⟨b10, e10⟩ : ∃ b, W.heap.size + 1 = b := ⟨_, rfl⟩
  rw [e5] at hb5
  rw [e10] at hb10
  have hge : W.heap.size ≤ b10 := by omega
  have HS := Lib.hid (show RI c b5 b10 A KA VA xs ks vs W0 from ⟨hb5, hb10, Kd.C_below hx hHB, hk.below hHB, hv.below hHB⟩)
  have HB := Lib.hid hHB
  have HW0 := Lib.hid hW0
  have E5 := Lib.hid e5
  have E10 := Lib.hid (show b5 + 1 = b10 by omega)
  have HOK := Lib.hid hok
  have HSK := Lib.hid hsk
  have HSV := Lib.hid hsv
  have HCV := Lib.hid (show c.v = .agg #[.int .u64 c.seed, .int .i64 c.vocab, .int .i64 c.dim, .int .i64 c.layers, .int .i64 c.top, .int .i64 c.heat] from rfl)
  have hdim0 : -9223372036854775808 ≤ c.dim := by have := hok.2.1; omega
  have hdim1 : c.dim ≤ 9223372036854775807 := by have := hok.2.1; omega
  obtain ⟨X, hX⟩ : ∃ X, aX c l xs ks vs = X := ⟨_, rfl⟩
  obtain ⟨Kk, hKk⟩ : ∃ K, aK c l xs = K := ⟨_, rfl⟩
  obtain ⟨Vv, hVv⟩ : ∃ V, aV c l xs = V := ⟨_, rfl⟩
  have HX := Lib.hid hX
  have HKk := Lib.hid hKk
  have HVv := Lib.hid hVv
  obtain ⟨nx, hnxe⟩ : ∃ n, xs.length = n := ⟨_, rfl⟩
  obtain ⟨nk, hnke⟩ : ∃ n, ks.length = n := ⟨_, rfl⟩
  obtain ⟨nv, hnve⟩ : ∃ n, vs.length = n := ⟨_, rfl⟩
  have HNX := Lib.hid hnxe
  have HNK := Lib.hid hnke
  have HNV := Lib.hid hnve
  obtain ⟨mm, hmm⟩ : ∃ m, min nk nv = m := ⟨_, rfl⟩
  have HMM := Lib.hid hmm
  have hmk : mm ≤ nk := by omega
  have hmv : mm ≤ nv := by omega
  rw [hnxe] at hcx hnx
  rw [hnke] at hck hnk
  rw [hnve] at hcv hnv
  rw [hX, hKk, hVv, hnxe, hnke, hnve, HCV.out]
  have HTK := Lib.hid (show (ks.take mm).length = mm by rw [List.length_take, hnke]; omega)
  have HTV := Lib.hid (show (vs.take mm).length = mm by rw [List.length_take, hnve]; omega)
  clear hW0 hHB hb5 hb10 e5 e10 hx hk hv hok hsk hsv hX hKk hVv hnxe hnke hnve
  unfold RStepR
  go_enter Tryz.func49, Tryz.ntmps49
  have HCX := Lib.hid (rnorm_vec A px xs W0 HS.out.x (by rw [HNX.out]; exact hcx) (by rw [HNX.out]; exact hnx))
  rw [HNX.out] at HCX
  obtain ⟨n, hn⟩ : ∃ L, vnorm xs = L := ⟨_, rfl⟩
  have hln : n.length ≤ 4096 := by rw [← hn, vnorm_len', HNX.out]; exact hnx
  rw [hn] at HCX
  have Hn := Lib.hid hn
  have HCL := Lib.hid (toO HCX.out)
  clear hn HCX
  go_wp2_with fail
  try rw [E5.out]
  try rw [E10.out]
  rw [HW0.out]
  refine HCL.out.mono ?_
  unfold RowO
  rintro e wn ⟨An, cn, rfl, ho, hb⟩
  have HOn := Lib.hid (ho.lower HB.out.size)
  have HS := Lib.hid (HS.out.below hb)
  have HB := Lib.hid (below_then HB.out HB.out.size hb)
  clear ho hb HCL
  have HCL := Lib.hid (toTC (rrows_any c HOK.out l 0 wn))
  rw [HCV.out] at HCL
  obtain ⟨x0, x1, x2, x3, x4, x5⟩ := HS.out.bx.at_
  go_wp2_with fail
  refine HCL.out.mono ?_
  unfold TabC
  rintro e wn ⟨AT, cT, rfl, hcT, hT, hb⟩
  have HT := Lib.hid hT
  have HOn := Lib.hid (HOn.out.below hb)
  have HS := Lib.hid (HS.out.below hb)
  have HB := Lib.hid (below_then HB.out HB.out.size hb)
  clear hT hb HCL x0 x1 x2 x3 x4 x5
  obtain ⟨q, hq⟩ : ∃ L, vmul (mrows c l 0) n = L := ⟨_, rfl⟩
  have hlq : q.length ≤ 4096 := by rw [← hq]; exact Nat.le_trans (vmul_le c HOK.out l 0 n) (by decide)
  have HCL := Lib.hid (toO (rvmul_any AT An cT cn (mrows c l 0) n _ HT.out (mrows_short c HOK.out l 0) HOn.out.rd.2 hcT HOn.out.rd.1 (Nat.le_trans (mrows_le c HOK.out l 0) (by decide)) hln))
  rw [hq] at HCL
  have Hq := Lib.hid hq
  clear hq
  go_wp2_with fail
  refine HCL.out.mono ?_
  unfold RowO
  rintro e wn ⟨Aq, cq, rfl, ho, hb⟩
  have HOq := Lib.hid (ho.lower HB.out.size)
  have HOn := Lib.hid (HOn.out.below hb)
  have HS := Lib.hid (HS.out.below hb)
  (try have HT := Lib.hid (HT.out.below hb))
  have HB := Lib.hid (below_then HB.out HB.out.size hb)
  clear ho hb HCL
  have HCL := Lib.hid (toTC (rrows_any c HOK.out l 1 wn))
  rw [HCV.out] at HCL
  obtain ⟨x0, x1, x2, x3, x4, x5⟩ := HS.out.bx.at_
  go_wp2_with fail
  refine HCL.out.mono ?_
  unfold TabC
  rintro e wn ⟨AT, cT, rfl, hcT, hT, hb⟩
  have HT := Lib.hid hT
  have HOn := Lib.hid (HOn.out.below hb)
  have HOq := Lib.hid (HOq.out.below hb)
  have HS := Lib.hid (HS.out.below hb)
  have HB := Lib.hid (below_then HB.out HB.out.size hb)
  clear hT hb HCL x0 x1 x2 x3 x4 x5
  obtain ⟨k, hk⟩ : ∃ L, vmul (mrows c l 1) n = L := ⟨_, rfl⟩
  have hlk : k.length ≤ 4096 := by rw [← hk]; exact Nat.le_trans (vmul_le c HOK.out l 1 n) (by decide)
  have HCL := Lib.hid (toO (rvmul_any AT An cT cn (mrows c l 1) n _ HT.out (mrows_short c HOK.out l 1) HOn.out.rd.2 hcT HOn.out.rd.1 (Nat.le_trans (mrows_le c HOK.out l 1) (by decide)) hln))
  rw [hk] at HCL
  have Hk := Lib.hid hk
  clear hk
  go_wp2_with fail
  refine HCL.out.mono ?_
  unfold RowO
  rintro e wn ⟨Ak, ck, rfl, ho, hb⟩
  have HOk := Lib.hid (ho.lower HB.out.size)
  have HOn := Lib.hid (HOn.out.below hb)
  have HOq := Lib.hid (HOq.out.below hb)
  have HS := Lib.hid (HS.out.below hb)
  (try have HT := Lib.hid (HT.out.below hb))
  have HB := Lib.hid (below_then HB.out HB.out.size hb)
  clear ho hb HCL
  have HCL := Lib.hid (toTC (rrows_any c HOK.out l 2 wn))
  rw [HCV.out] at HCL
  obtain ⟨x0, x1, x2, x3, x4, x5⟩ := HS.out.bx.at_
  go_wp2_with fail
  refine HCL.out.mono ?_
  unfold TabC
  rintro e wn ⟨AT, cT, rfl, hcT, hT, hb⟩
  have HT := Lib.hid hT
  have HOn := Lib.hid (HOn.out.below hb)
  have HOq := Lib.hid (HOq.out.below hb)
  have HOk := Lib.hid (HOk.out.below hb)
  have HS := Lib.hid (HS.out.below hb)
  have HB := Lib.hid (below_then HB.out HB.out.size hb)
  clear hT hb HCL x0 x1 x2 x3 x4 x5
  obtain ⟨v, hv⟩ : ∃ L, vmul (mrows c l 2) n = L := ⟨_, rfl⟩
  have hlv : v.length ≤ 4096 := by rw [← hv]; exact Nat.le_trans (vmul_le c HOK.out l 2 n) (by decide)
  have HCL := Lib.hid (toO (rvmul_any AT An cT cn (mrows c l 2) n _ HT.out (mrows_short c HOK.out l 2) HOn.out.rd.2 hcT HOn.out.rd.1 (Nat.le_trans (mrows_le c HOK.out l 2) (by decide)) hln))
  rw [hv] at HCL
  have Hv := Lib.hid hv
  clear hv
  go_wp2_with fail
  refine HCL.out.mono ?_
  unfold RowO
  rintro e wn ⟨Av, cv, rfl, ho, hb⟩
  have HOv := Lib.hid (ho.lower HB.out.size)
  have HOn := Lib.hid (HOn.out.below hb)
  have HOq := Lib.hid (HOq.out.below hb)
  have HOk := Lib.hid (HOk.out.below hb)
  have HS := Lib.hid (HS.out.below hb)
  (try have HT := Lib.hid (HT.out.below hb))
  have HB := Lib.hid (below_then HB.out HB.out.size hb)
  clear ho hb HCL
  obtain ⟨wc, hwc⟩ : ∃ wc, wn = wc := ⟨_, rfl⟩
  subst hwc
  obtain ⟨rt, hrt⟩ : ∃ r, froot (fint c.dim) = r := ⟨_, rfl⟩
  have HRT := Lib.hid hrt
  obtain ⟨x0, x1, x2, x3, x4, x5⟩ := HS.out.bx.at_
  clear hrt
  go_wp2_with fail
  refine (rfint_any _ _ hdim0 hdim1).mono ?_
  rintro e w' ⟨rfl, rfl⟩
  go_wp2_with fail
  refine (rsqrt_any _ _).mono ?_
  rw [HRT.out]
  rintro e w' ⟨rfl, rfl⟩
  clear x0 x1 x2 x3 x4 x5
  obtain ⟨wc, hwc⟩ : ∃ wc, wn = wc := ⟨_, rfl⟩
  subst hwc
  have HQF := Lib.hid (fun (W' : World) (hb : Below wn.heap.size wn W') => HOq.out.below hb)
  have HKF := Lib.hid (fun (W' : World) (hb : Below wn.heap.size wn W') => HS.out.k.below hb)
  have HVF := Lib.hid (fun (W' : World) (hb : Below wn.heap.size wn W') => HS.out.v.below hb)
  have HVK := Lib.hid HS.out.v
  have HEV := Lib.hid (show (Kd.slice 2 (Kd.int .i64)).K wn v [.slice Av v.length cv] from ⟨Av, cv, rfl, HOv.out.rd.1, HOv.out.rd.2⟩)
  have HTYP := Lib.hid (fix_typ wn)
  have HSF := Lib.hid (fun (W' : World) (hb : Below wn.heap.size wn W') => HS.out.below hb)
  have HOkF := Lib.hid (fun (W' : World) (hb : Below wn.heap.size wn W') => HOk.out.below hb)
  have HOvF := Lib.hid (fun (W' : World) (hb : Below wn.heap.size wn W') => HOv.out.below hb)
  have HBF := Lib.hid (fun (W' : World) (hb : Below wn.heap.size wn W') => below_then HB.out HB.out.size hb)
  go_upto_block 0 with fail
  go_cut [16, 17] (fun s16 s17 wx => ∃ u a, u = s16 ∧ a = s17 ∧ Own wx wn.heap.size 2 u (amk rt q (ks.take mm)) ∧ (KFix wn).R 55 wx wn.heap.size (fun _ => True) a (vs.take mm) ∧ Below wn.heap.size wn wx)
  case first =>
    go_wp2_with fail
    go_loopw [16, 17, 18] (fun u a s wr => ∃ (j : Nat) (u' a' : Value), u' = u ∧ a' = a ∧ s = .int .i64 j ∧ j ≤ mm ∧ Own wr wn.heap.size 2 u (amk rt q (ks.take j)) ∧ (KFix wn).R 55 wr wn.heap.size (fun _ => True) a (vs.take j) ∧ Below wn.heap.size wn wr) (fun _ _ s _ => mm - (intOf s).toNat)
    case atStart => exact ⟨0, _, _, rfl, rfl, rfl, by omega, Kd.R_nil _ _ _ _ _, Kd.R_nil _ _ _ _ _, Below.refl _ _⟩
    case round =>
      obtain ⟨j, u, al, rfl, rfl, rfl, hj, ho, hal, hb⟩ := hrel
      by_cases hjm : j < mm
      · have hjk : j < nk := by omega
        have hjv : j < nv := by omega
        obtain ⟨a6, A6, c6, ea, q6, hc6, hC6⟩ := (HKF.out _ hb).at_ j (by rw [HNK.out]; exact hjk)
        subst ea
        obtain ⟨a8, A8, c8, ea8, q8, hc8, hC8⟩ := HVK.out.at_ j (by rw [HNV.out]; exact hjv)
        subst ea8
        have HEL : Hid ((Kd.slice 2 (Kd.int .i64)).K wn (vs.getD j []) [.slice A8 (vs.getD j []).length c8]) := Lib.hid ⟨A8, c8, rfl, hc8, hC8⟩
        have hl6 := HSK.out j
        have HJ := Lib.hid (amk_take rt q ks j (by rw [HNK.out]; exact hjk))
        have hla : (amk rt q (ks.take j)).length ≤ 1000000 := by rw [amk_len, List.length_take, HNK.out]; omega
        have HJV := Lib.hid (show vs.take (j + 1) = vs.take j ++ [vs.getD j []] by
          rw [List.take_succ_eq_append_getElem (by rw [HNV.out]; exact hjv), List.getD_eq_getElem?_getD, List.getElem?_eq_getElem (by rw [HNV.out]; exact hjv)]; rfl)
        have HTJ := Lib.hid (show (vs.take j).length = j by rw [List.length_take, HNV.out]; omega)
        obtain ⟨kk, hkk⟩ : ∃ kk, ks.getD j [] = kk := ⟨_, rfl⟩
        obtain ⟨vv, hvv⟩ : ∃ vv, vs.getD j [] = vv := ⟨_, rfl⟩
        rw [hkk] at q6 hc6 hC6 hl6 HJ
        rw [hvv] at q8 HEL HJV
        have HC6 := Lib.hid hC6
        have HO := Lib.hid ho
        have HAL := Lib.hid hal
        have HBL := Lib.hid hb
        have hsz := hb.size
        have HQ6 := Lib.hid (HQF.out _ hb)
        have HQ8 := Lib.hid q8
        clear hkk hvv hC6 ho hal hb hC8 q8
        go_wp2_with fail
        refine (rdot_any Aq A6 cq c6 q kk wr HQ6.out.rd.2 HC6.out HQ6.out.rd.1 hc6 hlq hl6).mono ?_
        rintro e w4 ⟨rfl, hd4⟩
        have HB4 := Lib.hid (below_then HBL.out hsz hd4.below)
        have HO4 := Lib.hid (HO.out.below hd4.below)
        have HAL4 := Lib.hid (Kd.R_below HAL.out hd4.below)
        have hsz4 := HB4.out.size
        clear hd4
        go_wp2_with fail
        refine (rdiv_any _ _ _).mono ?_
        obtain ⟨y, hy⟩ : ∃ y, fdiv (vdot q kk) rt = y := ⟨_, rfl⟩
        rw [hy]
        rw [hy] at HJ
        rintro e w' ⟨rfl, rfl⟩
        clear hy
        go_wp2_with (first
          | (at_builtin; refine own_append_at (w0 := wn) w4 _ wn.heap.size rfl _ _ 55 2 rfl Tryz.underlying55 infoI64 _ _ y w4.heap.size rfl rfl rfl rfl HO4.out HB4.out hsz4 hla ?_; intro v5 w5 ho5 hb5 hg5 hat5; have HO5 := Lib.hid ho5; have HB5 := Lib.hid hb5; have HAL5 := Lib.hid (Kd.R_over' HAL4.out (Kd.R_typed HO4.out) HTYP.out hg5); have q8 := pw_cell_below hb5 HQ8.out; have hsz5 := hb5.size; clear ho5 hb5 hg5 hat5)
          | (at_builtin; refine Kd.R_append (KFix wn) (w0 := wn) (W := w5) wn.heap.size rfl _ _ 54 55 (.slice none 0 0) 24 rfl Tryz.underlying54 infoRow rfl Nat.zero_lt_one (by decide) al (vs.take j) vv [.slice A8 vv.length c8] (fun _ => True) (fun _ => False) (by rfl) (by rfl) HEL.out (fun _ h => h.elim) (fun _ _ => trivial) HAL5.out HB5.out hsz5 (by rw [HTJ.out]; omega) ?_; intro v6 w6 hr6 hb6 hg6 hat6; have HAL6 := Lib.hid hr6; have HB6 := Lib.hid hb6; have HO6 := Lib.hid (Kd.R_over' HO5.out (Kd.R_typed HAL5.out) (by decide) hg6); clear hr6 hb6 hg6 hat6))
        go_roundw
        case rel => exact ⟨j + 1, _, _, rfl, rfl, by go_num, by omega, by rw [HJ.out]; exact HO6.out, by rw [HJV.out]; exact HAL6.out, HB6.out⟩
        case measure => simp [intOf]; omega
      · have hjm2 : j = mm := by omega
        subst hjm2
        have HO := Lib.hid ho
        have HAL := Lib.hid hal
        have HBL := Lib.hid hb
        clear ho hal hb
        by_cases hjk : j < nk
        · have hjv : ¬ j < nv := by omega
          go_wp2_with fail
          go_meet
          exact ⟨_, _, rfl, rfl, HO.out, HAL.out, HBL.out⟩
        · go_wp2_with fail
          go_meet
          exact ⟨_, _, rfl, rfl, HO.out, HAL.out, HBL.out⟩
  case rest =>
    obtain ⟨u, al, rfl, rfl, ho, hal, hb⟩ := hcut
    have HO := Lib.hid ho
    have HAL := Lib.hid hal
    have HBL := Lib.hid hb
    have HBO := Lib.hid HB.out
    have hsz := hb.size
    have hla : (amk rt q (ks.take mm)).length ≤ 1000000 := by rw [amk_len, HTK.out]; omega
    obtain ⟨KK, hKK⟩ : ∃ L, ks.take mm ++ [k] = L := ⟨_, rfl⟩
    have hKl : KK.length = mm + 1 := by rw [← hKK, List.length_append, HTK.out]; rfl
    have hMe : amk rt q KK = amk rt q (ks.take mm) ++ [fdiv (vdot q k) rt] := by rw [← hKK]; simp [amk]
    have HKK := Lib.hid hKK
    obtain ⟨M, hM⟩ : ∃ M, amk rt q KK = M := ⟨_, rfl⟩
    have hMl : M.length ≤ 4096 := by rw [← hM, amk_len, hKl]; omega
    rw [hM] at hMe
    have HM := Lib.hid hM
    have HME := Lib.hid hMe
    obtain ⟨VV, hVV⟩ : ∃ L, vs.take mm ++ [v] = L := ⟨_, rfl⟩
    have hVl : VV.length ≤ 4096 := by rw [← hVV, List.length_append, HTV.out]; show mm + 1 ≤ 4096; omega
    have HVS := Lib.hid (show Short VV by rw [← hVV]; exact short_snoc vs mm v HSV.out hlv)
    have HVV := Lib.hid hVV
    have HOQ := Lib.hid (HOq.out.below hb)
    have HOK2 := Lib.hid (HOk.out.below hb)
    clear ho hal hb hKK hKl hMe hM hVV
    go_wp2_with fail
    refine (rdot_any Aq Ak cq ck q k wc HOQ.out.rd.2 HOK2.out.rd.2 HOQ.out.rd.1 HOK2.out.rd.1 hlq hlk).mono ?_
    rintro e w4 ⟨rfl, hd⟩
    have hb := hd.below
    have HB4 := Lib.hid (below_then HBL.out hsz hb)
    have HO4 := Lib.hid (HO.out.below hb)
    have HAL4 := Lib.hid (Kd.R_below HAL.out hb)
    have hsz4 := HB4.out.size
    clear hb hd
    go_wp2_with fail
    refine (rdiv_any _ _ _).mono ?_
    obtain ⟨y, hy⟩ : ∃ y, fdiv (vdot q k) rt = y := ⟨_, rfl⟩
    rw [hy]
    rw [hy] at HME
    rintro e w' ⟨rfl, rfl⟩
    clear hy
    go_wp2_with (first
      | (at_builtin; refine own_append_at (w0 := wn) w4 _ wn.heap.size rfl _ _ 55 2 rfl Tryz.underlying55 infoI64 _ _ y w4.heap.size rfl rfl rfl rfl HO4.out HB4.out hsz4 hla ?_; intro v5 w5 ho5 hb5 hg5 hat5; have HO5 := Lib.hid ho5; have HB5 := Lib.hid hb5; have HAL5 := Lib.hid (Kd.R_over' HAL4.out (Kd.R_typed HO4.out) HTYP.out hg5); have hsz5 := hb5.size; clear ho5 hb5 hg5 hat5)
      | (at_builtin; refine Kd.R_append (KFix wn) (w0 := wn) (W := w5) wn.heap.size rfl _ _ 54 55 (.slice none 0 0) 24 rfl Tryz.underlying54 infoRow rfl Nat.zero_lt_one (by decide) al (vs.take mm) v [.slice Av v.length cv] (fun _ => True) (fun _ => False) (by rfl) (by rfl) HEV.out (fun _ h => h.elim) (fun _ _ => trivial) HAL5.out HB5.out hsz5 (by rw [HTV.out]; omega) ?_; intro v6 w6 hr6 hb6 hg6 hat6; obtain ⟨A6, c6, hv6, hc6, hC6⟩ := Kd.R_reads hr6; have hrw6 := fix_rows hC6 hb6; rw [HVV.out] at hv6 hc6 hrw6; have ho6 := show Own w6 wn.heap.size 2 v5 (amk rt q (ks.take mm) ++ [y]) from (Kd.R_over' HO5.out (Kd.R_typed HAL5.out) (by decide) hg6); rw [← HME.out] at ho6; obtain ⟨AM, cM, hvM, -, -⟩ := ho6.reads; subst hv6 hvM; have HOM := Lib.hid (ho6.lower (HBO.out.size)); have HRW := Lib.hid hrw6; have HS := Lib.hid (HSF.out w6 hb6); have HOk := Lib.hid (HOkF.out w6 hb6); have HOv := Lib.hid (HOvF.out w6 hb6); have HB := Lib.hid (HBF.out w6 hb6); obtain ⟨x0, x1, x2, x3, x4, x5⟩ := HS.out.bx.at_; clear hr6 hb6 hg6 hat6 hC6 ho6 hrw6))
    have HCL := Lib.hid (toTC (rrows_any c HOK.out l 3 w6))
    rw [HCV.out] at HCL
    refine HCL.out.mono ?_
    unfold TabC
    rintro e wn ⟨AT, cT, rfl, hcT, hT, hb⟩
    have HT := Lib.hid hT
    have HRW := Lib.hid (HRW.out.below hb)
    have HOk := Lib.hid (HOk.out.below hb)
    have HOv := Lib.hid (HOv.out.below hb)
    have HOM := Lib.hid (HOM.out.below hb)
    have HS := Lib.hid (HS.out.below hb)
    have HB := Lib.hid (below_then HB.out HB.out.size hb)
    clear hT hb HCL x0 x1 x2 x3 x4 x5
    obtain ⟨sf, hsf⟩ : ∃ L, vsoft M = L := ⟨_, rfl⟩
    have hlsf : sf.length ≤ 4096 := by rw [← hsf]; rw [vsoft_len']; exact hMl
    have HCL := Lib.hid (toO (rsoft_any AM cM M _ HOM.out.rd.2 HOM.out.rd.1 hMl))
    rw [hsf] at HCL
    have Hsf := Lib.hid hsf
    clear hsf
    go_wp2_with fail
    refine HCL.out.mono ?_
    unfold RowO
    rintro e wn ⟨Asf, csf, rfl, ho, hb⟩
    have HOsf := Lib.hid (ho.lower HB.out.size)
    have HOk := Lib.hid (HOk.out.below hb)
    have HOv := Lib.hid (HOv.out.below hb)
    have HOM := Lib.hid (HOM.out.below hb)
    have HS := Lib.hid (HS.out.below hb)
    have HRW := Lib.hid (HRW.out.below hb)
    (try have HT := Lib.hid (HT.out.below hb))
    have HB := Lib.hid (below_then HB.out HB.out.size hb)
    clear ho hb HCL
    obtain ⟨z, hz⟩ : ∃ L, vmix sf VV = L := ⟨_, rfl⟩
    have hlz : z.length ≤ 4096 := by rw [← hz]; exact vmix_le sf VV HVS.out
    have HCL := Lib.hid (toO (rvmix_any Asf A6 csf c6 sf VV _ HOsf.out.rd.2 HRW.out HVS.out hc6 HOsf.out.rd.1 hVl hlsf))
    rw [hz] at HCL
    have Hz := Lib.hid hz
    clear hz
    go_wp2_with fail
    refine HCL.out.mono ?_
    unfold RowO
    rintro e wn ⟨Az, cz, rfl, ho, hb⟩
    have HOz := Lib.hid (ho.lower HB.out.size)
    have HOk := Lib.hid (HOk.out.below hb)
    have HOv := Lib.hid (HOv.out.below hb)
    have HOM := Lib.hid (HOM.out.below hb)
    have HOsf := Lib.hid (HOsf.out.below hb)
    have HS := Lib.hid (HS.out.below hb)
    have HRW := Lib.hid (HRW.out.below hb)
    (try have HT := Lib.hid (HT.out.below hb))
    have HB := Lib.hid (below_then HB.out HB.out.size hb)
    clear ho hb HCL
    obtain ⟨o, ho⟩ : ∃ L, vmul (mrows c l 3) z = L := ⟨_, rfl⟩
    have hlo : o.length ≤ 4096 := by rw [← ho]; exact Nat.le_trans (vmul_le c HOK.out l 3 z) (by decide)
    have HCL := Lib.hid (toO (rvmul_any AT Az cT cz (mrows c l 3) z _ HT.out (mrows_short c HOK.out l 3) HOz.out.rd.2 hcT HOz.out.rd.1 (Nat.le_trans (mrows_le c HOK.out l 3) (by decide)) hlz))
    rw [ho] at HCL
    have Ho := Lib.hid ho
    clear ho
    go_wp2_with fail
    refine HCL.out.mono ?_
    unfold RowO
    rintro e wn ⟨Ao, co, rfl, ho, hb⟩
    have HOo := Lib.hid (ho.lower HB.out.size)
    have HOk := Lib.hid (HOk.out.below hb)
    have HOv := Lib.hid (HOv.out.below hb)
    have HOM := Lib.hid (HOM.out.below hb)
    have HOsf := Lib.hid (HOsf.out.below hb)
    have HOz := Lib.hid (HOz.out.below hb)
    have HS := Lib.hid (HS.out.below hb)
    have HRW := Lib.hid (HRW.out.below hb)
    (try have HT := Lib.hid (HT.out.below hb))
    have HB := Lib.hid (below_then HB.out HB.out.size hb)
    clear ho hb HCL
    obtain ⟨g, hg⟩ : ∃ L, vadd xs o = L := ⟨_, rfl⟩
    have hlg : g.length ≤ 4096 := by rw [← hg]; exact Nat.le_trans (vadd_len xs o) (by rw [HNX.out]; exact hnx)
    have HCL := Lib.hid (toO (radd_vec A Ao px co xs o _ HS.out.x HOo.out.rd.2 (by rw [HNX.out]; exact hcx) HOo.out.rd.1 (by rw [HNX.out]; exact hnx) hlo))
    rw [hg, HNX.out] at HCL
    have Hg := Lib.hid hg
    clear hg
    go_wp2_with fail
    refine HCL.out.mono ?_
    unfold RowO
    rintro e wn ⟨Ag, cg, rfl, ho, hb⟩
    have HOg := Lib.hid (ho.lower HB.out.size)
    have HOk := Lib.hid (HOk.out.below hb)
    have HOv := Lib.hid (HOv.out.below hb)
    have HOM := Lib.hid (HOM.out.below hb)
    have HOsf := Lib.hid (HOsf.out.below hb)
    have HOz := Lib.hid (HOz.out.below hb)
    have HOo := Lib.hid (HOo.out.below hb)
    have HS := Lib.hid (HS.out.below hb)
    have HRW := Lib.hid (HRW.out.below hb)
    (try have HT := Lib.hid (HT.out.below hb))
    have HB := Lib.hid (below_then HB.out HB.out.size hb)
    clear ho hb HCL
    obtain ⟨t, ht⟩ : ∃ L, vnorm g = L := ⟨_, rfl⟩
    have hlt : t.length ≤ 4096 := by rw [← ht]; rw [vnorm_len']; exact hlg
    have HCL := Lib.hid (toO (rnorm_vec Ag cg g _ HOg.out.rd.2 HOg.out.rd.1 hlg))
    rw [ht] at HCL
    have Ht := Lib.hid ht
    clear ht
    go_wp2_with fail
    refine HCL.out.mono ?_
    unfold RowO
    rintro e wn ⟨At, ct, rfl, ho, hb⟩
    have HOt := Lib.hid (ho.lower HB.out.size)
    have HOk := Lib.hid (HOk.out.below hb)
    have HOv := Lib.hid (HOv.out.below hb)
    have HOM := Lib.hid (HOM.out.below hb)
    have HOsf := Lib.hid (HOsf.out.below hb)
    have HOz := Lib.hid (HOz.out.below hb)
    have HOo := Lib.hid (HOo.out.below hb)
    have HOg := Lib.hid (HOg.out.below hb)
    have HS := Lib.hid (HS.out.below hb)
    have HRW := Lib.hid (HRW.out.below hb)
    (try have HT := Lib.hid (HT.out.below hb))
    have HB := Lib.hid (below_then HB.out HB.out.size hb)
    clear ho hb HCL
    obtain ⟨u2, hu2⟩ : ∃ L, vmul (mrows c l 4) t = L := ⟨_, rfl⟩
    have hlu2 : u2.length ≤ 4096 := by rw [← hu2]; exact Nat.le_trans (vmul_le c HOK.out l 4 t) (by decide)
    obtain ⟨r, hr⟩ : ∃ L, vrelu u2 = L := ⟨_, rfl⟩
    have hlr : r.length ≤ 4096 := by rw [← hr, vrelu_len]; exact hlu2
    obtain ⟨y2, hy2⟩ : ∃ L, vmul (mrows c l 5) r = L := ⟨_, rfl⟩
    have hly2 : y2.length ≤ 4096 := by rw [← hy2]; exact Nat.le_trans (vmul_le c HOK.out l 5 r) (by decide)
    obtain ⟨y, hy⟩ : ∃ L, vadd g y2 = L := ⟨_, rfl⟩
    have HR4 := Lib.hid (fun W' => toTC (rrows_any c HOK.out l 4 W'))
    have HR5 := Lib.hid (fun W' => toTC (rrows_any c HOK.out l 5 W'))
    rw [HCV.out] at HR4 HR5
    have HU2 := Lib.hid (fun (W' : World) (A4 : Option Addr) (c4 : Nat) (h1 : Rows_ W' A4 (mrows c l 4)) (h2 : (mrows c l 4).length ≤ c4) (h3 : Own W' W.heap.size 2 (.slice At t.length ct) t) => show Calls Tryz.prog 76 #[.slice A4 (mrows c l 4).length c4, .slice At t.length ct] W' (RowO u2 W') by
      have h := toO (rvmul_any A4 At c4 ct (mrows c l 4) t W' h1 (mrows_short c HOK.out l 4) h3.rd.2 h2 h3.rd.1 (Nat.le_trans (mrows_le c HOK.out l 4) (by decide)) hlt)
      rw [hu2] at h; exact h)
    have HRL := Lib.hid (fun (W' : World) (A4 : Option Addr) (c4 : Nat) (h3 : Own W' W.heap.size 2 (.slice A4 u2.length c4) u2) => show Calls Tryz.prog 84 #[.slice A4 u2.length c4] W' (RowO r W') by
      have h := toO (rrelu_vec A4 c4 u2 W' h3.rd.2 h3.rd.1 hlu2)
      rw [hr] at h; exact h)
    have HY2 := Lib.hid (fun (W' : World) (A5 : Option Addr) (c5 : Nat) (Ar : Option Addr) (cr : Nat) (h1 : Rows_ W' A5 (mrows c l 5)) (h2 : (mrows c l 5).length ≤ c5) (h3 : Own W' W.heap.size 2 (.slice Ar r.length cr) r) => show Calls Tryz.prog 76 #[.slice A5 (mrows c l 5).length c5, .slice Ar r.length cr] W' (RowO y2 W') by
      have h := toO (rvmul_any A5 Ar c5 cr (mrows c l 5) r W' h1 (mrows_short c HOK.out l 5) h3.rd.2 h2 h3.rd.1 (Nat.le_trans (mrows_le c HOK.out l 5) (by decide)) hlr)
      rw [hy2] at h; exact h)
    have HAD := Lib.hid (fun (W' : World) (A5 : Option Addr) (c5 : Nat) (h1 : Own W' W.heap.size 2 (.slice Ag g.length cg) g) (h3 : Own W' W.heap.size 2 (.slice A5 y2.length c5) y2) => show Calls Tryz.prog 32 #[.slice Ag g.length cg, .slice A5 y2.length c5] W' (RowO y W') by
      have h := toO (radd_vec Ag A5 cg c5 g y2 W' h1.rd.2 h3.rd.2 h1.rd.1 h3.rd.1 hlg hly2)
      rw [hy] at h; exact h)
    have Hu2 := Lib.hid hu2
    have Hr := Lib.hid hr
    have Hy2 := Lib.hid hy2
    have Hy := Lib.hid hy
    clear hu2 hr hy2 hy
    go_wp2_with fail
    have hb := below_drew (Below.refl wn.heap.size wn)
    have HS := Lib.hid (HS.out.below hb)
    have HOk := Lib.hid (HOk.out.below hb)
    have HOv := Lib.hid (HOv.out.below hb)
    have HOg := Lib.hid (HOg.out.below hb)
    have HOt := Lib.hid (HOt.out.below hb)
    have hS : BxT c b5 b10 W wn.drew := by
      obtain ⟨x0, x1, x2, x3, x4, x5⟩ := HS.out.bx.at_
      exact ⟨x0, x1, x2, x3, x4, x5, Lib.hid ⟨by have := E10.out; omega, by have := E5.out; omega, below_then HB.out HB.out.size hb⟩⟩
    clear hb
    go_region_held3 (fun w' => w'.cell? ⟨b5, 0, none⟩ = some (.int .u64 c.seed) ∧ w'.cell? ⟨b5, 1, none⟩ = some (.int .i64 c.vocab) ∧ w'.cell? ⟨b5, 2, none⟩ = some (.int .i64 c.dim) ∧ w'.cell? ⟨b5, 3, none⟩ = some (.int .i64 c.layers) ∧ w'.cell? ⟨b5, 4, none⟩ = some (.int .i64 c.top) ∧ w'.cell? ⟨b5, 5, none⟩ = some (.int .i64 c.heat) ∧ Hid (b5 < b10 ∧ W.heap.size ≤ b5 ∧ Below W.heap.size W w'))
      (first | exact hS | exact BxT.step (by assumption) (by assumption) | exact BxT.set (BxT.set (BxT.set (by assumption) _ _) _ _) _ _ | trace_state)
      (first
        | (go_at_call 77; have hg4 := HT5; clear hg4; refine (HR4.out _).mono ?_; unfold TabC; rintro e w7 ⟨A4, c4, rfl, hc4, hT, hb⟩; have HS := Lib.hid (HS.out.below hb); have HOk := Lib.hid (HOk.out.below hb); have HOv := Lib.hid (HOv.out.below hb); have HOg := Lib.hid (HOg.out.below hb); have HOt := Lib.hid (HOt.out.below hb); (try have HT5 := Lib.hid (HT5.out.below hb)); have HT4 := Lib.hid hT; clear hT)
        | (go_at_call 77; refine (HR5.out _).mono ?_; unfold TabC; rintro e w7 ⟨A5, c5, rfl, hc5, hT, hb⟩; have HS := Lib.hid (HS.out.below hb); have HOk := Lib.hid (HOk.out.below hb); have HOv := Lib.hid (HOv.out.below hb); have HOg := Lib.hid (HOg.out.below hb); have HOt := Lib.hid (HOt.out.below hb); (try have HT4 := Lib.hid (HT4.out.below hb)); (try have HOu2 := Lib.hid (HOu2.out.below hb)); (try have HOr := Lib.hid (HOr.out.below hb)); have HT5 := Lib.hid hT; clear hT)
        | (go_at_call 76; refine (HY2.out _ A5 c5 Ar cr HT5.out hc5 HOr.out).mono ?_; unfold RowO; rintro e w7 ⟨Ay2, cy2, rfl, ho, hb⟩; have HS := Lib.hid (HS.out.below hb); have HOk := Lib.hid (HOk.out.below hb); have HOv := Lib.hid (HOv.out.below hb); have HOg := Lib.hid (HOg.out.below hb); have HOt := Lib.hid (HOt.out.below hb); have HOy2 := Lib.hid (ho.lower (BxT.below (by assumption)).size); clear ho)
        | (go_at_call 84; refine (HRL.out _ Au cu HOu2.out).mono ?_; unfold RowO; rintro e w7 ⟨Ar, cr, rfl, ho, hb⟩; have HS := Lib.hid (HS.out.below hb); have HOk := Lib.hid (HOk.out.below hb); have HOv := Lib.hid (HOv.out.below hb); have HOg := Lib.hid (HOg.out.below hb); have HOt := Lib.hid (HOt.out.below hb); (try have HT5 := Lib.hid (HT5.out.below hb)); have HOr := Lib.hid (ho.lower (BxT.below (by assumption)).size); clear ho)
        | (go_at_call 76; refine (HU2.out _ A4 c4 HT4.out hc4 HOt.out).mono ?_; unfold RowO; rintro e w7 ⟨Au, cu, rfl, ho, hb⟩; have HS := Lib.hid (HS.out.below hb); have HOk := Lib.hid (HOk.out.below hb); have HOv := Lib.hid (HOv.out.below hb); have HOg := Lib.hid (HOg.out.below hb); have HOt := Lib.hid (HOt.out.below hb); (try have HT5 := Lib.hid (HT5.out.below hb)); have HOu2 := Lib.hid (ho.lower (BxT.below (by assumption)).size); clear ho)
        | (go_at_call 32; refine (HAD.out _ Ay2 cy2 HOg.out HOy2.out).mono ?_; unfold RowO; rintro e w7 ⟨Ay, cy, rfl, ho, hb⟩; have HS := Lib.hid (HS.out.below hb); have HOk := Lib.hid (HOk.out.below hb); have HOv := Lib.hid (HOv.out.below hb); have HOg := Lib.hid (HOg.out.below hb); have HOt := Lib.hid (HOt.out.below hb); have HOy := Lib.hid (ho.lower (BxT.below (by assumption)).size); have HMD := Lib.hid HS.out.md; have z0 := blk_cell HMD.out 0; have z1 := blk_cell HMD.out 1; have z2 := blk_cell HMD.out 2; have f0 := blk_frozen HMD.out 0; have f1 := blk_frozen HMD.out 1; have f2 := blk_frozen HMD.out 2; clear ho))
    all_goals
      have hF1 : y = X := by
        rw [← HX.out]
        simp only [aX, aH, aSn, aKs, aVs, aQ, aK, aV, aroot, HNK.out, HNV.out, HMM.out, Hn.out, Hq.out, Hk.out, Hv.out, HRT.out, HKK.out, HM.out, Hsf.out, HVV.out, Hz.out, Ho.out, Hg.out, Ht.out, Hu2.out, Hr.out, Hy2.out, Hy.out]
      have hF2 : k = Kk := by rw [← HKk.out]; simp only [aK, Hn.out, Hk.out]
      have hF3 : v = Vv := by rw [← HVv.out]; simp only [aV, Hn.out, Hv.out]
      have HF1 := Lib.hid hF1
      have HF2 := Lib.hid hF2
      have HF3 := Lib.hid hF3
      have HBW := Lib.hid (BxT.below (by assumption))
      clear hF1 hF2 hF3
      go_wp2_with fail
      refine bodyPost_ret (results_cell_row rfl _ _ b10 94 #[.slice Ay y.length cy, .slice Ak k.length ck, .slice Av v.length cv] (0, 0) _ rfl (blk_set (blk_set (blk_set HMD.out 0 _) 1 _) 2 _) Tryz.underlying94 rfl (by kernel_rfl)) rfl ?_
      rw [← HF1.out, ← HF2.out, ← HF3.out]
      exact ⟨_, _, _, _, _, _, rfl, own_set3 HOy.out HMD.out (by decide) _ _ _, own_set3 HOk.out HMD.out (by decide) _ _ _, own_set3 HOv.out HMD.out (by decide) _ _ _, HBW.out⟩

end Go.Proofs.YtdfgmdmcdnnhfaaGreat
