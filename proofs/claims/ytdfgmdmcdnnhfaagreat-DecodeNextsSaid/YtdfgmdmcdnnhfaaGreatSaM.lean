/- sample.Marks, Next; the document's. -/
import Derived.Test.YtdfgmdmcdnnhfaaGreatMoS
import Derived.Test.YtdfgmdmcdnnhfaaGreatGbSx
import Derived.Test.YtdfgmdmcdnnhfaaGreatGbSm
import Derived.Deep.RegionHeld3
namespace Go.Proofs.YtdfgmdmcdnnhfaaGreat
open Go.RowKit Go.Shelf Go.Proofs.YtdfgmdmcdnnhfaaGreatW.PrintWords Go.Proofs.YtdfgmdmcdnnhfaaGreatW.PrintLast Go.Proofs.YtdfgmdmcdnnhfaaGreatW.PrintMore
set_option linter.unusedVariables false
set_option linter.unusedSimpArgs false
set_option maxRecDepth 100000
attribute [local go_sem] gb_max2 gb_min2 gb_max_two gb_min_two gb_max_three gb_min_three run_cfg1 run_cfg2 run_cfg3

def vmarks (c : Cfg) (xs : List Int) : List Int := tab c.vocab.toNat fun t => vdot (vnorm xs) (mtok c t)
theorem vmarks_len (c : Cfg) (xs : List Int) : (vmarks c xs).length = c.vocab.toNat := by unfold vmarks; rw [tab_len]
theorem vnorm_len (xs : List Int) : (vnorm xs).length = xs.length := by unfold vnorm vmap; rw [tab_len]
theorem mtok_len (c : Cfg) (hok : c.ok) (t : Int) : (mtok c t).length ≤ 16 := by
  unfold mtok; split
  · rw [mrow_len]; have := hok.2.1; omega
  · simp

theorem marks_any (W : World) (p : Nat) (c : Cfg) (hok : c.ok) (h : Mo W p c) (A : Option Addr) (cp : Nat) (xs : List Int) (hx : (Kd.int .i64).C W A xs.length xs) (hc : xs.length ≤ cp) (hn : xs.length ≤ 4096) :
    Calls Tryz.prog 48 #[.pointer (some ⟨p, 0, none⟩), .slice A xs.length cp] W (RowR (vmarks c xs) W) := by
  have HN := Lib.hid (norm_any A cp xs W hx hc hn)
  obtain ⟨V, hV⟩ : ∃ V : Nat, c.vocab = V := ⟨c.vocab.toNat, by have := hok.1; omega⟩
  have hV64 : V ≤ 64 := by have := hok.1; omega
  have HOK := Lib.hid hok
  have HMo := Lib.hid (fun (W' : World) (hb : Below W.heap.size W W') => h.below hb)
  obtain ⟨L, hL⟩ : ∃ L, vnorm xs = L := ⟨_, rfl⟩
  have hLl : L.length ≤ 4096 := by rw [← hL, vnorm_len]; exact hn
  have HF := Lib.hid (show vmarks c xs = tab V (fun t => vdot L (mtok c t)) by unfold vmarks; rw [hV, hL]; rfl)
  have HV := Lib.hid hV
  have hcv : c.v = .agg #[.int .u64 c.seed, .int .i64 V, .int .i64 c.dim, .int .i64 c.layers, .int .i64 c.top, .int .i64 c.heat] := by unfold Cfg.v; rw [hV]
  have HCV := Lib.hid hcv
  rw [hL] at HN
  obtain ⟨n, hnn⟩ : ∃ n, xs.length = n := ⟨_, rfl⟩
  rw [hnn] at HN ⊢
  unfold RowR
  clear h hx hc hn hok hV hL hcv hnn
  go_enter Tryz.func48, Tryz.ntmps48
  go_wp2_with fail
  refine HN.out.mono ?_
  rintro e w1 ⟨v1, rfl, ho1, hb1⟩
  obtain ⟨A1, c1, hv1, hc1, hC1⟩ := (show Own w1 W.heap.size 2 v1 L from ho1).reads
  subst hv1
  have HC1 := Lib.hid (fun (W' : World) (hb : Below w1.heap.size w1 W') => Kd.C_below hC1 hb)
  have HB1 := Lib.hid hb1
  clear ho1 hb1 hC1
  go_wp2_with fail
  refine (config_any w1 p c (HMo.out w1 HB1.out)).mono ?_
  rw [HCV.out]
  rintro e w2 ⟨rfl, hb2⟩
  have HE2 := Lib.hid hb2
  clear hb2
  go_wp2_with fail
  go_loopw [6, 13] (fun v q wr => ∃ (k : Nat) (v' : Value), v' = v ∧ q = .int .i64 k ∧ k ≤ V ∧ Own wr w1.heap.size 2 v (tab k (fun t => vdot L (mtok c t))) ∧ Below w1.heap.size w1 wr) (fun _ q _ => V - (intOf q).toNat)
  case atStart => exact ⟨0, _, rfl, rfl, by omega, Kd.R_nil _ _ _ _ _, HE2.out⟩
  case round =>
    obtain ⟨k, v, rfl, rfl, hk, ho, hb⟩ := hrel
    have HO := Lib.hid ho
    have HB := Lib.hid hb
    have hsz := hb.size
    clear ho hb
    by_cases hkV : k < V
    · go_wp2_with fail
      refine (token_any wr p c HOK.out (HMo.out wr (below_then HB1.out HB1.out.size HB.out)) k).mono ?_
      unfold RowR
      rintro e w3 ⟨v3, rfl, ho3, hb3⟩
      obtain ⟨A3, c3, hv3, hc3, hC3⟩ := ho3.reads
      subst hv3
      have HC3 := Lib.hid hC3
      have HB3 := Lib.hid (below_then HB.out hsz hb3)
      have hl3 := mtok_len c HOK.out k
      clear ho3 hC3
      go_wp2_with fail
      refine (dot_any A1 A3 c1 c3 L (mtok c k) w3 (HC1.out w3 HB3.out) HC3.out hc1 hc3 hLl (by omega)).mono ?_
      obtain ⟨y, hy⟩ : ∃ y, vdot L (mtok c k) = y := ⟨_, rfl⟩
      rw [hy]
      have HY := Lib.hid hy
      rintro e w4 ⟨rfl, hd4⟩
      have HB4 := Lib.hid (below_then HB3.out HB3.out.size hd4.below)
      have HO4 := Lib.hid (HO.out.below (below_then hb3 hb3.size hd4.below))
      have hsz4 := HB4.out.size
      have hlt : (tab k (fun t => vdot L (mtok c t))).length ≤ 1000000 := by rw [tab_len]; omega
      clear hy hd4 hb3
      go_wp2_with (at_builtin; refine own_append (w0 := w1) w4 _ w1.heap.size rfl _ _ 55 2 rfl Tryz.underlying55 infoI64 _ _ y w4.heap.size rfl rfl rfl rfl HO4.out HB4.out hsz4 hlt ?_; intro v5 w5 ho5 hb5; have HO5 := Lib.hid ho5; have HB5 := Lib.hid hb5; clear ho5 hb5)
      go_roundw
      case rel => exact ⟨k + 1, _, rfl, by go_num, by omega, by rw [tab_succ, HY.out]; exact HO5.out, HB5.out⟩
      case measure => simp [intOf]; omega
    · have HK := Lib.hid (show k = V by omega)
      go_wp2_with fail
      go_ret
      exact ⟨_, rfl, by rw [HF.out, ← HK.out]; exact HO.out.lower HB1.out.size, below_then HB1.out HB1.out.size HB.out⟩

theorem rmarks_any (c : Cfg) (hok : c.ok) (W : World) (A : Option Addr) (cp : Nat) (xs : List Int) (hx : (Kd.int .i64).C W A xs.length xs) (hc : xs.length ≤ cp) (hn : xs.length ≤ 4096) :
    Calls Tryz.prog 55 #[c.v, .slice A xs.length cp] W (RowR (vmarks c xs) W) := by
  have HOK := Lib.hid hok
  have HBX := Lib.hid (Bx.new c W)
  have HCV := Lib.hid (show c.v = .agg #[.int .u64 c.seed, .int .i64 c.vocab, .int .i64 c.dim, .int .i64 c.layers, .int .i64 c.top, .int .i64 c.heat] from rfl)
  obtain ⟨V, hV⟩ : ∃ V : Nat, c.vocab = V := ⟨c.vocab.toNat, by have := hok.1; omega⟩
  have hV64 : V ≤ 64 := by have := hok.1; omega
  obtain ⟨L, hL⟩ : ∃ L, vnorm xs = L := ⟨_, rfl⟩
  have hLl : L.length ≤ 4096 := by rw [← hL, vnorm_len]; exact hn
  have HF := Lib.hid (show vmarks c xs = tab V (fun t => vdot L (mtok c t)) by unfold vmarks; rw [hV, hL]; rfl)
  have HV := Lib.hid hV
  obtain ⟨W0, hW0⟩ : ∃ W0, W.alloc (.cells #[.int .u64 c.seed, .int .i64 c.vocab, .int .i64 c.dim, .int .i64 c.layers, .int .i64 c.top, .int .i64 c.heat] 24) = W0 := ⟨_, rfl⟩
  obtain ⟨g, hg⟩ : ∃ g, W.heap.size = g := ⟨_, rfl⟩
  have HBE := Lib.hid (show Below W.heap.size W W0 by rw [← hW0]; exact below_alloc (Below.refl _ W) _)
  rw [hW0, hg] at HBX
  have HN := Lib.hid (rnorm_vec A cp xs W0 (Kd.C_below hx HBE.out) hc hn)
  have HW0 := Lib.hid hW0
  have HG := Lib.hid hg
  rw [hL] at HN
  obtain ⟨n, hnn⟩ : ∃ n, xs.length = n := ⟨_, rfl⟩
  rw [hnn] at HN ⊢
  unfold RowR
  rw [HCV.out]
  clear hx hc hn hok hV hL hW0 hg hnn
  go_enter Tryz.func55, Tryz.ntmps55
  go_wp2_with fail
  rw [HW0.out, HG.out]
  refine HN.out.mono ?_
  rintro e w1 ⟨v1, rfl, ho1, hb1⟩
  obtain ⟨A1, c1, hv1, hc1, hC1⟩ := (show Own w1 W0.heap.size 2 v1 L from ho1).reads
  subst hv1
  have HC1 := Lib.hid (fun (W' : World) (hb : Below w1.heap.size w1 W') => Kd.C_below hC1 hb)
  have HX1 := Lib.hid (fun (W' : World) (hb : Below w1.heap.size w1 W') => (HBX.out.below hb1).below hb)
  have HB1 := Lib.hid (below_then HBE.out HBE.out.size hb1)
  clear ho1 hb1 hC1
  go_wp2_with fail
  go_loopw [6, 7] (fun v q wr => ∃ (k : Nat) (v' : Value), v' = v ∧ q = .int .i64 k ∧ k ≤ V ∧ Own wr w1.heap.size 2 v (tab k (fun t => vdot L (mtok c t))) ∧ Below w1.heap.size w1 wr) (fun _ q _ => V - (intOf q).toNat)
  case atStart => exact ⟨0, _, rfl, rfl, by omega, Kd.R_nil _ _ _ _ _, Below.refl _ _⟩
  case round =>
    obtain ⟨k, v, rfl, rfl, hk, ho, hb⟩ := hrel
    obtain ⟨x0, x1, x2, x3, x4, x5⟩ := (HX1.out _ hb).at_
    rw [HV.out] at x1
    have HO := Lib.hid ho
    have HB := Lib.hid hb
    have hsz := hb.size
    clear ho hb
    by_cases hkV : k < V
    · have HT := Lib.hid (rtoken_any c HOK.out k wr)
      rw [HCV.out, HV.out] at HT
      go_wp2_with fail
      refine HT.out.mono ?_
      unfold RowR
      rintro e w3 ⟨v3, rfl, ho3, hb3⟩
      obtain ⟨A3, c3, hv3, hc3, hC3⟩ := ho3.reads
      subst hv3
      have HC3 := Lib.hid hC3
      have HB3 := Lib.hid (below_then HB.out hsz hb3)
      have hl3 := mtok_len c HOK.out k
      clear ho3 hC3 x0 x1 x2 x3 x4 x5
      go_wp2_with fail
      refine (rdot_any A1 A3 c1 c3 L (mtok c k) w3 (HC1.out w3 HB3.out) HC3.out hc1 hc3 hLl (by omega)).mono ?_
      obtain ⟨y, hy⟩ : ∃ y, vdot L (mtok c k) = y := ⟨_, rfl⟩
      rw [hy]
      have HY := Lib.hid hy
      rintro e w4 ⟨rfl, hd4⟩
      have HB4 := Lib.hid (below_then HB3.out HB3.out.size hd4.below)
      have HO4 := Lib.hid (HO.out.below (below_then hb3 hb3.size hd4.below))
      have hsz4 := HB4.out.size
      have hlt : (tab k (fun t => vdot L (mtok c t))).length ≤ 1000000 := by rw [tab_len]; omega
      clear hy hd4 hb3
      go_wp2_with (at_builtin; refine own_append (w0 := w1) w4 _ w1.heap.size rfl _ _ 55 2 rfl Tryz.underlying55 infoI64 _ _ y w4.heap.size rfl rfl rfl rfl HO4.out HB4.out hsz4 hlt ?_; intro v5 w5 ho5 hb5; have HO5 := Lib.hid ho5; have HB5 := Lib.hid hb5; clear ho5 hb5)
      go_roundw
      case rel => exact ⟨k + 1, _, rfl, by go_num, by omega, by rw [tab_succ, HY.out]; exact HO5.out, HB5.out⟩
      case measure => simp [intOf]; omega
    · have HK := Lib.hid (show k = V by omega)
      go_wp2_with fail
      go_ret
      exact ⟨_, rfl, by rw [HF.out, ← HK.out]; exact HO.out.lower HB1.out.size, below_then HB1.out HB1.out.size HB.out⟩

end Go.Proofs.YtdfgmdmcdnnhfaaGreat
