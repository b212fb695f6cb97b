/- The document's Ref. -/
import Derived.Test.YtdfgmdmcdnnhfaaGreatDzC
import Derived.Test.YtdfgmdmcdnnhfaaGreatDcK
namespace Go.Proofs.YtdfgmdmcdnnhfaaGreat
open Go.RowKit Go.Shelf Go.Proofs.YtdfgmdmcdnnhfaaGreatW.PrintWords Go.Proofs.YtdfgmdmcdnnhfaaGreatW.PrintLast Go.Proofs.YtdfgmdmcdnnhfaaGreatW.PrintMore
set_option linter.unusedVariables false
set_option linter.unusedSimpArgs false
set_option maxRecDepth 100000
/-- Two rows of one's own, neither's block the other's. -/
structure OO (base : Nat) (w : World) (u v : Value) (xs ys : List Int) : Prop where
  hu : Own w base 3 u xs
  hv : Own w base 3 v ys
  ne : ∀ k, u.ownBlock = some k → v.ownBlock ≠ some k
theorem Own.lt {w : World} {b e : Nat} {v : Value} {xs : List Int} (h : Own w b e v xs) (k : Nat) (hk : v.ownBlock = some k) : k < w.heap.size := by
  obtain ⟨inner, ho⟩ := Kd.R_own h
  exact own_lt ho k hk
theorem OO.swap {base : Nat} {w : World} {u v : Value} {xs ys : List Int} (h : OO base w u v xs ys) : OO base w v u ys xs := ⟨h.hv, h.hu, fun k hk he => h.ne k he hk⟩
theorem OO.below {base : Nat} {w w1 : World} {u v : Value} {xs ys : List Int} (h : OO base w u v xs ys) (hb : Below w.heap.size w w1) : OO base w1 u v xs ys := ⟨h.hu.below hb, h.hv.below hb, h.ne⟩
theorem OO.put {base : Nat} {w w1 : World} {u v u1 : Value} {xs ys xs1 : List Int} (h : OO base w u v xs ys) (h1 : Own w1 base 3 u1 xs1) (hg : w.grownBy w1 u.ownBlock) (hat : u1.ownBlock = u.ownBlock ∨ ∃ b, u1.ownBlock = some b ∧ w.heap.size ≤ b) : OO base w1 u1 v xs1 ys := by
  refine ⟨h1, h.hv.move (fun k hk => hg.block k (h.hv.lt k hk) (fun he => h.ne k he.symm hk)), fun k hk he => ?_⟩
  rcases hat with e | ⟨b, e, hle⟩
  · exact h.ne k (e ▸ hk) he
  · rw [e] at hk; injection hk with hk
    have := h.hv.lt k he
    omega
theorem dOut_zero (c : Cfg) (sd : Int) (toks : List Int) : dOut c sd 0 toks = [] := rfl
theorem dOut_full (c : Cfg) (sd : Int) (r : Nat) (toks : List Int) (h : 256 ≤ toks.length) : dOut c sd r toks = [] := by
  cases r with
  | zero => rfl
  | succ r => rw [dOut_succ, if_pos h]
theorem dOut_end (c : Cfg) (sd : Int) (r : Nat) (toks : List Int) (h : dNx c toks sd = 0) : dOut c sd r toks = [] := by
  cases r with
  | zero => rfl
  | succ r => rw [dOut_succ, if_pos h]; split <;> rfl
theorem dOut_go (c : Cfg) (sd : Int) (r : Nat) (toks : List Int) (t : Int) (hr : 0 < r) (h : toks.length < 256) (ht : dNx c toks sd = t) (h0 : t ≠ 0) : dOut c sd r toks = t :: dOut c sd (r - 1) (toks ++ [t]) := by
  obtain ⟨q, rfl⟩ : ∃ q, r = q + 1 := ⟨r - 1, by omega⟩
  rw [dOut_succ, if_neg (by omega), ht, if_neg h0]; rfl
def RRefR (L : List Int) (W : World) (e : Ending) (w' : World) : Prop := ∃ A k, e = .returned (.slice A L.length k) ∧ L.length ≤ k ∧ (Kd.int .i64).C w' A L.length L ∧ Below W.heap.size W w'
set_option maxHeartbeats 2000000 in
theorem rref_any (c : Cfg) (hok : c.ok) (sd most : Int) (A : Option Addr) (cp : Nat) (xs : List Int) (w : World) (hx : (Kd.int .i64).C w A xs.length xs) (hj : Jok c xs most) :
    Calls Tryz.prog 12 #[c.v, .agg #[.int .u64 sd, .slice A xs.length cp, .int .i64 most]] w (RRefR (dRef c sd xs most) w) := by
  have HCV := Lib.hid (show c.v = .agg #[.int .u64 c.seed, .int .i64 c.vocab, .int .i64 c.dim, .int .i64 c.layers, .int .i64 c.top, .int .i64 c.heat] from rfl)
  have HX := Lib.hid (fun (W' : World) (hb : Below w.heap.size w W') => Kd.C_below hx hb)
  have HT := Lib.hid (fun (A : Option Addr) (k : Nat) (toks : List Int) (W : World) (hx : (Kd.int .i64).C W A toks.length toks) (h9 : toks.length ≤ 256) (h0 : 0 < toks.length) => told_any c hok A k toks sd W hx h9 h0)
  obtain ⟨n, hn⟩ : ∃ n, xs.length = n := ⟨_, rfl⟩
  have hn9 : n < 256 := by rw [← hn]; exact hj.2.2.1
  have hm0 : 0 ≤ most := hj.1
  have hm9 : most ≤ 256 := hj.2.1
  rw [HCV.out] at HT ⊢
  rw [hn]
  have HN := Lib.hid hn
  obtain ⟨M, hM⟩ : ∃ M : Nat, most = (M : Int) := ⟨most.toNat, by omega⟩
  subst hM
  unfold dRef
  rw [Int.toNat_natCast]
  obtain ⟨L, hL⟩ : ∃ L, dOut c sd M (0 :: xs) = L := ⟨_, rfl⟩
  rw [hL]
  have HL := Lib.hid hL
  obtain ⟨W0, hW0⟩ : ∃ W0, (w.alloc (.cells #[.int .u64 c.seed, .int .i64 c.vocab, .int .i64 c.dim, .int .i64 c.layers, .int .i64 c.top, .int .i64 c.heat] 24)).alloc (.cells #[.int .u64 sd, .slice A n cp, .int .i64 M] 27) = W0 := ⟨_, rfl⟩
  have hS := BCJ.new c sd (.slice A n cp) M w
  rw [hW0] at hS
  obtain ⟨g, hg⟩ : ∃ g, w.heap.size = g := ⟨_, rfl⟩
  obtain ⟨j, hj'⟩ : ∃ j, g + 1 = j := ⟨_, rfl⟩
  have HSZ := Lib.hid (show W0.heap.size = j + 1 by rw [← hW0, ← hj', ← hg]; simp)
  rw [hg, hj'] at hS
  have HS := Lib.hid hS
  have HW := Lib.hid hW0
  have HG := Lib.hid hg
  have HJ := Lib.hid hj'
  clear hx hn hW0 hg hj' hS hL hj hok
  go_enter Tryz.func12, Tryz.ntmps12
  go_upto_region 1 with fail
  try rw [HG.out]
  try rw [HJ.out]
  rw [HW.out]
  try rw [← HSZ.out]
  obtain ⟨z0, z1, z2, z3, z4, z5, y0, y1, y2, -⟩ := id HS.out
  have hbl := below_alloc (Below.refl W0.heap.size W0) (.cells #[.int .i64 0] 3)
  have y1' := pw_cell_below hbl y1
  have y2' := pw_cell_below hbl y2
  have HBL := Lib.hid hbl
  have HBX := Lib.hid (HX.out _ (below_then HS.out.b HS.out.b.size hbl))
  have HLIT := Lib.hid (show Own (W0.alloc (.cells #[.int .i64 0] 3)) W0.heap.size 3 (.slice (some ⟨W0.heap.size, 0, none⟩) 1 1) [0] from Kd.R_of_own (enc := Value.int .i64) (h1 := fun _ => rfl) (own_lit_of (enc := Value.int .i64) W0 W0.heap.size 3 [0] (Nat.le_refl _) (by simp)) (fun _ _ => trivial))
  clear hbl
  go_wp2_with (at_builtin; (refine own_append_row (w0 := W0) (W0.alloc (.cells #[.int .i64 0] 3)) W0.heap.size rfl _ _ 25 3 rfl Tryz.underlying25 infoInt (.slice (some ⟨W0.heap.size, 0, none⟩) 1 1) [0] xs A n cp (by rfl) (by rfl) HN.out HLIT.out HBX.out HBL.out HBL.out.size (by simp; omega) ?_); intro v1 w1 ho1 hb1 hg1 hat1; have HO1 := Lib.hid ho1; have HB1 := Lib.hid hb1; clear ho1 hb1 hg1 hat1)
  clear HLIT HBX HBL y1' y2'
  go_loopw [5, 6] (fun tv ov wr => ∃ (k m : Nat) (toks out : List Int) (tv' ov' : Value), tv' = tv ∧ ov' = ov ∧ toks.length = m ∧ Hid (m = 1 + n + k) ∧ 0 < m ∧ k ≤ M ∧ m ≤ 256 ∧ Hid (out.length = k) ∧ Hid (out ++ dOut c sd (M - k) toks = L) ∧ Hid (OO W0.heap.size wr tv ov toks out) ∧ Hid (Below W0.heap.size W0 wr)) (fun _ ov _ => M - (match ov with | .slice _ k _ => k | _ => 0))
  case atStart => exact ⟨0, 1 + n, 0 :: xs, [], _, _, rfl, rfl, by rw [List.length_cons, HN.out]; omega, Lib.hid rfl, by omega, by omega, by omega, Lib.hid rfl, Lib.hid (by rw [Nat.sub_zero]; exact HL.out), Lib.hid ⟨HO1.out, Kd.R_nil _ _ _ _ _, fun k hk he => by simp [Value.ownBlock] at he⟩, HB1⟩
  case round =>
    obtain ⟨k, m, toks, out, tv, ov, rfl, rfl, hml, HM1, hm0', hkM, hm256, HOL, HD, HOO, HB⟩ := hrel
    obtain ⟨At, ct, htv, hct, hCt⟩ := Own.reads_n HOO.out.hu hml
    obtain ⟨Ao, co, hov, hco, hCo⟩ := Own.reads_n HOO.out.hv HOL.out
    subst htv hov
    have HTL := Lib.hid hml
    have HSr := Lib.hid (HS.out.step HB.out)
    have HCT := Lib.hid hCt
    have HCO := Lib.hid hCo
    clear z0 z1 z2 z3 z4 z5 y0 y1 y2 hml hCt hCo
    obtain ⟨z0, z1, z2, z3, z4, z5, y0, y1, y2, -⟩ := id HSr.out
    have HEND := Lib.hid (fun (h : dOut c sd (M - k) toks = []) (w' : World) (hb : Below wr.heap.size wr w') => show RRefR L w (.returned (.slice Ao k co)) w' by
      have hLo : out = L := by have h1 := HD.out; rw [h, List.append_nil] at h1; exact h1
      have hLk : L.length = k := by rw [← hLo]; exact HOL.out
      refine ⟨Ao, co, by rw [hLk], by omega, ?_, below_then HS.out.b HS.out.b.size (below_then HB.out HB.out.size hb)⟩
      rw [← hLo]
      exact Kd.C_below HCO.out hb)
    by_cases hc1 : k < M
    · by_cases hc2 : m < 256
      · have HTOLD := Lib.hid (fun (W' : World) (hb : Below wr.heap.size wr W') => HT.out At ct toks W' (Kd.C_below HCT.out hb) (by rw [HTL.out]; omega) (by rw [HTL.out]; omega))
        obtain ⟨t, ht⟩ : ∃ t, dNx c toks sd = t := ⟨_, rfl⟩
        rw [HTL.out, ht] at HTOLD
        have HTN := Lib.hid ht
        clear ht
        go_wp2_with fail
        refine (HTOLD.out _ (by first | exact Below.refl _ _ | exact below_drew (Below.refl _ _))).mono ?_
        rintro e w2 ⟨rfl, hb2⟩
        have HB2 := Lib.hid hb2
        have HOO2 := Lib.hid (HOO.out.below hb2)
        clear hb2
        by_cases ht0 : t = 0
        · subst ht0
          have HE := Lib.hid (HEND.out (dOut_end c sd _ toks HTN.out) w2 HB2.out)
          go_wp2_with fail
          go_ret
          exact HE.out
        · have HGO := Lib.hid (dOut_go c sd (M - k) toks t (by omega) (by rw [HTL.out]; exact hc2) HTN.out ht0)
          have HBB := Lib.hid (below_then HB.out HB.out.size HB2.out)
          have hd0 : (t == 0) = false := by simpa using ht0
          have hk9 : k ≤ 1000000 := by omega
          have hm9' : m ≤ 1000000 := by omega
          go_wp2_with (first
            | (at_builtin; refine own_append_at (w0 := W0) w2 _ W0.heap.size rfl _ _ 25 3 rfl Tryz.underlying25 infoInt (.slice Ao k co) out t w2.heap.size (by rfl) (by rfl) rfl rfl HOO2.out.hv HBB.out HBB.out.size (by rw [HOL.out]; exact hk9) ?_; intro v3 w3 ho3 hb3 hg3 hat3; have HOO3 := Lib.hid (HOO2.out.swap.put ho3 hg3 hat3).swap; have HB3 := Lib.hid hb3; clear ho3 hb3 hg3 hat3)
            | (at_builtin; refine own_append_at (w0 := W0) w3 _ W0.heap.size rfl _ _ 25 3 rfl Tryz.underlying25 infoInt (.slice At m ct) toks t w3.heap.size (by rfl) (by rfl) rfl rfl HOO3.out.hu HB3.out HB3.out.size (by rw [HTL.out]; exact hm9') ?_; intro v4 w4 ho4 hb4 hg4 hat4; have HOO4 := Lib.hid (HOO3.out.put ho4 hg4 hat4); have HB4 := Lib.hid hb4; clear ho4 hb4 hg4 hat4))
          obtain ⟨A3, c3, hv3, -, -⟩ := Own.reads_n (n := k + 1) HOO4.out.hv (by rw [List.length_append, HOL.out]; rfl)
          subst hv3
          go_roundw
          case rel => exact ⟨k + 1, m + 1, toks ++ [t], out ++ [t], _, _, rfl, rfl, by rw [List.length_append, HTL.out]; rfl, Lib.hid (by have := HM1.out; omega), by omega, by omega, by omega, Lib.hid (by rw [List.length_append, HOL.out]; rfl), Lib.hid (by have h := HD.out; rw [HGO.out] at h; rw [List.append_assoc, ← h]; rfl), HOO4, HB4⟩
          case measure => exact (by omega : M - (k + 1) < M - k)
      · have HE := Lib.hid (HEND.out (dOut_full c sd _ toks (by rw [HTL.out]; omega)) wr (Below.refl _ _))
        go_wp2_with fail
        go_ret
        exact HE.out
    · have HE := Lib.hid (HEND.out (by rw [show M - k = 0 by omega]; rfl) wr (Below.refl _ _))
      go_wp2_with fail
      go_ret
      exact HE.out

end Go.Proofs.YtdfgmdmcdnnhfaaGreat
