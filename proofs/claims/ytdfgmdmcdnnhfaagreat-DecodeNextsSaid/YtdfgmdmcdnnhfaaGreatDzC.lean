/- The document's Told. -/
import Derived.Test.YtdfgmdmcdnnhfaaGreatDzA
import Derived.Test.YtdfgmdmcdnnhfaaGreatDcJ
import Derived.Test.YtdfgmdmcdnnhfaaGreatSaN
namespace Go.Proofs.YtdfgmdmcdnnhfaaGreat
open Go.RowKit Go.Shelf Go.Proofs.YtdfgmdmcdnnhfaaGreatW.PrintWords Go.Proofs.YtdfgmdmcdnnhfaaGreatW.PrintLast Go.Proofs.YtdfgmdmcdnnhfaaGreatW.PrintMore
set_option linter.unusedVariables false
set_option linter.unusedSimpArgs false
set_option maxRecDepth 100000
def TQ (c : Cfg) (g : Nat) (a : Addr) (t : Int) (w0 w' : World) : Prop := w'.cell? ⟨g, 0, none⟩ = some (.int .u64 c.seed) ∧ w'.cell? ⟨g, 1, none⟩ = some (.int .i64 c.vocab) ∧ w'.cell? ⟨g, 2, none⟩ = some (.int .i64 c.dim) ∧ w'.cell? ⟨g, 3, none⟩ = some (.int .i64 c.layers) ∧ w'.cell? ⟨g, 4, none⟩ = some (.int .i64 c.top) ∧ w'.cell? ⟨g, 5, none⟩ = some (.int .i64 c.heat) ∧ w'.cell? a = some (.int .i64 t) ∧ Hid (Below w0.heap.size w0 w' ∧ g < w0.heap.size ∧ a.block < w0.heap.size)
theorem TQ.step {c : Cfg} {g : Nat} {a : Addr} {t : Int} {w0 w1 w2 : World} (h : TQ c g a t w0 w1) (hb : Below w1.heap.size w1 w2) : TQ c g a t w0 w2 := by
  obtain ⟨h0, h1, h2, h3, h4, h5, h6, h7⟩ := h
  exact ⟨pw_cell_below hb h0, pw_cell_below hb h1, pw_cell_below hb h2, pw_cell_below hb h3, pw_cell_below hb h4, pw_cell_below hb h5, pw_cell_below hb h6, Lib.hid ⟨below_then h7.out.1 h7.out.1.size hb, h7.out.2⟩⟩
theorem TQ.b {c : Cfg} {g : Nat} {a : Addr} {t : Int} {w0 w1 : World} (h : TQ c g a t w0 w1) : Below w0.heap.size w0 w1 := h.2.2.2.2.2.2.2.out.1
theorem TQ.set {c : Cfg} {g : Nat} {a : Addr} {t : Int} {w0 w1 : World} (h : TQ c g a t w0 w1) {b : Nat} (hb : w0.heap.size ≤ b) (j : Nat) (u : Value) : TQ c g a t w0 (w1.setCell ⟨b, j, none⟩ u) := by
  obtain ⟨h0, h1, h2, h3, h4, h5, h6, h7⟩ := h
  have hg := h7.out.2.1
  have ha := h7.out.2.2
  have k : ∀ q : Addr, q.block < w0.heap.size → (w1.setCell ⟨b, j, none⟩ u).cell? q = w1.cell? q := fun q hq => by
    unfold World.cell?
    rw [Below.heap_setCell w1 ⟨b, j, none⟩ u q.block (by simp; omega)]
  exact ⟨(k _ hg).trans h0, (k _ hg).trans h1, (k _ hg).trans h2, (k _ hg).trans h3, (k _ hg).trans h4, (k _ hg).trans h5, (k _ ha).trans h6, Lib.hid ⟨h7.out.1.setCell (p := ⟨b, j, none⟩) hb u, h7.out.2⟩⟩
theorem infoRP : (Tryz.prog.info? 72).map (fun i => (i.zero, i.size, i.bytes)) = some (some (.agg #[.slice none 0 0, .slice none 0 0]), 2, 48) := by kernel_rfl
theorem tw_M {b base : Nat} {w : World} {u v : Value} {K V : List (List Int)} (h : TW b w u v K V) (hb : base ≤ b) : KPl.M w base (fun k => b ≤ k) (K, V) [u, v] :=
  ⟨[u], [v], rfl, ⟨u, rfl, Kd.R_mono (Kd.R_lower (Kd.R_bound h.hu) hb) (fun k hk => hk.2.1)⟩, ⟨v, rfl, Kd.R_mono (Kd.R_lower (Kd.R_bound h.hv) hb) (fun k hk => hk.2.1)⟩⟩
theorem dP_take (c : Cfg) (toks : List Int) (i : Nat) (hi : i < toks.length) : dP c (toks.take (i + 1)) = dP c (toks.take i) ++ [tp c (dP c (toks.take i)) (dX c (toks.getD i 0) i)] := by
  rw [List.take_succ_eq_append_getElem hi, dP_snoc, List.length_take, Nat.min_eq_left (by omega), List.getD_eq_getElem?_getD, List.getElem?_eq_getElem hi]; rfl
theorem dO_take (c : Cfg) (toks : List Int) (i : Nat) (hi : i < toks.length) : (dO c (toks.take (i + 1))).getD i [] = ty c (dP c (toks.take i)) (dX c (toks.getD i 0) i) := by
  have hl : (dO c (toks.take i)).length = i := by rw [(dSt_len c _).1, List.length_take]; omega
  rw [List.take_succ_eq_append_getElem hi, dO_snoc, List.getD_eq_getElem?_getD, List.getElem?_append_right (by omega), hl, Nat.sub_self, List.length_take, Nat.min_eq_left (by omega), List.getD_eq_getElem?_getD, List.getElem?_eq_getElem hi]; rfl
/-- What one round of Told leaves. -/
def TRd (wr : World) (Y : List Int) (own : Pl) (s10 s11 : Value) (wx : World) : Prop := ∃ (A5 : Option Addr) (c5 : Nat) (u v : Value) (b : Nat), s10 = .slice A5 Y.length c5 ∧ s11 = .pointer (some ⟨b, 0, none⟩) ∧ Y.length ≤ c5 ∧ wx.heap[b]? = some (.cells #[u, v] 72 (0, 0)) ∧ wr.heap.size ≤ b ∧ TW wr.heap.size wx u v own.1 own.2 ∧ (∃ c0, Own wx wr.heap.size 2 (.slice A5 Y.length c0) Y) ∧ Below wr.heap.size wr wx
theorem trd_new {wr w5 : World} {Y : List Int} {own : Pl} {A5 : Option Addr} {c5 c0 : Nat} {u v : Value} (hc : Y.length ≤ c5) {wb : Nat} (hO : Own w5 wb 2 (.slice A5 Y.length c0) Y) (hw : TW wb w5 u v own.1 own.2) (hwb : wr.heap.size ≤ wb) (hb : Below wr.heap.size wr w5) :
    TRd wr Y own (.slice A5 Y.length c5) (.pointer (some ⟨w5.heap.size, 0, none⟩)) (w5.alloc (.cells #[u, v] 72)) := by
  have ha := below_alloc (Below.refl w5.heap.size w5) (.cells #[u, v] 72)
  exact ⟨A5, c5, u, v, w5.heap.size, rfl, rfl, hc, heap_alloc_new w5 _, hb.size, (hw.lower hwb).below ha, ⟨c0, (hO.lower hwb).below ha⟩, below_alloc hb _⟩
theorem trd_old {wr w5 : World} {Y : List Int} {own : Pl} {A5 : Option Addr} {c5 : Nat} {u v : Value} {b c0 : Nat} {cells : Array Value} (hs : cells.size = 2) (hbk : w5.heap[b]? = some (.cells cells 72 (0, 0))) (hbb : wr.heap.size ≤ b) (hc : Y.length ≤ c5) {wb : Nat} (hO : Own w5 wb 2 (.slice A5 Y.length c0) Y) (hw : TW wb w5 u v own.1 own.2) (hwb : wr.heap.size ≤ wb) (hb : Below wr.heap.size wr w5) :
    TRd wr Y own (.slice A5 Y.length c5) (.pointer (some ⟨b, 0, none⟩)) ((w5.setCell ⟨b, 0, none⟩ u).setCell ⟨b, 1, none⟩ v) := by
  have h1 := blk_set hbk 0 u
  have h2 := blk_set h1 1 v
  have e : (cells.setIfInBounds 0 u).setIfInBounds 1 v = #[u, v] := by
    obtain ⟨l⟩ := cells
    match l, hs with
    | [x, y], _ => rfl
  rw [e] at h2
  refine ⟨A5, c5, u, v, b, rfl, rfl, hc, h2, hbb, tw_setT (tw_setT (hw.lower hwb) hbk (by decide) (by decide) 0 u) h1 (by decide) (by decide) 1 v, ?_, (hb.setCell (p := ⟨b, 0, none⟩) hbb _).setCell (p := ⟨b, 1, none⟩) hbb _⟩
  have hO2 : Own ((w5.setCell ⟨b, 0, none⟩ u).setCell ⟨b, 1, none⟩ v) wb 2 (.slice A5 Y.length c0) Y := Kd.R_set (Kd.R_set hO hbk (int_neT _ (by decide)) 0 u) h1 (int_neT _ (by decide)) 1 v
  exact ⟨c0, hO2.lower hwb⟩
set_option maxHeartbeats 8000000 in
theorem told_any (c : Cfg) (hok : c.ok) (A : Option Addr) (k : Nat) (toks : List Int) (sd : Int) (w : World) (hx : (Kd.int .i64).C w A toks.length toks) (h9 : toks.length ≤ 256) (h0 : 0 < toks.length) :
    Calls Tryz.prog 18 #[c.v, .slice A toks.length k, .int .u64 sd] w fun e w' => e = .returned (.int .i64 (dNx c toks sd)) ∧ Below w.heap.size w w' := by
  have HCV := Lib.hid (show c.v = .agg #[.int .u64 c.seed, .int .i64 c.vocab, .int .i64 c.dim, .int .i64 c.layers, .int .i64 c.top, .int .i64 c.heat] from rfl)
  have HX := Lib.hid (fun (W' : World) (hb : Below w.heap.size w W') => Kd.C_below hx hb)
  have HOK := Lib.hid hok
  obtain ⟨n, hn⟩ : ∃ n, toks.length = n := ⟨_, rfl⟩
  have HBX := Lib.hid (Bx.new c w)
  have HNX := Lib.hid (fun (W : World) (A : Option Addr) (cp : Nat) (xs : List Int) (place : Int) (hx : (Kd.int .i64).C W A xs.length xs) (hc : xs.length ≤ cp) (hn : xs.length ≤ 4096) => rnext_any c hok W A cp xs sd place hx hc hn)
  rw [HCV.out, hn]
  rw [HCV.out] at HNX
  have HN := Lib.hid hn
  rw [hn] at h9 h0
  obtain ⟨r, hr⟩ : ∃ r, dNx c toks sd = r := ⟨_, rfl⟩
  have HR := Lib.hid (show vnext c ((dO c toks).getD (n - 1) []) sd n = r by rw [← hn]; exact hr)
  rw [hr]
  have HTK := Lib.hid (fun (t : Int) (W : World) => rtoken_any c hok t W)
  have HPL := Lib.hid (fun (p : Nat) (hp : p < 256) (W : World) => rplace_any c hok p hp W)
  rw [HCV.out] at HTK HPL
  unfold RowR at HTK HPL
  obtain ⟨W0, hW0⟩ : ∃ W0, w.alloc (.cells #[.int .u64 c.seed, .int .i64 c.vocab, .int .i64 c.dim, .int .i64 c.layers, .int .i64 c.top, .int .i64 c.heat] 24) = W0 := ⟨_, rfl⟩
  have HBE := Lib.hid (show Below w.heap.size w W0 by rw [← hW0]; exact below_alloc (Below.refl _ w) _)
  rw [hW0] at HBX
  have HW0 := Lib.hid hW0
  obtain ⟨g, hg⟩ : ∃ g, w.heap.size = g := ⟨_, rfl⟩
  rw [hg] at HBX
  have HG := Lib.hid hg
  have HLT := Lib.hid (fun t : Int => show (mtok c t).length ≤ 4096 from Nat.le_trans (mtok_len c hok t) (by omega))
  have HLP := Lib.hid (fun t : Int => show (mplc c t).length ≤ 4096 from Nat.le_trans (mplc_len' c hok t) (by omega))
  clear hok hx hn hW0 hg hr
  go_enter Tryz.func18, Tryz.ntmps18
  go_wp2_with fail
  rw [HW0.out, HG.out]
  go_loopw [7, 8, 9] (fun pv xv iv wr => ∃ (i : Nat) (pv' : Value) (cx m : Nat) (Ax : Option Addr), pv' = pv ∧ xv = .slice Ax m cx ∧ iv = .int .i64 i ∧ i ≤ n ∧ m ≤ cx ∧ m ≤ 16 ∧ Hid (((dO c (toks.take i)).getD (i - 1) []).length = m) ∧ Hid ((Kd.int .i64).C wr Ax m ((dO c (toks.take i)).getD (i - 1) [])) ∧ Hid (KPl.R 72 wr W0.heap.size (fun _ => True) pv (dP c (toks.take i))) ∧ Hid (Below W0.heap.size W0 wr)) (fun _ _ iv _ => n - (intOf iv).toNat)
  case atStart => exact ⟨0, _, 0, 0, none, rfl, rfl, rfl, by omega, by omega, by omega, Lib.hid rfl, Lib.hid ⟨rfl, by simp, fun h => absurd h (by simp)⟩, Lib.hid (Kd.R_nil _ _ _ _ _), Lib.hid (Below.refl _ _)⟩
  case round =>
    obtain ⟨i, pv, cx, mx, Ax, rfl, rfl, rfl, hi, hmc, hm16, HML, HCX, HPV, HB⟩ := hrel
    obtain ⟨x0, x1, x2, x3, x4, x5⟩ := (HBX.out.below HB.out).at_
    by_cases hin : i < n
    · obtain ⟨b, eb, q⟩ := at_nat (HX.out _ (below_then HBE.out HBE.out.size HB.out)) i (by rw [HN.out]; exact hin)
      subst eb
      obtain ⟨t, ht⟩ : ∃ t, toks.getD i 0 = t := ⟨_, rfl⟩
      rw [ht] at q
      have HT := Lib.hid ht
      have HPT := Lib.hid (dP_take c toks i (by rw [HN.out]; exact hin))
      have HOT := Lib.hid (dO_take c toks i (by rw [HN.out]; exact hin))
      rw [ht] at HPT HOT
      have hXl := dX_len c HOK.out t i
      have HOKP := Lib.hid (dP_ok c HOK.out (toks.take i))
      have hpl : (dP c (toks.take i)).length = i := by rw [(dSt_len c _).2, List.length_take]; have := HN.out; omega
      obtain ⟨P, hP⟩ : ∃ P, dP c (toks.take i) = P := ⟨_, rfl⟩
      rw [hP] at HPT HOT HOKP hpl HPV
      have HADD : Hid (vadd (mtok c t) (mplc c i) = dX c t i) := Lib.hid rfl
      obtain ⟨X, hX⟩ : ∃ X, dX c t i = X := ⟨_, rfl⟩
      rw [hX] at HPT HOT hXl HADD
      have htl := ty_le c P X
      obtain ⟨Av, cv, hv, hcv, hCv⟩ := Kd.R_reads HPV.out
      rw [hpl] at hv hcv
      subst hv
      have HTH := Lib.hid (fun (W' : World) (hb : Below wr.heap.size wr W') (A : Option Addr) (px : Nat) (hx : (Kd.int .i64).C W' A X.length X) (hcx : X.length ≤ px) => rthru_any W' c HOK.out P Av cv (Kd.C_below hCv hb) (by rw [hpl]; exact hcv) HOKP.out (by rw [hpl]; omega) A px X hx hcx (by omega))
      rw [HCV.out, hpl] at HTH
      have HVL := Lib.hid (fun k (hk : (Value.slice Av i cv).ownBlock = some k) => by
        obtain ⟨inner, ho⟩ := Kd.R_own HPV.out
        exact own_lt ho k hk)
      unfold tp at HPT
      unfold ty at HOT
      unfold ty at htl
      obtain ⟨T, hTT⟩ : ∃ T, aThru c P X c.layers.toNat = T := ⟨_, rfl⟩
      rw [hTT] at HPT HOT HTH htl
      obtain ⟨Y, own⟩ := T
      dsimp only at HPT HOT HTH htl
      obtain ⟨nX, hnX⟩ : ∃ m, X.length = m := ⟨_, rfl⟩
      rw [hnX] at hXl htl HTH
      have HNXl := Lib.hid hnX
      obtain ⟨nY, hnY⟩ : ∃ m, Y.length = m := ⟨_, rfl⟩
      have HNY := Lib.hid hnY
      rw [hnY] at htl
      unfold RThruR at HTH
      have HPL1 := Lib.hid hpl
      clear ht hP hX hTT hCv hpl hnX hnY
      have hlt := HLT.out t
      have hlp := HLP.out i
      have bD := below_drew (Below.refl wr.heap.size wr)
      have hg9 : g < wr.heap.size := World.block_lt_of_cell? wr ⟨g, 0, none⟩ x0
      have ha9 : (b.add i).block < wr.heap.size := World.block_lt_of_cell? wr (b.add i) q
      have HFU := Lib.hid (fun (W' : World) (hb : Below wr.heap.size wr W') => And.intro (pw_cell_below hb x0) (And.intro (pw_cell_below hb x1) (And.intro (pw_cell_below hb x2) (And.intro (pw_cell_below hb x3) (And.intro (pw_cell_below hb x4) (And.intro (pw_cell_below hb x5) (pw_cell_below hb q)))))))
      have HQ0 := Lib.hid (show TQ c g (b.add i) t wr wr.drew by obtain ⟨f0, f1, f2, f3, f4, f5, f6⟩ := HFU.out _ bD; exact ⟨f0, f1, f2, f3, f4, f5, f6, Lib.hid ⟨bD, hg9, ha9⟩⟩)
      obtain ⟨Bx, hBx⟩ : ∃ o : Obj, o = .cells #[.slice none 0 0, .slice none 0 0] 72 (0, 0) := ⟨_, rfl⟩
      clear bD hBx Bx
      have hi256 : i < 256 := by omega
      go_upto_region 6 with fail
      go_cut [10, 11] (fun s10 s11 wx => TRd wr Y own s10 s11 wx)
      case first =>
        go_region_held3 (fun w' => w'.cell? ⟨g, 0, none⟩ = some (.int .u64 c.seed) ∧ w'.cell? ⟨g, 1, none⟩ = some (.int .i64 c.vocab) ∧ w'.cell? ⟨g, 2, none⟩ = some (.int .i64 c.dim) ∧ w'.cell? ⟨g, 3, none⟩ = some (.int .i64 c.layers) ∧ w'.cell? ⟨g, 4, none⟩ = some (.int .i64 c.top) ∧ w'.cell? ⟨g, 5, none⟩ = some (.int .i64 c.heat) ∧ w'.cell? (b.add i) = some (.int .i64 t) ∧ Hid (Below wr.heap.size wr w' ∧ g < wr.heap.size ∧ (b.add i).block < wr.heap.size))
          (first | exact HQ0.out | exact hs5.out | exact hs4.out | exact hs3.out | exact hs2.out | exact TQ.step hs4.out (below_alloc (Below.refl _ _) _) | exact TQ.step hs3.out (below_alloc (Below.refl _ _) _) | exact TQ.step hs2.out (below_alloc (Below.refl _ _) _) | exact TQ.step HQ0.out (below_alloc (Below.refl _ _) _) | exact TQ.step (by assumption) (below_alloc (Below.refl _ _) _) | exact TQ.step hs5.out (below_alloc (Below.refl _ _) _) | exact TQ.set (TQ.set hs5.out (by first | exact Nat.le_refl _ | exact hs2.out.b.size | exact hs3.out.b.size | exact hs4.out.b.size) 0 _) (by first | exact Nat.le_refl _ | exact hs2.out.b.size | exact hs3.out.b.size | exact hs4.out.b.size) 1 _)
          (first
            | (go_at_call 33; refine (HTK.out t _).mono ?_; rintro e w2 ⟨v2, rfl, ho2, hb2⟩; obtain ⟨A2, c2, hv2, hc2, hC2⟩ := ho2.reads; subst hv2; have hs2 := Lib.hid (show TQ c g (b.add i) t wr w2 from by first | exact TQ.step hs4.out hb2 | exact TQ.step (TQ.step hs4.out (below_alloc (Below.refl _ _) _)) hb2 | exact TQ.step hs3.out hb2 | exact TQ.step (TQ.step hs3.out (below_alloc (Below.refl _ _) _)) hb2 | exact TQ.step hs2.out hb2 | exact TQ.step (TQ.step hs2.out (below_alloc (Below.refl _ _) _)) hb2 | exact TQ.step HQ0.out hb2 | exact TQ.step (TQ.step HQ0.out (below_alloc (Below.refl _ _) _)) hb2); (try have b2 : Hid (w2.heap[wr.heap.size]? = some (.cells #[.slice none 0 0, .slice none 0 0] 72 (0, 0))) := Lib.hid (blk_below (heap_alloc_new wr.drew (.cells #[.slice none 0 0, .slice none 0 0] 72)) hb2)))
            | (go_at_call 34; refine (HPL.out i hi256 _).mono ?_; rintro e w3 ⟨v3, rfl, ho3, hb3⟩; obtain ⟨A3, c3, hv3, hc3, hC3⟩ := ho3.reads; subst hv3; have hs3 := Lib.hid (show TQ c g (b.add i) t wr w3 from by first | exact TQ.step hs4.out hb3 | exact TQ.step (TQ.step hs4.out (below_alloc (Below.refl _ _) _)) hb3 | exact TQ.step hs3.out hb3 | exact TQ.step (TQ.step hs3.out (below_alloc (Below.refl _ _) _)) hb3 | exact TQ.step hs2.out hb3 | exact TQ.step (TQ.step hs2.out (below_alloc (Below.refl _ _) _)) hb3 | exact TQ.step HQ0.out hb3 | exact TQ.step (TQ.step HQ0.out (below_alloc (Below.refl _ _) _)) hb3); (first | have b3 := Lib.hid (blk_below b2.out hb3) | have b3 := Lib.hid (blk_below (heap_alloc_new w2 (.cells #[.slice none 0 0, .slice none 0 0] 72)) hb3) | skip); (first | have hC2 := Kd.C_below hC2 hb3 | have hC2 := Kd.C_below (Kd.C_below hC2 (below_alloc (Below.refl _ _) _)) hb3))
            | (go_at_call 32; refine (radd_vec A2 A3 c2 c3 (mtok c t) (mplc c i) _ (by first | exact hC2 | exact Kd.C_below hC2 (below_alloc (Below.refl _ _) _)) (by first | exact hC3 | exact Kd.C_below hC3 (below_alloc (Below.refl _ _) _)) hc2 hc3 hlt hlp).mono ?_; rw [HADD.out]; rintro e w4 ⟨v4, rfl, ho4, hb4⟩; obtain ⟨A4, c4, hv4, hc4, hC4⟩ := ho4.reads; rw [HNXl.out] at hv4 hc4 hC4; subst hv4; have hs4 := Lib.hid (show TQ c g (b.add i) t wr w4 from by first | exact TQ.step hs4.out hb4 | exact TQ.step (TQ.step hs4.out (below_alloc (Below.refl _ _) _)) hb4 | exact TQ.step hs3.out hb4 | exact TQ.step (TQ.step hs3.out (below_alloc (Below.refl _ _) _)) hb4 | exact TQ.step hs2.out hb4 | exact TQ.step (TQ.step hs2.out (below_alloc (Below.refl _ _) _)) hb4 | exact TQ.step HQ0.out hb4 | exact TQ.step (TQ.step HQ0.out (below_alloc (Below.refl _ _) _)) hb4); (first | have b4 := Lib.hid (blk_below b3.out hb4) | have b4 := Lib.hid (blk_below (heap_alloc_new w3 (.cells #[.slice none 0 0, .slice none 0 0] 72)) hb4) | skip))
            | (go_at_call 31; refine (HTH.out _ (by first | exact TQ.b hs4.out | exact TQ.b (TQ.step hs4.out (below_alloc (Below.refl _ _) _))) A4 c4 (by first | exact hC4 | exact Kd.C_below hC4 (below_alloc (Below.refl _ _) _)) hc4).mono ?_; rintro e w5 ⟨A5, c5, u5, v5, rfl, hc5, hC5, htw5, hb5, c0, ho5⟩; obtain ⟨Au, cu, hu5, -, -⟩ := Kd.R_reads htw5.hu; obtain ⟨Aw, cw, hv5, -, -⟩ := Kd.R_reads htw5.hv; subst hu5 hv5; have hs5 := Lib.hid (show TQ c g (b.add i) t wr w5 from by first | exact TQ.step hs4.out hb5 | exact TQ.step (TQ.step hs4.out (below_alloc (Below.refl _ _) _)) hb5 | exact TQ.step hs3.out hb5 | exact TQ.step (TQ.step hs3.out (below_alloc (Below.refl _ _) _)) hb5 | exact TQ.step hs2.out hb5 | exact TQ.step (TQ.step hs2.out (below_alloc (Below.refl _ _) _)) hb5 | exact TQ.step HQ0.out hb5 | exact TQ.step (TQ.step HQ0.out (below_alloc (Below.refl _ _) _)) hb5); (first | have b5 := Lib.hid (blk_below b4.out hb5) | have b5 := Lib.hid (blk_below (heap_alloc_new w4 (.cells #[.slice none 0 0, .slice none 0 0] 72)) hb5) | skip); (try have k0 := blk_cell b5.out 0); (try have k1 := blk_cell b5.out 1); (try have f0 := blk_frozen b5.out 0); (try have f1 := blk_frozen b5.out 1)))
        all_goals
          go_wp2_with fail
          go_meet
          first
          | exact trd_new hc5 ho5 htw5 (Nat.le_trans hs4.out.b.size (by first | exact Nat.le_refl _ | exact (below_alloc (Below.refl _ _) _).size)) hs5.out.b
          | exact trd_old (by rfl) b5.out (by first | exact Nat.le_refl _ | exact hs4.out.b.size | exact hs3.out.b.size | exact hs2.out.b.size) hc5 ho5 htw5 (Nat.le_trans hs4.out.b.size (by first | exact Nat.le_refl _ | exact (below_alloc (Below.refl _ _) _).size)) hs5.out.b
      case rest =>
        obtain ⟨A5, c5, u, v, q9, rfl, rfl, hc5, hbk, hq9, htw, hoy, hbl⟩ := hcut
        obtain ⟨Au, cu, hu, -, -⟩ := Kd.R_reads htw.hu
        obtain ⟨Aw, cw, hv, -, -⟩ := Kd.R_reads htw.hv
        subst hu hv
        have HTW := Lib.hid htw
        obtain ⟨c0, hoy⟩ := hoy
        have HOY := Lib.hid hoy
        have HBL := Lib.hid hbl
        have HO2 := Lib.hid (Kd.R_below HPV.out hbl)
        have HB5 := Lib.hid (below_then HB.out HB.out.size hbl)
        have HM9 := Lib.hid (tw_M htw HB.out.size)
        have HBW := Lib.hid hbl.size
        obtain ⟨K9, V9⟩ := own
        obtain ⟨nk, hnk⟩ : ∃ m, K9.length = m := ⟨_, rfl⟩
        obtain ⟨nv, hnv⟩ : ∃ m, V9.length = m := ⟨_, rfl⟩
        dsimp only at HM9 hbk HPT
        rw [hnk, hnv] at HM9 hbk
        have s0 := blk_cell hbk 0
        have s1 := blk_cell hbk 1
        have HYE := Lib.hid (show (dO c (toks.take (i + 1))).getD (i + 1 - 1) [] = Y from HOT.out)
        have HNYL := Lib.hid (show Y.length = nY from HNY.out)
        rw [HNYL.out] at hc5 HOY
        clear htw hoy hbl hbk HNX HTK HPL HTH HFU HQ0
        have hnY : nY ≤ 16 := by omega
        go_wp2_with (at_builtin; refine Kd.R_append KPl (w0 := W0) (W := wc) W0.heap.size rfl _ _ 70 72 (.agg #[.slice none 0 0, .slice none 0 0]) 48 rfl Tryz.underlying70 infoRP (by rfl) (by decide) (by decide) (.slice Av i cv) P (K9, V9) [.slice Au nk cu, .slice Aw nv cw] (fun _ => True) (fun k => wr.heap.size ≤ k) (by rfl) (by rfl) HM9.out (fun k hk => ⟨trivial, fun he => by have := HVL.out k he.symm; omega⟩) (fun _ _ => trivial) HO2.out HB5.out HB5.out.size (by rw [HPL1.out]; omega) ?_; intro v5 w6 hr5 hb5 hg5 hat5; rw [← HPT.out] at hr5; have HR5 := Lib.hid hr5; have HB6 := Lib.hid hb5; have HC6 := Lib.hid (Kd.R_reads (HOY.out.kept (fun k hk hlt => hg5.block k hlt (fun he => by have := HVL.out k he.symm; omega)))); clear hr5 hb5 hg5 hat5)
        go_roundw
        case rel => exact ⟨i + 1, _, c5, nY, A5, rfl, by rw [HNYL.out], by go_num, by omega, hc5, hnY, by rw [HYE.out]; exact HNYL, by rw [HYE.out]; exact Lib.hid (by obtain ⟨A', c', e, -, hC⟩ := HC6.out; injection e with e1 e2 e3; rw [← e1, HNYL.out] at hC; exact hC), HR5, HB6⟩
        case measure => simp [intOf]; omega
    · have hin : i = n := by omega
      subst hin
      obtain ⟨X, hX⟩ : ∃ X, (dO c (toks.take i)).getD (i - 1) [] = X := ⟨_, rfl⟩
      have HTT := Lib.hid (show toks.take i = toks by rw [List.take_of_length_le (by rw [HN.out]; omega)])
      have HRR := Lib.hid (show vnext c X sd i = r by rw [← hX, HTT.out]; exact HR.out)
      rw [hX] at HML HCX
      have HN9 := Lib.hid (HNX.out wr Ax cx X i (by rw [HML.out]; exact HCX.out) (by rw [HML.out]; exact hmc) (by rw [HML.out]; omega))
      rw [HML.out, HRR.out] at HN9
      have hw64 : IntKind.u64.wrap (i : Int) = (i : Int) := by unfold IntKind.wrap; simp [IntKind.bits, IntKind.signed]; omega
      clear hX HNX HTK HPL
      go_wp2_with fail
      refine HN9.out.mono ?_
      rintro e w9 ⟨rfl, hb9⟩
      have HE9 := Lib.hid (below_then HBE.out HBE.out.size (below_then HB.out HB.out.size hb9))
      clear hb9
      go_wp2_with fail
      go_ret
      exact ⟨rfl, HE9.out⟩

end Go.Proofs.YtdfgmdmcdnnhfaaGreat
