/- attn.Through. -/
import Derived.Test.YtdfgmdmcdnnhfaaGreatAtT
namespace Go.Proofs.YtdfgmdmcdnnhfaaGreat
open Go.RowKit Go.Shelf Go.Proofs.YtdfgmdmcdnnhfaaGreatW.PrintWords Go.Proofs.YtdfgmdmcdnnhfaaGreatW.PrintLast Go.Proofs.YtdfgmdmcdnnhfaaGreatW.PrintMore
set_option linter.unusedVariables false
set_option linter.unusedSimpArgs false
set_option maxRecDepth 100000
attribute [local go_sem] run_cfg1 run_cfg2 run_cfg3

theorem aX_le (c : Cfg) (l : Int) (x : List Int) (ks vs : List (List Int)) : (aX c l x ks vs).length ≤ x.length := by
  unfold aX
  exact Nat.le_trans (vadd_len _ _) (by unfold aH; exact vadd_len _ _)
theorem aThru_le (c : Cfg) (P : List Pl) (x : List Int) (n : Nat) : (aThru c P x n).1.length ≤ x.length := by
  induction n with
  | zero => exact Nat.le_refl _
  | succ n ih => exact Nat.le_trans (aX_le _ _ _ _ _) ih
theorem aThru_k (c : Cfg) (P : List Pl) (x : List Int) (n : Nat) : (aThru c P x n).2.1.length = n ∧ (aThru c P x n).2.2.length = n := by
  induction n with
  | zero => exact ⟨rfl, rfl⟩
  | succ n ih =>
    show ((aThru c P x n).2.1 ++ _).length = n + 1 ∧ ((aThru c P x n).2.2 ++ _).length = n + 1
    rw [List.length_append, List.length_append, ih.1, ih.2]; exact ⟨rfl, rfl⟩
theorem col_short {L : Nat} {P : List Pl} (h : PlOk L P) (l : Nat) : Short (colK P l) ∧ Short (colV P l) := by
  constructor
  · intro j
    rcases Nat.lt_or_ge j P.length with hj | hj
    · have h1 : (colK P l).getD j [] = P[j].1.getD l [] := by
        unfold colK; rw [List.getD_eq_getElem?_getD, List.getElem?_map, List.getElem?_eq_getElem hj]; rfl
      rw [h1]; exact (h _ (List.getElem_mem hj)).2.2.1 l
    · have h1 : (colK P l).getD j [] = [] := by
        rw [List.getD_eq_getElem?_getD, List.getElem?_eq_none (by rw [colK_len]; exact hj)]; rfl
      rw [h1]; simp
  · intro j
    rcases Nat.lt_or_ge j P.length with hj | hj
    · have h1 : (colV P l).getD j [] = P[j].2.getD l [] := by
        unfold colV; rw [List.getD_eq_getElem?_getD, List.getElem?_map, List.getElem?_eq_getElem hj]; rfl
      rw [h1]; exact (h _ (List.getElem_mem hj)).2.2.2 l
    · have h1 : (colV P l).getD j [] = [] := by
        rw [List.getD_eq_getElem?_getD, List.getElem?_eq_none (by rw [colV_len]; exact hj)]; rfl
      rw [h1]; simp
def XF (W w : World) (A : Option Addr) (X : List Int) : Prop := (Kd.int .i64).C W A X.length X ∨ ∃ c, Own w W.heap.size 2 (.slice A X.length c) X
theorem XF.rd {W w : World} {A : Option Addr} {X : List Int} (h : XF W w A X) (hb : Below W.heap.size W w) : (Kd.int .i64).C w A X.length X := by
  rcases h with h | ⟨c, h⟩
  · exact Kd.C_below h hb
  · exact h.rd.2
structure LPt (W : World) (A : Option Addr) (b9 : Nat) (X : List Int) (K V : List (List Int)) (u v : Value) (w : World) : Prop where
  x : XF W w A X
  md : w.heap[b9]? = some (.cells #[u, v] 106 (0, 0))
  tw : TW W.heap.size w u v K V
  bel : Below W.heap.size W w
theorem XF.below {W w w1 : World} {A : Option Addr} {X : List Int} (h : XF W w A X) (hb : Below w.heap.size w w1) : XF W w1 A X := by
  rcases h with h | ⟨c, h⟩
  · exact .inl h
  · exact .inr ⟨c, h.below hb⟩
theorem LPt.below {W : World} {A : Option Addr} {b9 : Nat} {X : List Int} {K V : List (List Int)} {u v : Value} {w w1 : World} (h : LPt W A b9 X K V u v w) (hb : Below w.heap.size w w1) : LPt W A b9 X K V u v w1 :=
  ⟨h.x.below hb, blk_below h.md hb, h.tw.below hb, below_then h.bel h.bel.size hb⟩
theorem LPt.lt9 {W : World} {A : Option Addr} {b9 : Nat} {X : List Int} {K V : List (List Int)} {u v : Value} {w : World} (h : LPt W A b9 X K V u v w) : b9 < w.heap.size := by
  have := h.md
  rcases Nat.lt_or_ge b9 w.heap.size with h1 | h1
  · exact h1
  · rw [Array.getElem?_eq_none h1] at this; cases this
def S3 (W : World) (a1 a2 a3 : Addr) (v1 v2 v3 : Value) (w : World) : Prop := w.cell? a1 = some v1 ∧ w.cell? a2 = some v2 ∧ w.cell? a3 = some v3 ∧ Hid (Below W.heap.size W w)
theorem S3.step {W : World} {a1 a2 a3 : Addr} {v1 v2 v3 : Value} {w w1 : World} (h : S3 W a1 a2 a3 v1 v2 v3 w) (hb : Below w.heap.size w w1) : S3 W a1 a2 a3 v1 v2 v3 w1 := ⟨pw_cell_below hb h.1, pw_cell_below hb h.2.1, pw_cell_below hb h.2.2.1, Lib.hid (below_then h.2.2.2.out h.2.2.2.out.size hb)⟩
theorem S3.b {W : World} {a1 a2 a3 : Addr} {v1 v2 v3 : Value} {w : World} (h : S3 W a1 a2 a3 v1 v2 v3 w) : Below W.heap.size W w := h.2.2.2.out
structure LS (W : World) (u v u0 v0 : Value) (b9 : Nat) (K V : List (List Int)) (yv : Value) (X' : List Int) (K' V' : List Int) (kc vc : List Value) (w : World) : Prop where
  tw : TW W.heap.size w u v K V
  bel : Below W.heap.size W w
  lt : b9 < w.heap.size
  md : w.heap[b9]? = some (.cells #[u0, v0] 106 (0, 0))
  oy : Own w W.heap.size 2 yv X'
  nk : NewRow W.heap.size w K' kc
  nv : NewRow W.heap.size w V' vc
section
variable {W : World} {u v u0 v0 : Value} {b9 : Nat} {K V : List (List Int)} {yv : Value} {X' K' V' : List Int} {kc vc : List Value} {w w1 : World}
theorem LS.below (h : LS W u v u0 v0 b9 K V yv X' K' V' kc vc w) (hb : Below w.heap.size w w1) : LS W u v u0 v0 b9 K V yv X' K' V' kc vc w1 :=
  ⟨h.tw.below hb, below_then h.bel h.bel.size hb, Nat.lt_of_lt_of_le h.lt hb.size, blk_below h.md hb, h.oy.below hb, h.nk.below hb, h.nv.below hb⟩
theorem tw_typu (h : TW W.heap.size w u v K V) : ∀ k, u.ownBlock = some k → ∃ cells, w.heap[k]? = some (.cells cells 55 (0, 0)) := fun k hk => by
  obtain ⟨-, inner, ho, -⟩ := h.hu
  exact own_typed ho k hk
theorem tw_typv (h : TW W.heap.size w u v K V) : ∀ k, v.ownBlock = some k → ∃ cells, w.heap[k]? = some (.cells cells 55 (0, 0)) := fun k hk => by
  obtain ⟨-, inner, ho, -⟩ := h.hv
  exact own_typed ho k hk
theorem LS.ne (h : LS W u v u0 v0 b9 K V yv X' K' V' kc vc w) : some b9 ≠ u.ownBlock ∧ some b9 ≠ v.ownBlock := by
  constructor
  · intro he
    obtain ⟨cells', hc'⟩ := tw_typu h.tw b9 he.symm
    rw [h.md] at hc'
    simp at hc'
  · intro he
    obtain ⟨cells', hc'⟩ := tw_typv h.tw b9 he.symm
    rw [h.md] at hc'
    simp at hc'
theorem int_ne : ∀ q, q ∈ 2 :: (Kd.int .i64).E → q ≠ 55 := by
  intro q hq
  have h1 : q = 2 := by simpa [Kd.int, Kd.scalar] using hq
  subst h1; decide
theorem LS.put_u {u1 : Value} {K1 : List (List Int)} (h : LS W u v u0 v0 b9 K V yv X' K' V' kc vc w) (h1 : KRow.R 55 w1 W.heap.size (fun k => some k ≠ v.ownBlock) u1 K1) (hb : Below W.heap.size W w1) (hg : w.grownBy w1 u.ownBlock) (hat : u1.ownBlock = u.ownBlock ∨ ∃ b, u1.ownBlock = some b ∧ w.heap.size ≤ b) : LS W u1 v u0 v0 b9 K1 V yv X' K' V' kc vc w1 :=
  ⟨TW.put_u h.tw h1 hg hat, hb, Nat.lt_of_lt_of_le h.lt hg.size, (hg.block b9 h.lt h.ne.1).trans h.md, Kd.R_over' h.oy (tw_typu h.tw) int_ne hg, NewRow.grown h.nk hg (fun k hk => (NewRow.ne h.tw k hk).1), NewRow.grown h.nv hg (fun k hk => (NewRow.ne h.tw k hk).1)⟩
theorem LS.put_v {v1 : Value} {V1 : List (List Int)} (h : LS W u v u0 v0 b9 K V yv X' K' V' kc vc w) (h1 : KRow.R 55 w1 W.heap.size (fun k => some k ≠ u.ownBlock) v1 V1) (hb : Below W.heap.size W w1) (hg : w.grownBy w1 v.ownBlock) (hat : v1.ownBlock = v.ownBlock ∨ ∃ b, v1.ownBlock = some b ∧ w.heap.size ≤ b) : LS W u v1 u0 v0 b9 K V1 yv X' K' V' kc vc w1 :=
  ⟨TW.put_v h.tw h1 hg hat, hb, Nat.lt_of_lt_of_le h.lt hg.size, (hg.block b9 h.lt h.ne.2).trans h.md, Kd.R_over' h.oy (tw_typv h.tw) int_ne hg, NewRow.grown h.nk hg (fun k hk => (NewRow.ne h.tw k hk).2), NewRow.grown h.nv hg (fun k hk => (NewRow.ne h.tw k hk).2)⟩
theorem row_ne9 : ∀ q, q ∈ 55 :: KRow.E → q ≠ 106 := by
  intro q hq
  have h1 : q = 55 ∨ q = 2 := by simpa [KRow, Kd.slice, Kd.int, Kd.scalar] using hq
  rcases h1 with h1 | h1 <;> subst h1 <;> decide
theorem int_ne9 : ∀ q, q ∈ 2 :: (Kd.int .i64).E → q ≠ 106 := by
  intro q hq
  have h1 : q = 2 := by simpa [Kd.int, Kd.scalar] using hq
  subst h1; decide
theorem tw_set {base g : Nat} {cells : Array Value} (h : TW base w u v K V) (hb : w.heap[g]? = some (.cells cells 106 (0, 0))) (i : Nat) (x : Value) : TW base (w.setCell ⟨g, i, none⟩ x) u v K V := ⟨Kd.R_set h.hu hb row_ne9 i x, Kd.R_set h.hv hb row_ne9 i x⟩
theorem LS.fin (h : LS W u v u0 v0 b9 K V yv X' K' V' kc vc w) (h9 : W.heap.size ≤ b9) : ((w.setCell ⟨b9, 0, none⟩ u).setCell ⟨b9, 1, none⟩ v).heap[b9]? = some (.cells #[u, v] 106 (0, 0)) ∧ TW W.heap.size ((w.setCell ⟨b9, 0, none⟩ u).setCell ⟨b9, 1, none⟩ v) u v K V ∧ Own ((w.setCell ⟨b9, 0, none⟩ u).setCell ⟨b9, 1, none⟩ v) W.heap.size 2 yv X' ∧ Below W.heap.size W ((w.setCell ⟨b9, 0, none⟩ u).setCell ⟨b9, 1, none⟩ v) :=
  ⟨blk_set (blk_set h.md 0 u) 1 v, tw_set (tw_set h.tw h.md 0 u) (blk_set h.md 0 u) 1 v, Kd.R_set (Kd.R_set h.oy h.md int_ne9 0 u) (blk_set h.md 0 u) int_ne9 1 v, (h.bel.setCell (p := ⟨b9, 0, none⟩) h9 u).setCell (p := ⟨b9, 1, none⟩) h9 v⟩
theorem LS.fin2 (h : LS W u v u0 v0 b9 K V yv X' K' V' kc vc w) (h9 : W.heap.size ≤ b9) : ((w.setCell ⟨b9, 1, none⟩ v).setCell ⟨b9, 0, none⟩ u).heap[b9]? = some (.cells #[u, v] 106 (0, 0)) ∧ TW W.heap.size ((w.setCell ⟨b9, 1, none⟩ v).setCell ⟨b9, 0, none⟩ u) u v K V ∧ Own ((w.setCell ⟨b9, 1, none⟩ v).setCell ⟨b9, 0, none⟩ u) W.heap.size 2 yv X' ∧ Below W.heap.size W ((w.setCell ⟨b9, 1, none⟩ v).setCell ⟨b9, 0, none⟩ u) :=
  ⟨blk_set (blk_set h.md 1 v) 0 u, tw_set (tw_set h.tw h.md 1 v) (blk_set h.md 1 v) 0 u, Kd.R_set (Kd.R_set h.oy h.md int_ne9 1 v) (blk_set h.md 1 v) int_ne9 0 u, (h.bel.setCell (p := ⟨b9, 1, none⟩) h9 v).setCell (p := ⟨b9, 0, none⟩) h9 u⟩
end
theorem thru_foot {F G : Nat → Prop} {W wn W8 : World} {q n : Nat} {L : Int} {P : List Pl} (hG : ∀ k, G k → F k ∨ Bt W.heap.size wn.heap.size k) (h : MemF (FU G (Bt wn.heap.size n)) W8 q L P) (hF : ∀ k, F k → k < W.heap.size) (h1 : W.heap.size ≤ wn.heap.size) (h2 : wn.heap.size ≤ n) (h3 : n ≤ W8.heap.size := by simp) : MemG (FU F (Bt W.heap.size W8.heap.size)) W8 q L P :=
  ⟨h.mono (fun k hk => by
    rcases hk with hk | hk
    · rcases hG k hk with hk | hk
      · exact .inl hk
      · exact .inr ⟨hk.1, by have := hk.2; omega⟩
    · exact .inr ⟨by have := hk.1; omega, by have := hk.2; omega⟩), fun k hk => by
    rcases hk with hk | hk
    · have := hF k hk; omega
    · exact hk.2⟩
def ThruR (F : Nat → Prop) (X : List Int) (L : Int) (Q : List Pl) (W : World) (e : Ending) (w' : World) : Prop := ∃ A cp q, e = .returned (.tuple #[.slice A X.length cp, .pointer (some ⟨q, 0, none⟩)]) ∧ Own w' W.heap.size 2 (.slice A X.length cp) X ∧ MemG (FU F (Bt W.heap.size w'.heap.size)) w' q L Q ∧ Below W.heap.size W w'


set_option maxHeartbeats 2000000 in
theorem thru_same (W : World) (p : Nat) (c : Cfg) (hok : c.ok) (hMo : Mo W p c) (F : Nat → Prop) (q : Nat) (P : List Pl) (hm : MemG F W q c.layers P) (hP : PlOk c.layers.toNat P) (hlP : P.length ≤ 900) (A : Option Addr) (px : Nat) (xs : List Int) (hx : (Kd.int .i64).C W A xs.length xs) (hcx : xs.length ≤ px) (hnx : xs.length ≤ 4096) :
    Calls Tryz.prog 43 #[.pointer (some ⟨p, 0, none⟩), .pointer (some ⟨q, 0, none⟩), .slice A xs.length px] W (ThruR F (aThru c P xs c.layers.toNat).1 c.layers (P ++ [(aThru c P xs c.layers.toNat).2]) W) := by
  obtain ⟨L, hL⟩ : ∃ L : Nat, c.layers = L := ⟨c.layers.toNat, by have := hok.2.2.1; omega⟩
  have hL1 : 1 ≤ L := by have := hok.2.2.1; omega
  have hL4 : L ≤ 4 := by have := hok.2.2.1; omega
  have HLY := Lib.hid hL
  have hLL : c.layers.toNat = L := by omega
  have HCV := Lib.hid (show c.v = .agg #[.int .u64 c.seed, .int .i64 c.vocab, .int .i64 c.dim, .int .i64 L, .int .i64 c.top, .int .i64 c.heat] by rw [← hL]; rfl)
  have HOK := Lib.hid hok
  have HC1 := Lib.hid (config_any W p c hMo)
  rw [HCV.out] at HC1
  have HMO := Lib.hid hMo
  have HX := Lib.hid (show (Kd.int .i64).C W A xs.length xs from hx)
  rw [hLL, hL]
  obtain ⟨n, hn⟩ : ∃ n, xs.length = n := ⟨_, rfl⟩
  have HN := Lib.hid hn
  rw [hn] at hcx hnx
  rw [hn]
  rw [hL] at hm
  rw [hLL] at hP
  have HFW := Lib.hid hm.2
  have HM := Lib.hid hm
  have HP := Lib.hid hP
  clear hP hm
  unfold ThruR
  clear hok hMo hx hn hL hLL
  go_enter Tryz.func43, Tryz.ntmps43
  go_wp2_with fail
  refine HC1.out.mono ?_
  rintro e wn ⟨rfl, hb⟩
  have HMO := Lib.hid (HMO.out.below hb)
  have HX := Lib.hid (Kd.C_below HX.out hb)
  have HB := Lib.hid hb
  have HM := Lib.hid (HM.out.below hb)
  clear hb HC1
  go_wp2_with fail
  refine (alay_any wn q L P HM.out.mem).mono ?_
  rintro e w1 ⟨rfl, hw⟩
  replace hw := hw.symm
  subst hw
  have z := Lib.hid (show ((L : Int) != (L : Int)) = false by simp)
  have z := z.out
  have hPl : P.length ≤ 900 := hlP
  go_wp2_with fail
  have hB9 := below_alloc (Below.refl wn.heap.size wn) (.cells #[.slice none 0 0, .slice none 0 0] 106)
  have hmd := heap_alloc_new wn (.cells #[.slice none 0 0, .slice none 0 0] 106)
  obtain ⟨b9, hb9⟩ : ∃ b, wn.heap.size = b := ⟨_, rfl⟩
  have hge : W.heap.size ≤ b9 := by rw [← hb9]; exact HB.out.size
  have HLP := Lib.hid (show LPt wn A b9 xs [] [] (.slice none 0 0) (.slice none 0 0) (wn.alloc (.cells #[.slice none 0 0, .slice none 0 0] 106)) from
    ⟨.inl HX.out, by rw [← hb9]; exact hmd, TW.nil _ _, hB9⟩)
  have h9 : wn.heap.size ≤ b9 := by omega
  rw [hb9]
  clear hB9 hmd hb9 HX hge
  go_loopw [2, 27] (fun x s wr => ∃ (i : Nat) (Ax : Option Addr) (cx : Nat) (u v : Value), x = .slice Ax (aThru c P xs i).1.length cx ∧ s = .int .i64 i ∧ i ≤ L ∧ (aThru c P xs i).1.length ≤ cx ∧ Hid (LPt wn Ax b9 (aThru c P xs i).1 (aThru c P xs i).2.1 (aThru c P xs i).2.2 u v wr)) (fun _ s _ => L - (intOf s).toNat)
  case atStart => exact ⟨0, A, px, _, _, by show Value.slice A n px = _; rw [← HN.out]; rfl, rfl, by omega, by show xs.length ≤ px; rw [HN.out]; exact hcx, HLP⟩
  case round =>
    obtain ⟨i, Ax, cx, u, v, rfl, rfl, hi, hcx2, HL⟩ := hrel
    have hX4 : (aThru c P xs i).1.length ≤ 4096 := Nat.le_trans (aThru_le c P xs i) (by rw [HN.out]; exact hnx)
    have hkl := aThru_k c P xs i
    obtain ⟨T, hT⟩ : ∃ T, aThru c P xs i = T := ⟨_, rfl⟩
    have HT := Lib.hid hT
    rw [hT] at hX4 HL hcx2 hkl
    try rw [hT]
    obtain ⟨X, KK, VV⟩ := T
    dsimp only at hX4 HL hcx2 hkl
    try dsimp only
    obtain ⟨hkl1, hkl2⟩ := hkl
    clear hT
    by_cases hiL : i < L
    · have HCC := Lib.hid (column_any wr q L P i (HM.out.below HL.out.bel).mem HP.out hiL (by omega) (by omega))
      go_wp2_with fail
      refine HCC.out.mono ?_
      unfold ColR
      rintro e w1 ⟨A1, c1, A2, c2, rfl, hc1, hc2, hR1, hR2, hb⟩
      have HL := Lib.hid (HL.out.below hb)
      have hs := col_short HP.out i
      have HCS := Lib.hid (step_in w1 p c HOK.out (HMO.out.below HL.out.bel) i ⟨by omega, by rw [HLY.out]; omega⟩ Ax A1 A2 cx c1 c2 X (colK P i) (colV P i) (HL.out.x.rd HL.out.bel) hcx2 hX4 hR1 hc1 (by rw [colK_len]; omega) hs.1 hR2 hc2 (by rw [colV_len]; omega) hs.2)
      clear hb hR1 hR2 hs HCC
      obtain ⟨X', hX'⟩ : ∃ Y, aX c i X (colK P i) (colV P i) = Y := ⟨_, rfl⟩
      obtain ⟨K', hK'⟩ : ∃ Y, aK c i X = Y := ⟨_, rfl⟩
      obtain ⟨V', hV'⟩ : ∃ Y, aV c i X = Y := ⟨_, rfl⟩
      have hlY : X'.length ≤ 4096 := by rw [← hX']; exact Nat.le_trans (aX_le c i X _ _) hX4
      have hE : aThru c P xs (i + 1) = (X', KK ++ [K'], VV ++ [V']) := by
        show (aX c i (aThru c P xs i).1 (colK P i) (colV P i), (aThru c P xs i).2.1 ++ [aK c i (aThru c P xs i).1], (aThru c P xs i).2.2 ++ [aV c i (aThru c P xs i).1]) = _
        rw [HT.out]; show (aX c i X (colK P i) (colV P i), KK ++ [aK c i X], VV ++ [aV c i X]) = _
        rw [hX', hK', hV']
      have HE := Lib.hid hE
      rw [hX', hK', hV'] at HCS
      obtain ⟨nx, hnx'⟩ : ∃ n, X.length = n := ⟨_, rfl⟩
      rw [hnx'] at HCS hcx2
      try rw [hnx']
      obtain ⟨nk, hnk'⟩ : ∃ n, (colK P i).length = n := ⟨_, rfl⟩
      obtain ⟨nv, hnv'⟩ : ∃ n, (colV P i).length = n := ⟨_, rfl⟩
      rw [hnk', hnv'] at HCS
      clear hE hX' hK' hV' hnx'
      go_wp2_with fail
      try rw [hnk', hnv']
      refine HCS.out.mono ?_
      unfold StepR
      rintro e w2 ⟨AY, cY, AK, cK, AV, cV, rfl, hoY, hoK, hoV, hb⟩
      obtain ⟨KE, hKE⟩ : ∃ K, KK ++ [K'] = K := ⟨_, rfl⟩
      obtain ⟨VE, hVE⟩ : ∃ K, VV ++ [V'] = K := ⟨_, rfl⟩
      have HKE := Lib.hid hKE
      have HVE := Lib.hid hVE
      have hkn : KK.length = i := hkl1
      have hvn : VV.length = i := hkl2
      have hsz := HL.out.bel.size
      have HS0 := Lib.hid (show LS wn u v u v b9 KK VV (.slice AY X'.length cY) X' K' V' [.slice AK K'.length cK] [.slice AV V'.length cV] w2 from
        ⟨HL.out.tw.below hb, below_then HL.out.bel hsz hb, Nat.lt_of_lt_of_le (LPt.lt9 HL.out) hb.size, blk_below HL.out.md hb, hoY.lower hsz, NewRow.of (hoK.lower hsz), NewRow.of (hoV.lower hsz)⟩)
      clear hoY hoK hoV hb HCS hKE hVE hsz HL
      go_upto_region 10 with fail
      go_cut [13] (fun s13 wx => s13 = .slice AY X'.length cY ∧ ∃ A5 c5 A6 c6, wx.heap[b9]? = some (.cells #[.slice A5 KE.length c5, .slice A6 VE.length c6] 106 (0, 0)) ∧ TW wn.heap.size wx (.slice A5 KE.length c5) (.slice A6 VE.length c6) KE VE ∧ Own wx wn.heap.size 2 (.slice AY X'.length cY) X' ∧ Below wn.heap.size wn wx)
      case first =>
        have bD := below_drew (Below.refl w2.heap.size w2)
        have HLd := Lib.hid (HS0.out.below bD)
        have bA := below_alloc (Below.refl w2.drew.heap.size w2.drew) (.cells #[.slice AK K'.length cK] 55)
        have bAB := below_alloc (Below.refl (w2.drew.alloc (.cells #[.slice AK K'.length cK] 55)).heap.size (w2.drew.alloc (.cells #[.slice AK K'.length cK] 55))) (.cells #[.slice AV V'.length cV] 55)
        have bB := below_alloc (Below.refl w2.drew.heap.size w2.drew) (.cells #[.slice AV V'.length cV] 55)
        have bBA := below_alloc (Below.refl (w2.drew.alloc (.cells #[.slice AV V'.length cV] 55)).heap.size (w2.drew.alloc (.cells #[.slice AV V'.length cV] 55))) (.cells #[.slice AK K'.length cK] 55)
        have sA : (w2.drew.alloc (.cells #[.slice AK K'.length cK] 55)).heap.size = w2.heap.size + 1 := by simp
        have sB : (w2.drew.alloc (.cells #[.slice AV V'.length cV] 55)).heap.size = w2.heap.size + 1 := by simp
        have HLA := Lib.hid (HLd.out.below bA)
        have HLAB := Lib.hid (HLA.out.below bAB)
        have HLB := HLd.out.below bB
        have HLBA := Lib.hid (HLB.below bBA)
        have HXA := Lib.hid (show RB wn.heap.size (w2.drew.alloc (.cells #[.slice AK K'.length cK] 55)) w2.heap.size K' from RB.mk' HLd.out.nk _)
        have HXAB := Lib.hid (HXA.out.below bAB)
        have HXBA := Lib.hid (show RB wn.heap.size ((w2.drew.alloc (.cells #[.slice AV V'.length cV] 55)).alloc (.cells #[.slice AK K'.length cK] 55)) (w2.heap.size + 1) K' by
          have h := RB.mk' HLB.nk 55
          rw [sB] at h; exact h)
        have HYAB := Lib.hid (show RB wn.heap.size ((w2.drew.alloc (.cells #[.slice AK K'.length cK] 55)).alloc (.cells #[.slice AV V'.length cV] 55)) (w2.heap.size + 1) V' by
          have h := RB.mk' HLA.out.nv 55
          rw [sA] at h; exact h)
        have HYBA := Lib.hid (RB.below (show RB wn.heap.size (w2.drew.alloc (.cells #[.slice AV V'.length cV] 55)) w2.heap.size V' from RB.mk' HLd.out.nv _) bBA)
        have sAB : (w2.drew.alloc (.cells #[.slice AK K'.length cK] 55) |>.alloc (.cells #[.slice AV V'.length cV] 55)).heap.size = w2.heap.size + 2 := by simp
        have sBA : (w2.drew.alloc (.cells #[.slice AV V'.length cV] 55) |>.alloc (.cells #[.slice AK K'.length cK] 55)).heap.size = w2.heap.size + 2 := by simp
        have HNU : Hid (∀ k, w2.heap.size ≤ k → some k ≠ u.ownBlock) := Lib.hid (fun k hk he => by have := HS0.out.tw.ltu k he.symm; omega)
        have HSZ := Lib.hid (And.intro sA (And.intro sAB sBA))
        have z0 := blk_cell HS0.out.md 0
        have z1 := blk_cell HS0.out.md 1
        have y0 : ∀ o, (w2.alloc o).cell? ⟨b9, 0, none⟩ = some u := fun o => pw_cell_below (below_alloc (Below.refl _ _) o) z0
        have y1 : ∀ o, (w2.alloc o).cell? ⟨b9, 1, none⟩ = some v := fun o => pw_cell_below (below_alloc (Below.refl _ _) o) z1
        have x0 : ∀ o o', ((w2.alloc o).alloc o').cell? ⟨b9, 0, none⟩ = some u := fun o o' => pw_cell_below (below_alloc (below_alloc (Below.refl _ _) o) o') z0
        have x1 : ∀ o o', ((w2.alloc o).alloc o').cell? ⟨b9, 1, none⟩ = some v := fun o o' => pw_cell_below (below_alloc (below_alloc (Below.refl _ _) o) o') z1
        clear bD bA bAB bB bBA sA sB sAB sBA HLB
        go_region_law (first
          | (refine Kd.R_append_rows_step KRow (Rr := NewRow wn.heap.size (w5)) (w0 := wn) (W := w5) wn.heap.size rfl _ _ 54 55 (.slice none 0 0) 24 rfl Tryz.underlying54 infoRow rfl Nat.zero_lt_one (by decide) v VV [V'] _ 1 1 (fun k => some k ≠ (Value.slice A5 KE.length c5).ownBlock) _ (by rfl) (by rfl) HL5.out.tw.hv HY5.out (fun _ _ h => h) (fun k hk => ⟨(NewRow.ne HL5.out.tw k hk).1, (NewRow.ne HL5.out.tw k hk).2⟩) (fun k hk he => absurd (HL5.out.tw.ltu k he.symm) (by omega)) HL5.out.bel HL5.out.bel.size (by omega) ?_; intro v6 w6 hr6 hb6 hg6 hat6; rw [HVE.out] at hr6; obtain ⟨A6, c6, hv6, -, -⟩ := Kd.R_reads hr6; subst hv6; have HL6 := Lib.hid (LS.put_v HL5.out hr6 hb6 hg6 hat6); have t0 := blk_cell HL6.out.md 0; have t1 := blk_cell HL6.out.md 1; have f0 := blk_frozen HL6.out.md 0; have f1 := blk_frozen HL6.out.md 1; clear hr6 hb6 hg6 hat6)
          | (refine Kd.R_append_rows_step KRow (Rr := NewRow wn.heap.size (w5.alloc (.cells #[.slice AV V'.length cV] 55))) (w0 := wn) (W := w5.alloc (.cells #[.slice AV V'.length cV] 55)) wn.heap.size rfl _ _ 54 55 (.slice none 0 0) 24 rfl Tryz.underlying54 infoRow rfl Nat.zero_lt_one (by decide) v VV [V'] _ 1 1 (fun k => some k ≠ (Value.slice A5 KE.length c5).ownBlock) _ (by rfl) (by rfl) (HL5.out.below (below_alloc (Below.refl w5.heap.size w5) (.cells #[.slice AV V'.length cV] 55))).tw.hv (RB.mk' HL5.out.nv _) (fun _ _ h => h) (fun k hk => ⟨(NewRow.ne (HL5.out.below (below_alloc (Below.refl w5.heap.size w5) (.cells #[.slice AV V'.length cV] 55))).tw k hk).1, (NewRow.ne (HL5.out.below (below_alloc (Below.refl w5.heap.size w5) (.cells #[.slice AV V'.length cV] 55))).tw k hk).2⟩) (fun k hk he => absurd ((HL5.out.below (below_alloc (Below.refl w5.heap.size w5) (.cells #[.slice AV V'.length cV] 55))).tw.ltu k he.symm) (by omega)) (HL5.out.below (below_alloc (Below.refl w5.heap.size w5) (.cells #[.slice AV V'.length cV] 55))).bel (HL5.out.below (below_alloc (Below.refl w5.heap.size w5) (.cells #[.slice AV V'.length cV] 55))).bel.size (by omega) ?_; intro v6 w6 hr6 hb6 hg6 hat6; rw [HVE.out] at hr6; obtain ⟨A6, c6, hv6, -, -⟩ := Kd.R_reads hr6; subst hv6; have HL6 := Lib.hid (LS.put_v (HL5.out.below (below_alloc (Below.refl w5.heap.size w5) (.cells #[.slice AV V'.length cV] 55))) hr6 hb6 hg6 hat6); have t0 := blk_cell HL6.out.md 0; have t1 := blk_cell HL6.out.md 1; have f0 := blk_frozen HL6.out.md 0; have f1 := blk_frozen HL6.out.md 1; clear hr6 hb6 hg6 hat6)
          | (refine Kd.R_append_rows_step KRow (Rr := NewRow wn.heap.size ((w2.drew.alloc (.cells #[.slice AK K'.length cK] 55)).alloc (.cells #[.slice AV V'.length cV] 55))) (w0 := wn) (W := (w2.drew.alloc (.cells #[.slice AK K'.length cK] 55)).alloc (.cells #[.slice AV V'.length cV] 55)) wn.heap.size rfl _ _ 54 55 (.slice none 0 0) 24 rfl Tryz.underlying54 infoRow rfl Nat.zero_lt_one (by decide) u KK [K'] _ 1 1 (fun k => some k ≠ v.ownBlock) _ (by rfl) (by rfl) HLAB.out.tw.hu HXAB.out (fun _ _ h => h) (fun k hk => ⟨(NewRow.ne HLAB.out.tw k hk).2, (NewRow.ne HLAB.out.tw k hk).1⟩) (fun k hk he => absurd (HLAB.out.tw.ltv k he.symm) (by omega)) HLAB.out.bel HLAB.out.bel.size (by omega) ?_; intro v5 w5 hr5 hb5 hg5 hat5; rw [HKE.out] at hr5; obtain ⟨A5, c5, hv5, -, -⟩ := Kd.R_reads hr5; subst hv5; have HL5 := Lib.hid (LS.put_u HLAB.out hr5 hb5 hg5 hat5); have HY5 := Lib.hid (RB.grown HYAB.out hg5 (HNU.out _ (by omega)) (by rw [HSZ.out.2.1]; omega) (fun k hk => (NewRow.ne HLAB.out.tw k hk).1)); have s1 := blk_cell HL5.out.md 1; have s1' : ∀ o, (w5.alloc o).cell? ⟨b9, 1, none⟩ = some v := fun o => pw_cell_below (below_alloc (Below.refl _ _) o) s1; clear hr5 hb5 hg5 hat5)
          | (refine Kd.R_append_rows_step KRow (Rr := NewRow wn.heap.size ((w2.drew.alloc (.cells #[.slice AV V'.length cV] 55)).alloc (.cells #[.slice AK K'.length cK] 55))) (w0 := wn) (W := (w2.drew.alloc (.cells #[.slice AV V'.length cV] 55)).alloc (.cells #[.slice AK K'.length cK] 55)) wn.heap.size rfl _ _ 54 55 (.slice none 0 0) 24 rfl Tryz.underlying54 infoRow rfl Nat.zero_lt_one (by decide) u KK [K'] _ 1 1 (fun k => some k ≠ v.ownBlock) _ (by rfl) (by rfl) HLBA.out.tw.hu HXBA.out (fun _ _ h => h) (fun k hk => ⟨(NewRow.ne HLBA.out.tw k hk).2, (NewRow.ne HLBA.out.tw k hk).1⟩) (fun k hk he => absurd (HLBA.out.tw.ltv k he.symm) (by omega)) HLBA.out.bel HLBA.out.bel.size (by omega) ?_; intro v5 w5 hr5 hb5 hg5 hat5; rw [HKE.out] at hr5; obtain ⟨A5, c5, hv5, -, -⟩ := Kd.R_reads hr5; subst hv5; have HL5 := Lib.hid (LS.put_u HLBA.out hr5 hb5 hg5 hat5); have HY5 := Lib.hid (RB.grown HYBA.out hg5 (HNU.out _ (by omega)) (by rw [HSZ.out.2.2]; omega) (fun k hk => (NewRow.ne HLBA.out.tw k hk).1)); have s1 := blk_cell HL5.out.md 1; have s1' : ∀ o, (w5.alloc o).cell? ⟨b9, 1, none⟩ = some v := fun o => pw_cell_below (below_alloc (Below.refl _ _) o) s1; clear hr5 hb5 hg5 hat5)
          | (refine Kd.R_append_rows_step KRow (Rr := NewRow wn.heap.size (w2.drew.alloc (.cells #[.slice AK K'.length cK] 55))) (w0 := wn) (W := w2.drew.alloc (.cells #[.slice AK K'.length cK] 55)) wn.heap.size rfl _ _ 54 55 (.slice none 0 0) 24 rfl Tryz.underlying54 infoRow rfl Nat.zero_lt_one (by decide) u KK [K'] _ 1 1 (fun k => some k ≠ v.ownBlock) _ (by rfl) (by rfl) HLA.out.tw.hu HXA.out (fun _ _ h => h) (fun k hk => ⟨(NewRow.ne HLA.out.tw k hk).2, (NewRow.ne HLA.out.tw k hk).1⟩) (fun k hk he => absurd (HLA.out.tw.ltv k he.symm) (by omega)) HLA.out.bel HLA.out.bel.size (by omega) ?_; intro v5 w5 hr5 hb5 hg5 hat5; rw [HKE.out] at hr5; obtain ⟨A5, c5, hv5, -, -⟩ := Kd.R_reads hr5; subst hv5; have HL5 := Lib.hid (LS.put_u HLA.out hr5 hb5 hg5 hat5); have s1 := blk_cell HL5.out.md 1; have s1' : ∀ o, (w5.alloc o).cell? ⟨b9, 1, none⟩ = some v := fun o => pw_cell_below (below_alloc (Below.refl _ _) o) s1; clear hr5 hb5 hg5 hat5))
        all_goals
          go_wp2_with fail
          go_meet
          first
          | exact ⟨rfl, _, _, _, _, HL6.out.fin h9⟩
          | exact ⟨rfl, _, _, _, _, HL6.out.fin2 h9⟩
      case rest =>
        obtain ⟨rfl, A5, c5, A6, c6, hmd, htw, hoy, hbl⟩ := hcut
        have HMD := Lib.hid hmd
        have HTW := Lib.hid htw
        have HOY := Lib.hid hoy
        have HBL := Lib.hid hbl
        clear hmd htw hoy hbl HS0
        go_wp2_with fail
        go_roundw
        case rel => exact ⟨i + 1, AY, cY, _, _, by rw [HE.out], by go_num, by omega, by rw [HE.out]; exact HOY.out.rd.1, by rw [HE.out]; show Hid (LPt wn AY b9 X' (KK ++ [K']) (VV ++ [V']) _ _ _); rw [HKE.out, HVE.out]; exact Lib.hid ⟨.inr ⟨cY, HOY.out⟩, HMD.out, HTW.out, HBL.out⟩⟩
        case measure => simp [intOf]; omega
    · have hin : i = L := by omega
      subst hin
      have HTT := Lib.hid (show (aThru c P xs i).1 = X ∧ (aThru c P xs i).2 = (KK, VV) by rw [HT.out]; exact ⟨rfl, rfl⟩)
      obtain ⟨A9, cap, olds, hmc, -, hmA, hmF⟩ := HM.out.1
      have HMF := Lib.hid hmF
      have HMA := Lib.hid hmA
      have hmb : wr.cell? ⟨q, 1, none⟩ = some (.slice A9 P.length cap) := by
        rw [blk_cell (hmF wr (fun k hk => HL.out.bel.block k (HM.out.2 k hk))).1]; rfl
      have HOLD := Lib.hid (fun (W' : World) (hb : Below wr.heap.size wr W') => (hmF W' (fun k hk => (below_then HL.out.bel HL.out.bel.size hb).block k (HM.out.2 k hk))).2)
      have HOF := Lib.hid (fun (W' : World) (hb : Below wr.heap.size wr W') => own_Ft HL.out.tw hb)
      have HBN := Lib.hid HL.out.bel
      clear hmF hmA
      obtain ⟨Au, cu, hu, hlu, hCu⟩ := Kd.R_reads HL.out.tw.hu
      obtain ⟨Av, cv, hv, hlv, hCv⟩ := Kd.R_reads HL.out.tw.hv
      subst hu hv
      have HOWN := Lib.hid (show KPl.K wr (KK, VV) [.slice Au KK.length cu, .slice Av VV.length cv] from ⟨[.slice Au KK.length cu], [.slice Av VV.length cv], rfl, ⟨Au, cu, rfl, hlu, hCu⟩, ⟨Av, cv, rfl, hlv, hCv⟩⟩)
      obtain ⟨PE, hPE⟩ : ∃ Q, P ++ [(KK, VV)] = Q := ⟨_, rfl⟩
      have HPE := Lib.hid hPE
      have hcut := cutPl A9 P.length cap P.length hmc
      have HCL := Lib.hid (fun (W' : World) (hb : Below wr.heap.size wr W') => toO (clone_any Ax cx X W' (Kd.C_below (HL.out.x.rd HL.out.bel) hb) hcx2 (by omega)))
      have m0 := blk_cell HL.out.md 0
      have m1 := blk_cell HL.out.md 1
      have HBB := Lib.hid (below_then HB.out HB.out.size HL.out.bel)
      have bD := below_drew (Below.refl wr.heap.size wr)
      have hS : S3 wr ⟨q, 1, none⟩ ⟨b9, 0, none⟩ ⟨b9, 1, none⟩ (.slice A9 P.length cap) (.slice Au KK.length cu) (.slice Av VV.length cv) wr.drew := ⟨pw_cell_below bD hmb, pw_cell_below bD m0, pw_cell_below bD m1, Lib.hid bD⟩
      clear hlu hCu hlv hCv hPE m0 m1 bD HL hkl1 hkl2
      go_wp2_with fail
      clear hmb
      go_region_held3 (fun w' => w'.cell? ⟨q, 1, none⟩ = some (.slice A9 P.length cap) ∧ w'.cell? ⟨b9, 0, none⟩ = some (.slice Au KK.length cu) ∧ w'.cell? ⟨b9, 1, none⟩ = some (.slice Av VV.length cv) ∧ Hid (Below wr.heap.size wr w'))
        (first | exact hS | exact S3.step (by assumption) (below_alloc (Below.refl _ _) _) | exact S3.step (by assumption) (by assumption))
        (first
          | (go_at_call 63; refine (HCL.out _ (S3.b (by assumption))).mono ?_; unfold RowO; rintro e w5 ⟨AC, cC, rfl, ho, hb⟩; have HOC := Lib.hid (ho.lower (S3.b (by assumption)).size); (try have k0 := Lib.hid (pw_cell_below hb (show (wr.drew.alloc (.cells #[.slice Au KK.length cu, .slice Av VV.length cv] 106)).cell? ⟨wr.heap.size, 0, none⟩ = some (.slice Au KK.length cu) from blk_cell (heap_alloc_new wr.drew _) 0))); (try have k1 := Lib.hid (pw_cell_below hb (show (wr.drew.alloc (.cells #[.slice Au KK.length cu, .slice Av VV.length cv] 106)).cell? ⟨wr.heap.size, 1, none⟩ = some (.slice Av VV.length cv) from blk_cell (heap_alloc_new wr.drew _) 1))); clear ho)
          | (have hbw := S3.b (W := wr) (a1 := ⟨q, 1, none⟩) (a2 := ⟨b9, 0, none⟩) (a3 := ⟨b9, 1, none⟩) (v1 := .slice A9 P.length cap) (v2 := .slice Au KK.length cu) (v3 := .slice Av VV.length cv) (w := w5) (by assumption); refine step_grow_plF (w := w5) (by rfl) _ _ (by rfl) A9 P olds HMA.out (HOLD.out _ hbw).1 (HOLD.out _ hbw).2 (by rfl) ⟨wr.heap.size, 0, none⟩ (.slice Au KK.length cu) (.slice Av VV.length cv) (by rfl) (by rw [add_plain]; exact k0.out) (by rw [add_plain]; exact k1.out) (KK, VV) (KPl.K_below hbw HOWN.out) (by omega) ?_; intro A7 c7 w7 ho7 hb7; have HOC7 := Lib.hid (HOC.out.below hb7); have HMG := Lib.hid (fun L => memF_grown (L := L) HM.out.2 (fun W' hW => (HMF.out W' hW).2.1) (below_then HBN.out HBN.out.size hbw) (by have := hlP; omega) (HOF.out _ hbw) ho7 hb7); have HS7 := Lib.hid (below_then hbw hbw.size hb7).size; rw [HPE.out]; rw [HPE.out] at HMG; clear hbw ho7)
          | (have hbw := S3.b (W := wr) (a1 := ⟨q, 1, none⟩) (a2 := ⟨b9, 0, none⟩) (a3 := ⟨b9, 1, none⟩) (v1 := .slice A9 P.length cap) (v2 := .slice Au KK.length cu) (v3 := .slice Av VV.length cv) (w := w5.alloc (.cells #[.slice Au KK.length cu, .slice Av VV.length cv] 106)) (by assumption); refine step_grow_plF (w := w5.alloc (.cells #[.slice Au KK.length cu, .slice Av VV.length cv] 106)) (by rfl) _ _ (by rfl) A9 P olds HMA.out (HOLD.out _ hbw).1 (HOLD.out _ hbw).2 (by rfl) ⟨w5.heap.size, 0, none⟩ (.slice Au KK.length cu) (.slice Av VV.length cv) (by rfl) (by rw [add_plain]; exact blk_cell (heap_alloc_new w5 _) 0) (by rw [add_plain]; exact blk_cell (heap_alloc_new w5 _) 1) (KK, VV) (KPl.K_below hbw HOWN.out) (by omega) ?_; intro A7 c7 w7 ho7 hb7; have HOC7 := Lib.hid ((HOC.out.below (below_alloc (Below.refl _ _) _)).below hb7); have HMG := Lib.hid (fun L => memF_grown (L := L) HM.out.2 (fun W' hW => (HMF.out W' hW).2.1) (below_then HBN.out HBN.out.size hbw) (by have := hlP; omega) (HOF.out _ hbw) ho7 hb7); have HS7 := Lib.hid (below_then hbw hbw.size hb7).size; rw [HPE.out]; rw [HPE.out] at HMG; clear hbw ho7))
      all_goals
        have HBE := Lib.hid (below_then HBB.out HBB.out.size (S3.b (W := wr) (a1 := ⟨q, 1, none⟩) (a2 := ⟨b9, 0, none⟩) (a3 := ⟨b9, 1, none⟩) (v1 := .slice A9 P.length cap) (v2 := .slice Au KK.length cu) (v3 := .slice Av VV.length cv) (by assumption)))
        have HOE := Lib.hid ((HOC7.out.below (below_alloc (Below.refl w7.heap.size w7) (.cells #[.int .i64 i, .slice A7 PE.length c7] 87))).lower HBB.out.size)
        have HME := Lib.hid (show MemG (FU F (Bt W.heap.size (w7.alloc (.cells #[.int .i64 i, .slice A7 PE.length c7] 87)).heap.size)) (w7.alloc (.cells #[.int .i64 i, .slice A7 PE.length c7] 87)) w7.heap.size i PE from thru_foot (fun k hk => .inl hk) (HMG.out _) HFW.out HB.out.size (Nat.le_succ_of_le (Nat.le_trans HBN.out.size HS7.out)))
        go_wp2_with fail
        go_ret2
        rw [HTT.out.1, HTT.out.2, HPE.out]
        exact ⟨_, _, _, rfl, HOE.out, HME.out, HBE.out⟩

set_option maxHeartbeats 2000000 in
theorem thru_other (W : World) (p : Nat) (c : Cfg) (hok : c.ok) (hMo : Mo W p c) (F : Nat → Prop) (hF9 : ∀ k, F k → k < W.heap.size) (P : List Pl) (hP0 : P = []) (pv : Value) (L' : Int) (hly : ∀ W' : World, Below W.heap.size W W' → Calls Tryz.prog 60 #[pv] W' fun e w' => e = .returned (.int .i64 L') ∧ w' = W') (hne : L' ≠ c.layers) (A : Option Addr) (px : Nat) (xs : List Int) (hx : (Kd.int .i64).C W A xs.length xs) (hcx : xs.length ≤ px) (hnx : xs.length ≤ 4096) :
    Calls Tryz.prog 43 #[.pointer (some ⟨p, 0, none⟩), pv, .slice A xs.length px] W (ThruR F (aThru c P xs c.layers.toNat).1 c.layers (P ++ [(aThru c P xs c.layers.toNat).2]) W) := by
  obtain ⟨L, hL⟩ : ∃ L : Nat, c.layers = L := ⟨c.layers.toNat, by have := hok.2.2.1; omega⟩
  have hL1 : 1 ≤ L := by have := hok.2.2.1; omega
  have hL4 : L ≤ 4 := by have := hok.2.2.1; omega
  have HLY := Lib.hid hL
  have hLL : c.layers.toNat = L := by omega
  have HCV := Lib.hid (show c.v = .agg #[.int .u64 c.seed, .int .i64 c.vocab, .int .i64 c.dim, .int .i64 L, .int .i64 c.top, .int .i64 c.heat] by rw [← hL]; rfl)
  have HOK := Lib.hid hok
  have HC1 := Lib.hid (config_any W p c hMo)
  rw [HCV.out] at HC1
  have HMO := Lib.hid hMo
  have HX := Lib.hid (show (Kd.int .i64).C W A xs.length xs from hx)
  rw [hLL, hL]
  obtain ⟨n, hn⟩ : ∃ n, xs.length = n := ⟨_, rfl⟩
  have HN := Lib.hid hn
  rw [hn] at hcx hnx
  rw [hn]
  rw [hL] at hne
  have HLC := Lib.hid hly
  have HNE := Lib.hid (show (L' != (L : Int)) = true by simp; exact hne)
  have HNW := Lib.hid (anewG_any L)
  have HP0 := Lib.hid hP0
  have HFW := Lib.hid hF9
  clear hly hne hP0 hF9
  unfold ThruR
  clear hok hMo hx hn hL hLL
  go_enter Tryz.func43, Tryz.ntmps43
  go_wp2_with fail
  refine HC1.out.mono ?_
  rintro e wn ⟨rfl, hb⟩
  have HMO := Lib.hid (HMO.out.below hb)
  have HX := Lib.hid (Kd.C_below HX.out hb)
  have HB := Lib.hid hb
  clear hb HC1
  go_wp2_with fail
  refine (HLC.out wn HB.out).mono ?_
  rintro e w1 ⟨rfl, hw⟩
  replace hw := hw.symm
  subst hw
  have z := HNE.out
  go_wp2_with fail
  refine (HNW.out wn).mono ?_
  rintro e wn ⟨q, rfl, hm, hb⟩
  have hmin : min (max (L : Int) 0) 4 = L := by omega
  rw [hmin] at hm
  have HM := Lib.hid hm
  rw [← HP0.out] at hm
  have HM := Lib.hid hm
  have HP : Hid (PlOk L P) := Lib.hid (fun _ h => by rw [HP0.out] at h; exact absurd h (by simp))
  have HMO := Lib.hid (HMO.out.below hb)
  have HX := Lib.hid (Kd.C_below HX.out hb)
  have HB9 := Lib.hid HB.out.size
  have HB := Lib.hid (below_then HB.out HB.out.size hb)
  have hlP : P.length ≤ 900 := by rw [HP0.out]; simp
  clear hm hb hmin
  skip
  have hPl : P.length ≤ 900 := hlP
  go_wp2_with fail
  have hB9 := below_alloc (Below.refl wn.heap.size wn) (.cells #[.slice none 0 0, .slice none 0 0] 106)
  have hmd := heap_alloc_new wn (.cells #[.slice none 0 0, .slice none 0 0] 106)
  obtain ⟨b9, hb9⟩ : ∃ b, wn.heap.size = b := ⟨_, rfl⟩
  have hge : W.heap.size ≤ b9 := by rw [← hb9]; exact HB.out.size
  have HLP := Lib.hid (show LPt wn A b9 xs [] [] (.slice none 0 0) (.slice none 0 0) (wn.alloc (.cells #[.slice none 0 0, .slice none 0 0] 106)) from
    ⟨.inl HX.out, by rw [← hb9]; exact hmd, TW.nil _ _, hB9⟩)
  have h9 : wn.heap.size ≤ b9 := by omega
  rw [hb9]
  clear hB9 hmd hb9 HX hge
  go_loopw [2, 27] (fun x s wr => ∃ (i : Nat) (Ax : Option Addr) (cx : Nat) (u v : Value), x = .slice Ax (aThru c P xs i).1.length cx ∧ s = .int .i64 i ∧ i ≤ L ∧ (aThru c P xs i).1.length ≤ cx ∧ Hid (LPt wn Ax b9 (aThru c P xs i).1 (aThru c P xs i).2.1 (aThru c P xs i).2.2 u v wr)) (fun _ s _ => L - (intOf s).toNat)
  case atStart => exact ⟨0, A, px, _, _, by show Value.slice A n px = _; rw [← HN.out]; rfl, rfl, by omega, by show xs.length ≤ px; rw [HN.out]; exact hcx, HLP⟩
  case round =>
    obtain ⟨i, Ax, cx, u, v, rfl, rfl, hi, hcx2, HL⟩ := hrel
    have hX4 : (aThru c P xs i).1.length ≤ 4096 := Nat.le_trans (aThru_le c P xs i) (by rw [HN.out]; exact hnx)
    have hkl := aThru_k c P xs i
    obtain ⟨T, hT⟩ : ∃ T, aThru c P xs i = T := ⟨_, rfl⟩
    have HT := Lib.hid hT
    rw [hT] at hX4 HL hcx2 hkl
    try rw [hT]
    obtain ⟨X, KK, VV⟩ := T
    dsimp only at hX4 HL hcx2 hkl
    try dsimp only
    obtain ⟨hkl1, hkl2⟩ := hkl
    clear hT
    by_cases hiL : i < L
    · have HCC := Lib.hid (column_any wr q L P i (HM.out.below HL.out.bel).mem HP.out hiL (by omega) (by omega))
      go_wp2_with fail
      refine HCC.out.mono ?_
      unfold ColR
      rintro e w1 ⟨A1, c1, A2, c2, rfl, hc1, hc2, hR1, hR2, hb⟩
      have HL := Lib.hid (HL.out.below hb)
      have hs := col_short HP.out i
      have HCS := Lib.hid (step_in w1 p c HOK.out (HMO.out.below HL.out.bel) i ⟨by omega, by rw [HLY.out]; omega⟩ Ax A1 A2 cx c1 c2 X (colK P i) (colV P i) (HL.out.x.rd HL.out.bel) hcx2 hX4 hR1 hc1 (by rw [colK_len]; omega) hs.1 hR2 hc2 (by rw [colV_len]; omega) hs.2)
      clear hb hR1 hR2 hs HCC
      obtain ⟨X', hX'⟩ : ∃ Y, aX c i X (colK P i) (colV P i) = Y := ⟨_, rfl⟩
      obtain ⟨K', hK'⟩ : ∃ Y, aK c i X = Y := ⟨_, rfl⟩
      obtain ⟨V', hV'⟩ : ∃ Y, aV c i X = Y := ⟨_, rfl⟩
      have hlY : X'.length ≤ 4096 := by rw [← hX']; exact Nat.le_trans (aX_le c i X _ _) hX4
      have hE : aThru c P xs (i + 1) = (X', KK ++ [K'], VV ++ [V']) := by
        show (aX c i (aThru c P xs i).1 (colK P i) (colV P i), (aThru c P xs i).2.1 ++ [aK c i (aThru c P xs i).1], (aThru c P xs i).2.2 ++ [aV c i (aThru c P xs i).1]) = _
        rw [HT.out]; show (aX c i X (colK P i) (colV P i), KK ++ [aK c i X], VV ++ [aV c i X]) = _
        rw [hX', hK', hV']
      have HE := Lib.hid hE
      rw [hX', hK', hV'] at HCS
      obtain ⟨nx, hnx'⟩ : ∃ n, X.length = n := ⟨_, rfl⟩
      rw [hnx'] at HCS hcx2
      try rw [hnx']
      obtain ⟨nk, hnk'⟩ : ∃ n, (colK P i).length = n := ⟨_, rfl⟩
      obtain ⟨nv, hnv'⟩ : ∃ n, (colV P i).length = n := ⟨_, rfl⟩
      rw [hnk', hnv'] at HCS
      clear hE hX' hK' hV' hnx'
      go_wp2_with fail
      try rw [hnk', hnv']
      refine HCS.out.mono ?_
      unfold StepR
      rintro e w2 ⟨AY, cY, AK, cK, AV, cV, rfl, hoY, hoK, hoV, hb⟩
      obtain ⟨KE, hKE⟩ : ∃ K, KK ++ [K'] = K := ⟨_, rfl⟩
      obtain ⟨VE, hVE⟩ : ∃ K, VV ++ [V'] = K := ⟨_, rfl⟩
      have HKE := Lib.hid hKE
      have HVE := Lib.hid hVE
      have hkn : KK.length = i := hkl1
      have hvn : VV.length = i := hkl2
      have hsz := HL.out.bel.size
      have HS0 := Lib.hid (show LS wn u v u v b9 KK VV (.slice AY X'.length cY) X' K' V' [.slice AK K'.length cK] [.slice AV V'.length cV] w2 from
        ⟨HL.out.tw.below hb, below_then HL.out.bel hsz hb, Nat.lt_of_lt_of_le (LPt.lt9 HL.out) hb.size, blk_below HL.out.md hb, hoY.lower hsz, NewRow.of (hoK.lower hsz), NewRow.of (hoV.lower hsz)⟩)
      clear hoY hoK hoV hb HCS hKE hVE hsz HL
      go_upto_region 10 with fail
      go_cut [13] (fun s13 wx => s13 = .slice AY X'.length cY ∧ ∃ A5 c5 A6 c6, wx.heap[b9]? = some (.cells #[.slice A5 KE.length c5, .slice A6 VE.length c6] 106 (0, 0)) ∧ TW wn.heap.size wx (.slice A5 KE.length c5) (.slice A6 VE.length c6) KE VE ∧ Own wx wn.heap.size 2 (.slice AY X'.length cY) X' ∧ Below wn.heap.size wn wx)
      case first =>
        have bD := below_drew (Below.refl w2.heap.size w2)
        have HLd := Lib.hid (HS0.out.below bD)
        have bA := below_alloc (Below.refl w2.drew.heap.size w2.drew) (.cells #[.slice AK K'.length cK] 55)
        have bAB := below_alloc (Below.refl (w2.drew.alloc (.cells #[.slice AK K'.length cK] 55)).heap.size (w2.drew.alloc (.cells #[.slice AK K'.length cK] 55))) (.cells #[.slice AV V'.length cV] 55)
        have bB := below_alloc (Below.refl w2.drew.heap.size w2.drew) (.cells #[.slice AV V'.length cV] 55)
        have bBA := below_alloc (Below.refl (w2.drew.alloc (.cells #[.slice AV V'.length cV] 55)).heap.size (w2.drew.alloc (.cells #[.slice AV V'.length cV] 55))) (.cells #[.slice AK K'.length cK] 55)
        have sA : (w2.drew.alloc (.cells #[.slice AK K'.length cK] 55)).heap.size = w2.heap.size + 1 := by simp
        have sB : (w2.drew.alloc (.cells #[.slice AV V'.length cV] 55)).heap.size = w2.heap.size + 1 := by simp
        have HLA := Lib.hid (HLd.out.below bA)
        have HLAB := Lib.hid (HLA.out.below bAB)
        have HLB := HLd.out.below bB
        have HLBA := Lib.hid (HLB.below bBA)
        have HXA := Lib.hid (show RB wn.heap.size (w2.drew.alloc (.cells #[.slice AK K'.length cK] 55)) w2.heap.size K' from RB.mk' HLd.out.nk _)
        have HXAB := Lib.hid (HXA.out.below bAB)
        have HXBA := Lib.hid (show RB wn.heap.size ((w2.drew.alloc (.cells #[.slice AV V'.length cV] 55)).alloc (.cells #[.slice AK K'.length cK] 55)) (w2.heap.size + 1) K' by
          have h := RB.mk' HLB.nk 55
          rw [sB] at h; exact h)
        have HYAB := Lib.hid (show RB wn.heap.size ((w2.drew.alloc (.cells #[.slice AK K'.length cK] 55)).alloc (.cells #[.slice AV V'.length cV] 55)) (w2.heap.size + 1) V' by
          have h := RB.mk' HLA.out.nv 55
          rw [sA] at h; exact h)
        have HYBA := Lib.hid (RB.below (show RB wn.heap.size (w2.drew.alloc (.cells #[.slice AV V'.length cV] 55)) w2.heap.size V' from RB.mk' HLd.out.nv _) bBA)
        have sAB : (w2.drew.alloc (.cells #[.slice AK K'.length cK] 55) |>.alloc (.cells #[.slice AV V'.length cV] 55)).heap.size = w2.heap.size + 2 := by simp
        have sBA : (w2.drew.alloc (.cells #[.slice AV V'.length cV] 55) |>.alloc (.cells #[.slice AK K'.length cK] 55)).heap.size = w2.heap.size + 2 := by simp
        have HNU : Hid (∀ k, w2.heap.size ≤ k → some k ≠ u.ownBlock) := Lib.hid (fun k hk he => by have := HS0.out.tw.ltu k he.symm; omega)
        have HSZ := Lib.hid (And.intro sA (And.intro sAB sBA))
        have z0 := blk_cell HS0.out.md 0
        have z1 := blk_cell HS0.out.md 1
        have y0 : ∀ o, (w2.alloc o).cell? ⟨b9, 0, none⟩ = some u := fun o => pw_cell_below (below_alloc (Below.refl _ _) o) z0
        have y1 : ∀ o, (w2.alloc o).cell? ⟨b9, 1, none⟩ = some v := fun o => pw_cell_below (below_alloc (Below.refl _ _) o) z1
        have x0 : ∀ o o', ((w2.alloc o).alloc o').cell? ⟨b9, 0, none⟩ = some u := fun o o' => pw_cell_below (below_alloc (below_alloc (Below.refl _ _) o) o') z0
        have x1 : ∀ o o', ((w2.alloc o).alloc o').cell? ⟨b9, 1, none⟩ = some v := fun o o' => pw_cell_below (below_alloc (below_alloc (Below.refl _ _) o) o') z1
        clear bD bA bAB bB bBA sA sB sAB sBA HLB
        go_region_law (first
          | (refine Kd.R_append_rows_step KRow (Rr := NewRow wn.heap.size (w5)) (w0 := wn) (W := w5) wn.heap.size rfl _ _ 54 55 (.slice none 0 0) 24 rfl Tryz.underlying54 infoRow rfl Nat.zero_lt_one (by decide) v VV [V'] _ 1 1 (fun k => some k ≠ (Value.slice A5 KE.length c5).ownBlock) _ (by rfl) (by rfl) HL5.out.tw.hv HY5.out (fun _ _ h => h) (fun k hk => ⟨(NewRow.ne HL5.out.tw k hk).1, (NewRow.ne HL5.out.tw k hk).2⟩) (fun k hk he => absurd (HL5.out.tw.ltu k he.symm) (by omega)) HL5.out.bel HL5.out.bel.size (by omega) ?_; intro v6 w6 hr6 hb6 hg6 hat6; rw [HVE.out] at hr6; obtain ⟨A6, c6, hv6, -, -⟩ := Kd.R_reads hr6; subst hv6; have HL6 := Lib.hid (LS.put_v HL5.out hr6 hb6 hg6 hat6); have t0 := blk_cell HL6.out.md 0; have t1 := blk_cell HL6.out.md 1; have f0 := blk_frozen HL6.out.md 0; have f1 := blk_frozen HL6.out.md 1; clear hr6 hb6 hg6 hat6)
          | (refine Kd.R_append_rows_step KRow (Rr := NewRow wn.heap.size (w5.alloc (.cells #[.slice AV V'.length cV] 55))) (w0 := wn) (W := w5.alloc (.cells #[.slice AV V'.length cV] 55)) wn.heap.size rfl _ _ 54 55 (.slice none 0 0) 24 rfl Tryz.underlying54 infoRow rfl Nat.zero_lt_one (by decide) v VV [V'] _ 1 1 (fun k => some k ≠ (Value.slice A5 KE.length c5).ownBlock) _ (by rfl) (by rfl) (HL5.out.below (below_alloc (Below.refl w5.heap.size w5) (.cells #[.slice AV V'.length cV] 55))).tw.hv (RB.mk' HL5.out.nv _) (fun _ _ h => h) (fun k hk => ⟨(NewRow.ne (HL5.out.below (below_alloc (Below.refl w5.heap.size w5) (.cells #[.slice AV V'.length cV] 55))).tw k hk).1, (NewRow.ne (HL5.out.below (below_alloc (Below.refl w5.heap.size w5) (.cells #[.slice AV V'.length cV] 55))).tw k hk).2⟩) (fun k hk he => absurd ((HL5.out.below (below_alloc (Below.refl w5.heap.size w5) (.cells #[.slice AV V'.length cV] 55))).tw.ltu k he.symm) (by omega)) (HL5.out.below (below_alloc (Below.refl w5.heap.size w5) (.cells #[.slice AV V'.length cV] 55))).bel (HL5.out.below (below_alloc (Below.refl w5.heap.size w5) (.cells #[.slice AV V'.length cV] 55))).bel.size (by omega) ?_; intro v6 w6 hr6 hb6 hg6 hat6; rw [HVE.out] at hr6; obtain ⟨A6, c6, hv6, -, -⟩ := Kd.R_reads hr6; subst hv6; have HL6 := Lib.hid (LS.put_v (HL5.out.below (below_alloc (Below.refl w5.heap.size w5) (.cells #[.slice AV V'.length cV] 55))) hr6 hb6 hg6 hat6); have t0 := blk_cell HL6.out.md 0; have t1 := blk_cell HL6.out.md 1; have f0 := blk_frozen HL6.out.md 0; have f1 := blk_frozen HL6.out.md 1; clear hr6 hb6 hg6 hat6)
          | (refine Kd.R_append_rows_step KRow (Rr := NewRow wn.heap.size ((w2.drew.alloc (.cells #[.slice AK K'.length cK] 55)).alloc (.cells #[.slice AV V'.length cV] 55))) (w0 := wn) (W := (w2.drew.alloc (.cells #[.slice AK K'.length cK] 55)).alloc (.cells #[.slice AV V'.length cV] 55)) wn.heap.size rfl _ _ 54 55 (.slice none 0 0) 24 rfl Tryz.underlying54 infoRow rfl Nat.zero_lt_one (by decide) u KK [K'] _ 1 1 (fun k => some k ≠ v.ownBlock) _ (by rfl) (by rfl) HLAB.out.tw.hu HXAB.out (fun _ _ h => h) (fun k hk => ⟨(NewRow.ne HLAB.out.tw k hk).2, (NewRow.ne HLAB.out.tw k hk).1⟩) (fun k hk he => absurd (HLAB.out.tw.ltv k he.symm) (by omega)) HLAB.out.bel HLAB.out.bel.size (by omega) ?_; intro v5 w5 hr5 hb5 hg5 hat5; rw [HKE.out] at hr5; obtain ⟨A5, c5, hv5, -, -⟩ := Kd.R_reads hr5; subst hv5; have HL5 := Lib.hid (LS.put_u HLAB.out hr5 hb5 hg5 hat5); have HY5 := Lib.hid (RB.grown HYAB.out hg5 (HNU.out _ (by omega)) (by rw [HSZ.out.2.1]; omega) (fun k hk => (NewRow.ne HLAB.out.tw k hk).1)); have s1 := blk_cell HL5.out.md 1; have s1' : ∀ o, (w5.alloc o).cell? ⟨b9, 1, none⟩ = some v := fun o => pw_cell_below (below_alloc (Below.refl _ _) o) s1; clear hr5 hb5 hg5 hat5)
          | (refine Kd.R_append_rows_step KRow (Rr := NewRow wn.heap.size ((w2.drew.alloc (.cells #[.slice AV V'.length cV] 55)).alloc (.cells #[.slice AK K'.length cK] 55))) (w0 := wn) (W := (w2.drew.alloc (.cells #[.slice AV V'.length cV] 55)).alloc (.cells #[.slice AK K'.length cK] 55)) wn.heap.size rfl _ _ 54 55 (.slice none 0 0) 24 rfl Tryz.underlying54 infoRow rfl Nat.zero_lt_one (by decide) u KK [K'] _ 1 1 (fun k => some k ≠ v.ownBlock) _ (by rfl) (by rfl) HLBA.out.tw.hu HXBA.out (fun _ _ h => h) (fun k hk => ⟨(NewRow.ne HLBA.out.tw k hk).2, (NewRow.ne HLBA.out.tw k hk).1⟩) (fun k hk he => absurd (HLBA.out.tw.ltv k he.symm) (by omega)) HLBA.out.bel HLBA.out.bel.size (by omega) ?_; intro v5 w5 hr5 hb5 hg5 hat5; rw [HKE.out] at hr5; obtain ⟨A5, c5, hv5, -, -⟩ := Kd.R_reads hr5; subst hv5; have HL5 := Lib.hid (LS.put_u HLBA.out hr5 hb5 hg5 hat5); have HY5 := Lib.hid (RB.grown HYBA.out hg5 (HNU.out _ (by omega)) (by rw [HSZ.out.2.2]; omega) (fun k hk => (NewRow.ne HLBA.out.tw k hk).1)); have s1 := blk_cell HL5.out.md 1; have s1' : ∀ o, (w5.alloc o).cell? ⟨b9, 1, none⟩ = some v := fun o => pw_cell_below (below_alloc (Below.refl _ _) o) s1; clear hr5 hb5 hg5 hat5)
          | (refine Kd.R_append_rows_step KRow (Rr := NewRow wn.heap.size (w2.drew.alloc (.cells #[.slice AK K'.length cK] 55))) (w0 := wn) (W := w2.drew.alloc (.cells #[.slice AK K'.length cK] 55)) wn.heap.size rfl _ _ 54 55 (.slice none 0 0) 24 rfl Tryz.underlying54 infoRow rfl Nat.zero_lt_one (by decide) u KK [K'] _ 1 1 (fun k => some k ≠ v.ownBlock) _ (by rfl) (by rfl) HLA.out.tw.hu HXA.out (fun _ _ h => h) (fun k hk => ⟨(NewRow.ne HLA.out.tw k hk).2, (NewRow.ne HLA.out.tw k hk).1⟩) (fun k hk he => absurd (HLA.out.tw.ltv k he.symm) (by omega)) HLA.out.bel HLA.out.bel.size (by omega) ?_; intro v5 w5 hr5 hb5 hg5 hat5; rw [HKE.out] at hr5; obtain ⟨A5, c5, hv5, -, -⟩ := Kd.R_reads hr5; subst hv5; have HL5 := Lib.hid (LS.put_u HLA.out hr5 hb5 hg5 hat5); have s1 := blk_cell HL5.out.md 1; have s1' : ∀ o, (w5.alloc o).cell? ⟨b9, 1, none⟩ = some v := fun o => pw_cell_below (below_alloc (Below.refl _ _) o) s1; clear hr5 hb5 hg5 hat5))
        all_goals
          go_wp2_with fail
          go_meet
          first
          | exact ⟨rfl, _, _, _, _, HL6.out.fin h9⟩
          | exact ⟨rfl, _, _, _, _, HL6.out.fin2 h9⟩
      case rest =>
        obtain ⟨rfl, A5, c5, A6, c6, hmd, htw, hoy, hbl⟩ := hcut
        have HMD := Lib.hid hmd
        have HTW := Lib.hid htw
        have HOY := Lib.hid hoy
        have HBL := Lib.hid hbl
        clear hmd htw hoy hbl HS0
        go_wp2_with fail
        go_roundw
        case rel => exact ⟨i + 1, AY, cY, _, _, by rw [HE.out], by go_num, by omega, by rw [HE.out]; exact HOY.out.rd.1, by rw [HE.out]; show Hid (LPt wn AY b9 X' (KK ++ [K']) (VV ++ [V']) _ _ _); rw [HKE.out, HVE.out]; exact Lib.hid ⟨.inr ⟨cY, HOY.out⟩, HMD.out, HTW.out, HBL.out⟩⟩
        case measure => simp [intOf]; omega
    · have hin : i = L := by omega
      subst hin
      have HTT := Lib.hid (show (aThru c P xs i).1 = X ∧ (aThru c P xs i).2 = (KK, VV) by rw [HT.out]; exact ⟨rfl, rfl⟩)
      obtain ⟨A9, cap, olds, hmc, -, hmA, hmF⟩ := HM.out.1
      have HMF := Lib.hid hmF
      have HMA := Lib.hid hmA
      have hmb : wr.cell? ⟨q, 1, none⟩ = some (.slice A9 P.length cap) := by
        rw [blk_cell (hmF wr (fun k hk => HL.out.bel.block k (HM.out.2 k hk))).1]; rfl
      have HOLD := Lib.hid (fun (W' : World) (hb : Below wr.heap.size wr W') => (hmF W' (fun k hk => (below_then HL.out.bel HL.out.bel.size hb).block k (HM.out.2 k hk))).2)
      have HOF := Lib.hid (fun (W' : World) (hb : Below wr.heap.size wr W') => own_Ft HL.out.tw hb)
      have HBN := Lib.hid HL.out.bel
      clear hmF hmA
      obtain ⟨Au, cu, hu, hlu, hCu⟩ := Kd.R_reads HL.out.tw.hu
      obtain ⟨Av, cv, hv, hlv, hCv⟩ := Kd.R_reads HL.out.tw.hv
      subst hu hv
      have HOWN := Lib.hid (show KPl.K wr (KK, VV) [.slice Au KK.length cu, .slice Av VV.length cv] from ⟨[.slice Au KK.length cu], [.slice Av VV.length cv], rfl, ⟨Au, cu, rfl, hlu, hCu⟩, ⟨Av, cv, rfl, hlv, hCv⟩⟩)
      obtain ⟨PE, hPE⟩ : ∃ Q, P ++ [(KK, VV)] = Q := ⟨_, rfl⟩
      have HPE := Lib.hid hPE
      have hcut := cutPl A9 P.length cap P.length hmc
      have HCL := Lib.hid (fun (W' : World) (hb : Below wr.heap.size wr W') => toO (clone_any Ax cx X W' (Kd.C_below (HL.out.x.rd HL.out.bel) hb) hcx2 (by omega)))
      have m0 := blk_cell HL.out.md 0
      have m1 := blk_cell HL.out.md 1
      have HBB := Lib.hid (below_then HB.out HB.out.size HL.out.bel)
      have bD := below_drew (Below.refl wr.heap.size wr)
      have hS : S3 wr ⟨q, 1, none⟩ ⟨b9, 0, none⟩ ⟨b9, 1, none⟩ (.slice A9 P.length cap) (.slice Au KK.length cu) (.slice Av VV.length cv) wr.drew := ⟨pw_cell_below bD hmb, pw_cell_below bD m0, pw_cell_below bD m1, Lib.hid bD⟩
      clear hlu hCu hlv hCv hPE m0 m1 bD HL hkl1 hkl2
      go_wp2_with fail
      clear hmb
      go_region_held3 (fun w' => w'.cell? ⟨q, 1, none⟩ = some (.slice A9 P.length cap) ∧ w'.cell? ⟨b9, 0, none⟩ = some (.slice Au KK.length cu) ∧ w'.cell? ⟨b9, 1, none⟩ = some (.slice Av VV.length cv) ∧ Hid (Below wr.heap.size wr w'))
        (first | exact hS | exact S3.step (by assumption) (below_alloc (Below.refl _ _) _) | exact S3.step (by assumption) (by assumption))
        (first
          | (go_at_call 63; refine (HCL.out _ (S3.b (by assumption))).mono ?_; unfold RowO; rintro e w5 ⟨AC, cC, rfl, ho, hb⟩; have HOC := Lib.hid (ho.lower (S3.b (by assumption)).size); (try have k0 := Lib.hid (pw_cell_below hb (show (wr.drew.alloc (.cells #[.slice Au KK.length cu, .slice Av VV.length cv] 106)).cell? ⟨wr.heap.size, 0, none⟩ = some (.slice Au KK.length cu) from blk_cell (heap_alloc_new wr.drew _) 0))); (try have k1 := Lib.hid (pw_cell_below hb (show (wr.drew.alloc (.cells #[.slice Au KK.length cu, .slice Av VV.length cv] 106)).cell? ⟨wr.heap.size, 1, none⟩ = some (.slice Av VV.length cv) from blk_cell (heap_alloc_new wr.drew _) 1))); clear ho)
          | (have hbw := S3.b (W := wr) (a1 := ⟨q, 1, none⟩) (a2 := ⟨b9, 0, none⟩) (a3 := ⟨b9, 1, none⟩) (v1 := .slice A9 P.length cap) (v2 := .slice Au KK.length cu) (v3 := .slice Av VV.length cv) (w := w5) (by assumption); refine step_grow_plF (w := w5) (by rfl) _ _ (by rfl) A9 P olds HMA.out (HOLD.out _ hbw).1 (HOLD.out _ hbw).2 (by rfl) ⟨wr.heap.size, 0, none⟩ (.slice Au KK.length cu) (.slice Av VV.length cv) (by rfl) (by rw [add_plain]; exact k0.out) (by rw [add_plain]; exact k1.out) (KK, VV) (KPl.K_below hbw HOWN.out) (by omega) ?_; intro A7 c7 w7 ho7 hb7; have HOC7 := Lib.hid (HOC.out.below hb7); have HMG := Lib.hid (fun L => memF_grown (L := L) HM.out.2 (fun W' hW => (HMF.out W' hW).2.1) (below_then HBN.out HBN.out.size hbw) (by have := hlP; omega) (HOF.out _ hbw) ho7 hb7); have HS7 := Lib.hid (below_then hbw hbw.size hb7).size; rw [HPE.out]; rw [HPE.out] at HMG; clear hbw ho7)
          | (have hbw := S3.b (W := wr) (a1 := ⟨q, 1, none⟩) (a2 := ⟨b9, 0, none⟩) (a3 := ⟨b9, 1, none⟩) (v1 := .slice A9 P.length cap) (v2 := .slice Au KK.length cu) (v3 := .slice Av VV.length cv) (w := w5.alloc (.cells #[.slice Au KK.length cu, .slice Av VV.length cv] 106)) (by assumption); refine step_grow_plF (w := w5.alloc (.cells #[.slice Au KK.length cu, .slice Av VV.length cv] 106)) (by rfl) _ _ (by rfl) A9 P olds HMA.out (HOLD.out _ hbw).1 (HOLD.out _ hbw).2 (by rfl) ⟨w5.heap.size, 0, none⟩ (.slice Au KK.length cu) (.slice Av VV.length cv) (by rfl) (by rw [add_plain]; exact blk_cell (heap_alloc_new w5 _) 0) (by rw [add_plain]; exact blk_cell (heap_alloc_new w5 _) 1) (KK, VV) (KPl.K_below hbw HOWN.out) (by omega) ?_; intro A7 c7 w7 ho7 hb7; have HOC7 := Lib.hid ((HOC.out.below (below_alloc (Below.refl _ _) _)).below hb7); have HMG := Lib.hid (fun L => memF_grown (L := L) HM.out.2 (fun W' hW => (HMF.out W' hW).2.1) (below_then HBN.out HBN.out.size hbw) (by have := hlP; omega) (HOF.out _ hbw) ho7 hb7); have HS7 := Lib.hid (below_then hbw hbw.size hb7).size; rw [HPE.out]; rw [HPE.out] at HMG; clear hbw ho7))
      all_goals
        have HBE := Lib.hid (below_then HBB.out HBB.out.size (S3.b (W := wr) (a1 := ⟨q, 1, none⟩) (a2 := ⟨b9, 0, none⟩) (a3 := ⟨b9, 1, none⟩) (v1 := .slice A9 P.length cap) (v2 := .slice Au KK.length cu) (v3 := .slice Av VV.length cv) (by assumption)))
        have HOE := Lib.hid ((HOC7.out.below (below_alloc (Below.refl w7.heap.size w7) (.cells #[.int .i64 i, .slice A7 PE.length c7] 87))).lower HBB.out.size)
        have HME := Lib.hid (show MemG (FU F (Bt W.heap.size (w7.alloc (.cells #[.int .i64 i, .slice A7 PE.length c7] 87)).heap.size)) (w7.alloc (.cells #[.int .i64 i, .slice A7 PE.length c7] 87)) w7.heap.size i PE from thru_foot (fun k hk => .inr ⟨Nat.le_trans HB9.out hk.1, hk.2⟩) (HMG.out _) HFW.out HB.out.size (Nat.le_succ_of_le (Nat.le_trans HBN.out.size HS7.out)))
        go_wp2_with fail
        go_ret2
        rw [HTT.out.1, HTT.out.2, HPE.out]
        exact ⟨_, _, _, rfl, HOE.out, HME.out, HBE.out⟩

end Go.Proofs.YtdfgmdmcdnnhfaaGreat
