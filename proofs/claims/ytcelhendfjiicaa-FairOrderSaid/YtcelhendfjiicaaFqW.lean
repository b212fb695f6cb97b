/- FairOrder: its closure. -/
import Derived.Test.YtcelhendfjiicaaFqV
namespace Go.Proofs.Ytcelhendfjiicaa
open Go.RowKit Go.Shelf Go.Proofs.YtcelhendfjiicaaW.PrintWords Go.Proofs.YtcelhendfjiicaaW.PrintLast Go.Proofs.YtcelhendfjiicaaW.PrintMore
set_option linter.unusedVariables false
set_option linter.unusedSimpArgs false
set_option maxRecDepth 100000
attribute [local go_sem] gb_max2 gb_min2 gb_max_two gb_min_two gb_max_three gb_min_three
structure FO (W : World) (base : Nat) (F G : Nat → Prop) (p bq bn bw m : Nat) (q : Int) (b : Bool) (l : List Fl) (wt : WtV) (E : WtE) : Prop where
  Q : QV W base F p 4096 q b l wt
  J : FqJ b l
  wj : WtJ wt
  S : WtS W base G m E
  it : ∀ n, itemsW E n = itemsAt l n
  xq : BxK W F bq (.cells #[.pointer (some ⟨p, 0, none⟩)] 35 (0, 0)) ∧ ¬ G bq
  xn : BxK W F bn (.cells #[.int .i64 (totF l)] 3 (0, 0)) ∧ ¬ G bn
  xw : BxK W F bw (.cells #[.map (some m)] 58 (0, 0)) ∧ ¬ G bw
  dis : ∀ k, F k → ¬ G k
  lo : base ≤ bn
theorem zitems (w : World) : (zeroValue 59).run Try.prog w = .ok (.slice none 0 0) w := by kernel_rfl
section
variable {W W' w1 w2 : World} {base m p bq bn bw : Nat} {F G F' G' : Nat → Prop} {q : Int} {b : Bool} {l : List Fl} {wt : WtV} {E : WtE}
theorem FO.below (h : FO W base F G p bq bn bw m q b l wt E) (hb : Below W.heap.size W W') : FO W' base F G p bq bn bw m q b l wt E :=
  ⟨h.Q.below hb, h.J, h.wj, h.S.below hb, h.it, ⟨h.xq.1.below hb, h.xq.2⟩, ⟨h.xn.1.below hb, h.xn.2⟩, ⟨h.xw.1.below hb, h.xw.2⟩, h.dis, h.lo⟩
theorem FO.low (h : FO W base F G p bq bn bw m q b l wt E) : base ≤ W.heap.size := Nat.le_trans h.lo (Nat.le_of_lt (blk_lt h.xn.1.1))
/-- The queue has turned: the rest stays. -/
theorem FO.turn (h : FO W base F G p bq bn bw m q b l wt E) {b' : Bool} {l' : List Fl} {wt' : WtV} (hq : QV w1 base F' p 4096 q b' l' wt') (hF : ∀ k, F' k → F k ∨ W.heap.size ≤ k) (hT : Tn F W w1) :
    WtS w1 base G m E ∧ BxK w1 F' bq (.cells #[.pointer (some ⟨p, 0, none⟩)] 35 (0, 0)) ∧ BxK w1 F' bn (.cells #[.int .i64 (totF l)] 3 (0, 0)) ∧ BxK w1 F' bw (.cells #[.map (some m)] 58 (0, 0)) ∧ (∀ k, F' k → ¬ G k) ∧ Below base W w1 :=
  ⟨h.S.keep hT (fun k hk hf => h.dis k hf hk), h.xq.1.qr hT hF, h.xn.1.qr hT hF, h.xw.1.qr hT hF, fun k hk hg => by
    rcases hF k hk with h1 | h1
    · exact h.dis k h1 hg
    · have := (h.S.glt k hg).2; omega, hT.below (fun k hk => (h.Q.flt k hk).1) h.low⟩
theorem WtS.first (h : WtS W base G m E) (n : Int) {x : ItemV} {xs : List ItemV} (hx : itemsW E n = x :: xs) : ∃ g o c, valW E n = .slice (some ⟨g, o, none⟩) (itemsW E n).length c ∧ (itemsW E n).length ≤ c ∧ W.cell? ⟨g, o, none⟩ = some (.int .u64 x.1) ∧ W.cell? ⟨g, o + 1, none⟩ = some (.int .i64 x.2.1) ∧ W.cell? ⟨g, o + 2, none⟩ = some (.int .u64 x.2.2) := by
  have hrow := h.row n
  obtain ⟨g, o, c, hv, -⟩ := Kd.Q_form hrow (by rw [hx]; simp)
  rw [hv] at hrow
  obtain ⟨-, hc, -⟩ := Kd.Q_reads' hrow
  obtain ⟨cs, hl, hM, hcell, -⟩ := Kd.Q_elem hrow (0, 0, 0) 0 (by omega) (by rw [hx]; simp)
  obtain ⟨c0, c1, rfl, h0, c2, c3, rfl, h1, h2⟩ := hM
  have e0 : c0 = [.int .u64 ((itemsW E n).getD 0 (0, 0, 0)).1] := h0
  have e1 : c2 = [.int .i64 ((itemsW E n).getD 0 (0, 0, 0)).2.1] := h1
  have e2 : c3 = [.int .u64 ((itemsW E n).getD 0 (0, 0, 0)).2.2] := h2
  subst e0 e1 e2
  rw [show (itemsW E n).getD 0 (0, 0, 0) = x by rw [hx]; rfl] at hcell
  refine ⟨g, o, c, hv, hc, ?_, ?_, ?_⟩
  · simpa using hcell 0 _ rfl
  · simpa using hcell 1 _ rfl
  · simpa using hcell 2 _ rfl
theorem WtS.look (h : WtS W base G m E) (n : Int) : (Instr.lookup 58 (.map (some m)) (.int .u64 n) false).run Try.prog W = .ok (valW E n) W := by
  have hlk := run_mlook (P := Try.prog) Try.underlying58 (key_int Try.underlying40) (zitems W) h.mp n false
  rw [wtP_look] at hlk
  unfold valW
  cases hl : mlook E n with
  | none => rw [hl] at hlk; exact hlk
  | some e => rw [hl] at hlk; exact hlk
theorem popc_close {W3 w4 : World} {E : WtE} {b' : Bool} {l' : List Fl} {F1 : Nat → Prop} {n : Int} {x : Int} {v' : Value} (hq : QV W3 base F1 p 4096 q b' l' wt) (hJ : FqJ b' l') (wj : WtJ wt) (S : WtS W3 base G m E) (xq : BxK W3 F1 bq (.cells #[.pointer (some ⟨p, 0, none⟩)] 35 (0, 0)) ∧ ¬ G bq) (xn : BxK W3 F1 bn (.cells #[.int .i64 n] 3 (0, 0)) ∧ ¬ G bn) (xw : BxK W3 F1 bw (.cells #[.map (some m)] 58 (0, 0)) ∧ ¬ G bw)
    (dis : ∀ k, F1 k → ¬ G k) (lo : base ≤ bn) (hmp : IsMp (.int .u64) w4 m (mput (wtP E) x v')) (hg : W3.grownBy w4 (some m)) (hrow : KIt.Q 43 W3 base G v' (itemsAt l' x)) (hown : v'.ownBlock = (valW E x).ownBlock) (hit : ∀ j, j ≠ x → itemsW E j = itemsAt l' j) :
    FO (w4.setCell ⟨bn, 0, none⟩ (.int .i64 (totF l'))) base F1 G p bq bn bw m q b' l' wt (mput E x (v', itemsAt l' x)) := by
  obtain ⟨es, cl, hmb, -⟩ := id S.mp
  have hcell : ∀ (k : Nat) (cs : Array Value) (t : TypeId) (fr : Nat × Nat), W3.heap[k]? = some (.cells cs t fr) → w4.heap[k]? = W3.heap[k]? := fun k cs t fr hk => hg.block k (blk_lt hk) (fun e => ne_map hk hmb (by injection e))
  have hk4 : Tn (fun k => k = m) W3 w4 := (Tn.refl (fun k => k = m) W3).grown hg (.inl rfl)
  have hrow4 : KIt.Q 43 w4 base G v' (itemsAt l' x) := Q_own rfl hrow (fun k hk => by
    obtain ⟨cells, hc⟩ := Kd.Q_typed hrow k hk
    exact hcell k _ _ _ hc)
  have S4 : WtS w4 base G m (mput E x (v', itemsAt l' x)) := S.put x v' (itemsAt l' x) hg.size (fun _ h => h) (fun k hk => ⟨(S.glt k hk).1, Nat.lt_of_lt_of_le (S.glt k hk).2 hg.size⟩) hmp (fun k hk hkm _ => hg.block k (S.glt k hk).2 (fun e => hkm (by injection e))) hrow4 (.inl hown)
  have hk5 : Tn (fun k => k = bn) w4 (w4.setCell ⟨bn, 0, none⟩ (.int .i64 (totF l'))) := (Tn.refl (fun k => k = bn) w4).put bn 0 _ (.inl rfl)
  have hbx : ∀ (k : Nat) (cs : Array Value) (t : TypeId), W3.heap[k]? = some (.cells cs t (0, 0)) → t ≠ 3 → (w4.setCell ⟨bn, 0, none⟩ (.int .i64 (totF l'))).heap[k]? = some (.cells cs t (0, 0)) := fun k cs t hk ht =>
    (hk5.block k (blk_lt ((hcell k _ _ _ hk).trans hk)) (fun e => by
      rw [e, xn.1.1] at hk
      injection hk with hk
      injection hk with _ hk
      exact ht hk.symm)).trans ((hcell k _ _ _ hk).trans hk)
  refine ⟨(hq.keep hk4 (fun k hk e => dis k hk (e ▸ S.gm))).keep hk5 (fun k hk e => xn.1.2 (e ▸ hk)), hJ, wj, S4.keep hk5 (fun k hk e => xn.2 (e ▸ hk)), fun j => ?_, ⟨⟨hbx _ _ _ xq.1.1 (by decide), xq.1.2⟩, xq.2⟩, ⟨⟨blk_set ((hcell _ _ _ _ xn.1.1).trans xn.1.1) 0 _, xn.1.2⟩, xn.2⟩, ⟨⟨hbx _ _ _ xw.1.1 (by decide), xw.1.2⟩, xw.2⟩, dis, lo⟩
  rw [it_put]
  split
  · rename_i h; rw [h]
  · rename_i h; exact hit j (fun e => h e.symm)
theorem fo_close {W3 w4 : World} {E' : WtE} {b' : Bool} {l' : List Fl} {F1 : Nat → Prop} {n : Int} (hq : QV W3 base F1 p 4096 q b' l' wt) (hJ : FqJ b' l') (wj : WtJ wt) (S4 : WtS w4 base G' m E') (hk4 : Tn G W3 w4) (hG' : ∀ k, G' k → G k ∨ W3.heap.size ≤ k) (xq : BxK W3 F1 bq (.cells #[.pointer (some ⟨p, 0, none⟩)] 35 (0, 0)) ∧ ¬ G bq) (xn : BxK W3 F1 bn (.cells #[.int .i64 n] 3 (0, 0)) ∧ ¬ G bn) (xw : BxK W3 F1 bw (.cells #[.map (some m)] 58 (0, 0)) ∧ ¬ G bw)
    (dis : ∀ k, F1 k → ¬ G k) (lo : base ≤ bn) (it : ∀ j, itemsW E' j = itemsAt l' j) : FO (w4.setCell ⟨bn, 0, none⟩ (.int .i64 (totF l'))) base F1 G' p bq bn bw m q b' l' wt E' := by
  have hk5 : Tn (fun k => k = bn) w4 (w4.setCell ⟨bn, 0, none⟩ (.int .i64 (totF l'))) := (Tn.refl (fun k => k = bn) w4).put bn 0 _ (.inl rfl)
  have hne : ∀ k, k < W3.heap.size → ¬ G k → ¬ G' k := fun k hk hg h => by
    rcases hG' k h with h | h
    · exact hg h
    · omega
  have hnb := hne bn (blk_lt xn.1.1) xn.2
  have hx4 : ∀ (k : Nat) (o : Obj), W3.heap[k]? = some o → ¬ G k → w4.heap[k]? = some o := fun k o hk hg => (hk4.block k (Array.getElem?_eq_some_iff.1 hk).1 hg).trans hk
  have hbx : ∀ (k : Nat) (cs : Array Value) (t : TypeId), W3.heap[k]? = some (.cells cs t (0, 0)) → ¬ G k → t ≠ 3 → (w4.setCell ⟨bn, 0, none⟩ (.int .i64 (totF l'))).heap[k]? = some (.cells cs t (0, 0)) := fun k cs t hk hg ht =>
    (hk5.block k (blk_lt (hx4 k _ hk hg)) (fun e => by
      rw [e, xn.1.1] at hk
      injection hk with hk
      injection hk with _ hk
      exact ht hk.symm)).trans (hx4 k _ hk hg)
  exact ⟨(hq.keep hk4 dis).keep hk5 (fun k hk e => xn.1.2 (e ▸ hk)), hJ, wj, S4.keep hk5 (fun k hk e => hnb (e ▸ hk)), it, ⟨⟨hbx _ _ _ xq.1.1 xq.2 (by decide), xq.1.2⟩, hne _ (blk_lt xq.1.1) xq.2⟩, ⟨⟨blk_set (hx4 _ _ xn.1.1 xn.2) 0 _, xn.1.2⟩, hnb⟩, ⟨⟨hbx _ _ _ xw.1.1 xw.2 (by decide), xw.1.2⟩, hne _ (blk_lt xw.1.1) xw.2⟩, fun k hk => hne k (hq.flt k hk).2 (dis k hk), lo⟩
/-- A row is appended to, and the map told. -/
theorem WtS.app {W3 w9 w4 : World} {x : ItemV} {v9 : Value} (h : WtS W3 base G m E) (hr : KIt.Q 43 w9 base (fun k => G k ∨ W3.heap.size ≤ k) v9 (itemsW E x.1 ++ [x])) (hg : W3.grownBy w9 (valW E x.1).ownBlock) (hat : v9.ownBlock = (valW E x.1).ownBlock ∨ ∃ k, v9.ownBlock = some k ∧ W3.heap.size ≤ k)
    (hmp : IsMp (.int .u64) w4 m (mput (wtP E) x.1 v9)) (hg2 : w9.grownBy w4 (some m)) : WtS w4 base (Nw W3 w9 G) m (mput E x.1 (v9, itemsW E x.1 ++ [x])) ∧ Tn G W3 w4 := by
  have hown := (h.row x.1).1
  have hk4 : Tn G W3 w4 := ((Tn.refl G W3).grownO hg (fun b hb => .inl (hown b hb))).grown hg2 (.inl h.gm)
  obtain ⟨es, cl, hmb, -⟩ := id h.mp
  have h0 : base ≤ W3.heap.size := Nat.le_trans (h.glt m h.gm).1 (Nat.le_of_lt (h.glt m h.gm).2)
  have hmne : (valW E x.1).ownBlock ≠ some m := fun e => by
    obtain ⟨cells, hc⟩ := Kd.Q_typed (h.row x.1) m e
    exact ne_map hc hmb rfl
  have hm9 : w9.heap[m]? = some (.map es cl) := (hg.block m (h.glt m h.gm).2 (fun e => hmne e.symm)).trans hmb
  have hr4 : KIt.Q 43 w4 base (Nw W3 w9 G) v9 (itemsW E x.1 ++ [x]) := Kd.Q_mono (Kd.Q_bound (Q_own rfl (Kd.Q_mono (Kd.Q_bound hr) (ok' := fun k => (G k ∨ W3.heap.size ≤ k) ∧ k < w9.heap.size) (fun k hk => ⟨hk.1, hk.2.2.1⟩)) (fun k hk => by
    obtain ⟨cells, hc⟩ := Kd.Q_typed hr k hk
    exact hg2.block k (blk_lt hc) (fun e => ne_map hc hm9 (by injection e))))) (fun k hk => by
      rcases hk.1.1 with h1 | h1
      · exact .inl h1
      · exact .inr ⟨h1, hk.1.2⟩)
  refine ⟨h.put x.1 v9 _ hk4.size (fun _ hk => .inl hk) (fun k hk => ?_) hmp (fun k hk hkm hko => ?_) hr4 hat, hk4⟩
  · have hs := hg2.size
    rcases hk with hk | hk
    · have := h.glt k hk
      exact ⟨this.1, by have := hg.size; omega⟩
    · exact ⟨by omega, by omega⟩
  · have hk9 := hg.block k (h.glt k hk).2 (fun e => hko e.symm)
    exact (hg2.block k (by have := hg.size; have := (h.glt k hk).2; omega) (fun e => hkm (by injection e))).trans hk9
theorem popc_none (h : FO W base F G p bq bn bw m q b [] wt E) : Calls Try.prog 26 #[.pointer (some ⟨bq, 0, none⟩), .pointer (some ⟨bn, 0, none⟩), .pointer (some ⟨bw, 0, none⟩)] W fun e w' => e = .returned (.bool true) ∧ Below W.heap.size W w' := by
  have k0 : W.cell? ⟨bq, 0, none⟩ = some (.pointer (some ⟨p, 0, none⟩)) := blk_cell h.xq.1.1 0
  have HP := Lib.hid (qpop_none h.Q)
  have HN := Lib.hid h.xn.1.1
  clear h
  go_enter Try.func26, Try.ntmps26
  go_wp2_with fail
  refine HP.out.mono ?_
  rintro e w1 ⟨rfl, hb⟩
  have hb2 := below_then hb hb.size (below_alloc (Below.refl w1.heap.size w1) (.cells #[.int .u64 0, .int .i64 0, .int .u64 0] 43))
  have HB2 := Lib.hid hb2
  have z : (w1.alloc (.cells #[.int .u64 0, .int .i64 0, .int .u64 0] 43)).cell? ⟨bn, 0, none⟩ = some (.int .i64 0) := blk_cell (blk_below HN.out hb2) 0
  clear hb hb2 k0
  go_wp2_with fail
  go_ret
  exact ⟨rfl, HB2.out⟩
def PopcR (W : World) (base : Nat) (F G : Nat → Prop) (p bq bn bw m : Nat) (q : Int) (b' : Bool) (l' : List Fl) (wt : WtV) (w' : World) : Prop :=
  ∃ F' G' E', FO w' base F' G' p bq bn bw m q b' l' wt E' ∧ (∀ k, F' k → F k ∨ W.heap.size ≤ k) ∧ (∀ k, G' k → G k ∨ W.heap.size ≤ k) ∧ Tn (fun k => F k ∨ G k ∨ k = bn) W w'
theorem FO.tnb (h : FO W base F G p bq bn bw m q b l wt E) (hT : Tn (fun k => F k ∨ G k ∨ k = bn) W W') : Below base W W' := hT.below (fun k hk => by
  rcases hk with hk | hk | hk
  · exact (h.Q.flt k hk).1
  · exact (h.S.glt k hk).1
  · rw [hk]; exact h.lo) h.low
set_option maxHeartbeats 2000000 in
theorem popc_ok (h : FO W base F G p bq bn bw m q b l wt E) (h1 : 1 ≤ q) (h2 : q ≤ 1048576) (ht9 : totF l ≤ 1000) (y : ItemV × Bool × List Fl) (hy : popRun wt q (l.length + l.length) 0 b l = some y) :
    Calls Try.prog 26 #[.pointer (some ⟨bq, 0, none⟩), .pointer (some ⟨bn, 0, none⟩), .pointer (some ⟨bw, 0, none⟩)] W fun e w' => e = .returned (.bool true) ∧ PopcR W base F G p bq bn bw m q y.2.1 y.2.2 wt w' := by
  have k0 : W.cell? ⟨bq, 0, none⟩ = some (.pointer (some ⟨p, 0, none⟩)) := blk_cell h.xq.1.1 0
  have hll := len_tot h.J
  have HP := Lib.hid (qpop_ok h.Q h.wj h1 h2 h.J (by omega) (by omega) y hy)
  obtain ⟨-, -, htot⟩ := pop_gen h.wj h1 h2 h.J hy
  obtain ⟨hit1, hit2⟩ := it_pop h.wj h1 h2 h.J h.Q.nd hy
  have hjy := popRun_J h.wj h1 h2 h.J hy
  obtain ⟨⟨x1, x2, x3⟩, b', l'⟩ := y
  dsimp only at htot hit1 hit2 hjy
  unfold popAns at HP
  dsimp only at HP ⊢
  have HH := Lib.hid h
  have HT := Lib.hid (And.intro hit1 (And.intro hit2 (And.intro htot hjy)))
  clear h hll hy hit1 hit2 htot hjy
  go_enter Try.func26, Try.ntmps26
  go_wp2_with fail
  refine HP.out.mono ?_
  rintro e w1 ⟨rfl, F1, hq1, hF1, hT1⟩
  obtain ⟨t1, t2, t3, t4, t5, t6⟩ := HH.out.turn hq1 hF1 hT1
  obtain ⟨W2, hW2⟩ : ∃ W2, w1.alloc (.cells #[.int .u64 x1, .int .i64 x2, .int .u64 x3] 43) = W2 := ⟨_, rfl⟩
  obtain ⟨xb, hxb⟩ : ∃ b, w1.heap.size = b := ⟨_, rfl⟩
  have hb2 : Below w1.heap.size w1 W2 := by rw [← hW2]; exact below_alloc (Below.refl _ _) _
  have hx2 : W2.heap[xb]? = some (.cells #[.int .u64 x1, .int .i64 x2, .int .u64 x3] 43 (0, 0)) := by rw [← hW2, ← hxb]; exact heap_alloc_new _ _
  have HQ2 := Lib.hid (hq1.below hb2)
  have HS2 := Lib.hid (t1.below hb2)
  have HXQ := Lib.hid (t2.below hb2)
  have HXN := Lib.hid (t3.below hb2)
  have HXW := Lib.hid (t4.below hb2)
  have HDI := Lib.hid t5
  have HB2 := Lib.hid (t6.trans (hb2.mono (Nat.le_trans HH.out.low t6.size)))
  have HX2 := Lib.hid hx2
  have HTN := Lib.hid ((hT1.mono (F' := fun k => F k ∨ G k ∨ k = bn) (fun k hk => .inl hk)).bel hb2)
  have HF1 := Lib.hid hF1
  have HSZ := Lib.hid (show w1.heap.size = xb ∧ W.heap.size ≤ w1.heap.size ∧ w1.heap.size < W2.heap.size from ⟨hxb, hT1.size, by rw [← hW2]; simp⟩)
  have hitw : itemsW E x1 = (x1, x2, x3) :: itemsAt l' x1 := by rw [HH.out.it]; exact HT.out.1
  obtain ⟨g, o, c, hv, hc, y0, y1, y2⟩ := HS2.out.first x1 hitw
  obtain ⟨mm, hmm⟩ : ∃ k, (itemsW E x1).length = k := ⟨_, rfl⟩
  have hm1 : 1 ≤ mm := by rw [← hmm, hitw]; simp
  have hm0 : (0 : Int) < (mm : Int) := by omega
  have hmz : ((mm : Int) == 0) = false := by simp; omega
  rw [hmm] at hv hc
  dsimp only at y0 y1 y2
  have hlk := HS2.out.look x1
  rw [hv] at hlk
  have z0 : W2.cell? ⟨xb, 0, none⟩ = some (.int .u64 x1) := blk_cell hx2 0
  have z1 : W2.cell? ⟨xb, 1, none⟩ = some (.int .i64 x2) := blk_cell hx2 1
  have z2 : W2.cell? ⟨xb, 2, none⟩ = some (.int .u64 x3) := blk_cell hx2 2
  have zw : W2.cell? ⟨bw, 0, none⟩ = some (.map (some m)) := blk_cell HXW.out.1 0
  have HV := Lib.hid hv
  have HIT := Lib.hid hitw
  have HMM := Lib.hid hmm
  clear hq1 hF1 hT1 t1 t2 t3 t4 t5 t6 hb2 hx2 hv hitw hmm k0
  go_wp2_with fail
  go_upto_region 5 with fail
  clear hW2 hxb hlk
  go_quiet (fail)
  obtain ⟨W3, hW3⟩ : ∃ W3, W2.drewN nq = W3 := ⟨_, rfl⟩
  have hb3 : Below W2.heap.size W2 W3 := by rw [← hW3]; exact pw_below_drewN (Below.refl _ W2) nq
  have hb4 := below_drew hb3
  have HQ4 := Lib.hid (HQ2.out.below hb4)
  have hS4 := HS2.out.below hb4
  have HXQ4 := Lib.hid (HXQ.out.below hb4)
  have HXN4 := Lib.hid (HXN.out.below hb4)
  have HXW4 := Lib.hid (HXW.out.below hb4)
  have HX4 := Lib.hid (blk_below HX2.out hb4)
  have HB4 := Lib.hid (HB2.out.trans (hb4.mono (Nat.le_trans HH.out.low HB2.out.size)))
  obtain ⟨A', hcut, hown, hQc⟩ := cutI (some ⟨g, o, none⟩) mm c hm1 hc
  obtain ⟨w4, hrun, hmp, hg, -⟩ := run_mput (P := Try.prog) Try.underlying58 (key_int Try.underlying40) hS4.mp x1 (.slice A' (mm - 1) (c - 1))
  have hrow := hS4.row x1
  rw [HV.out, HIT.out] at hrow
  have hcl := popc_close (x := x1) (n := totF l) HQ4.out HT.out.2.2.2 HH.out.wj hS4 ⟨HXQ4.out, HH.out.xq.2⟩ ⟨HXN4.out, HH.out.xn.2⟩ ⟨HXW4.out, HH.out.xw.2⟩ HDI.out HH.out.lo hmp hg (hQc _ _ _ _ _ hrow) (by rw [hown, HV.out]) (fun j hj => by rw [HH.out.it]; exact (HT.out.2.1 j hj).symm)
  obtain ⟨es, cl, hmb, -⟩ := id hS4.mp
  have hx5 : w4.heap[xb]? = some (.cells #[.int .u64 x1, .int .i64 x2, .int .u64 x3] 43 (0, 0)) := (hg.block xb (blk_lt HX4.out) (fun e => ne_map HX4.out hmb (by injection e))).trans HX4.out
  have hw5 : w4.heap[bw]? = some (.cells #[.map (some m)] 58 (0, 0)) := (hg.block bw (blk_lt HXW4.out.1) (fun e => ne_map HXW4.out.1 hmb (by injection e))).trans HXW4.out.1
  have hn5 : w4.heap[bn]? = some (.cells #[.int .i64 (totF l)] 3 (0, 0)) := (hg.block bn (blk_lt HXN4.out.1) (fun e => ne_map HXN4.out.1 hmb (by injection e))).trans HXN4.out.1
  have HS0 := Lib.hid (show W3.drew.cell? ⟨bw, 0, none⟩ = some (.map (some m)) ∧ W3.drew.cell? ⟨xb, 0, none⟩ = some (.int .u64 x1) from ⟨blk_cell HXW4.out.1 0, blk_cell HX4.out 0⟩)
  have HS1 := Lib.hid (show w4.cell? ⟨bw, 0, none⟩ = some (.map (some m)) ∧ w4.cell? ⟨xb, 0, none⟩ = some (.int .u64 x1) from ⟨blk_cell hw5 0, blk_cell hx5 0⟩)
  have zn : w4.cell? ⟨bn, 0, none⟩ = some (.int .i64 (totF l)) := blk_cell hn5 0
  have fn := blk_frozen hn5 0
  have htt := HT.out.2.2.1
  have hsub : ((totF l : Nat) : Int) - 1 = ((totF l' : Nat) : Int) := by omega
  obtain ⟨tl, htl⟩ : ∃ k, totF l = k := ⟨_, rfl⟩
  obtain ⟨tl', htl'⟩ : ∃ k, totF l' = k := ⟨_, rfl⟩
  rw [htl] at zn hsub ht9
  rw [htl'] at hsub hcl
  have HTL := Lib.hid htl'
  have HBF := Lib.hid (show Tn (fun k => F k ∨ G k ∨ k = bn) W (w4.setCell ⟨bn, 0, none⟩ (.int .i64 tl')) from ((HTN.out.bel hb4).grown hg (.inl (.inr (.inl hS4.gm)))).put bn 0 _ (.inl (.inr (.inr rfl))))
  have HCL := Lib.hid (show PopcR W base F G p bq bn bw m q b' l' wt (w4.setCell ⟨bn, 0, none⟩ (.int .i64 tl')) from ⟨F1, G, _, hcl, HF1.out, fun k hk => .inl hk, HBF.out⟩)
  rw [hW3]
  clear hW3 hb3 hb4 hS4 hmp hg hrow hcl hmb hx5 hw5 hn5 htt htl htl' hown hQc z0 z1 z2 zw y0 y1 y2
  go_wp2_with fail
  go_region_held3 (fun w' => w'.cell? ⟨bw, 0, none⟩ = some (.map (some m)) ∧ w'.cell? ⟨xb, 0, none⟩ = some (.int .u64 x1))
    (first | exact HS0.out | exact HS1.out)
    (fail)
  go_wp2_with fail
  go_ret
  exact ⟨rfl, HCL.out⟩
end
end Go.Proofs.Ytcelhendfjiicaa
