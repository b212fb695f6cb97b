/- (*Model).table: a table of one's own; The document's model: Weight, row, Token, Rows; A model in memory. -/
import Derived.Test.YtdfgmdmcdnnhfaaGreatMoA
import Derived.Deep.RegionLaw
import Derived.Deep.RegionHeld3
namespace Go.Proofs.YtdfgmdmcdnnhfaaGreat
open Go.RowKit Go.Shelf Go.Proofs.YtdfgmdmcdnnhfaaGreatW.PrintWords Go.Proofs.YtdfgmdmcdnnhfaaGreatW.PrintLast Go.Proofs.YtdfgmdmcdnnhfaaGreatW.PrintMore
set_option linter.unusedVariables false
set_option linter.unusedSimpArgs false
set_option maxRecDepth 100000
attribute [local go_sem] gb_max2 gb_min2 gb_max_two gb_min_two gb_max_three gb_min_three

/-- A table of one's own: block g holds n rows vs; row r is f r. -/
def Tb (W : World) (base g n : Nat) (vs : Nat → Value) (f : Nat → List Int) : Prop :=
  base ≤ g ∧ (∃ cur : Array Value, W.heap[g]? = some (.cells cur 55 (0, 0)) ∧ cur.size = n ∧ ∀ r, r < n → cur[r]? = some (vs r)) ∧
  (∀ r, r < n → Own W base 2 (vs r) (f r)) ∧ (∀ r r', r < n → r' < n → r ≠ r' → NeRow (vs r) (vs r'))
theorem Own.raw {w : World} {base e : Nat} {v : Value} {xs : List Int} (h : Own w base e v xs) : w.ownsRow base e 1 v xs.length (encs (Value.int .i64) xs) := Kd.own_of_R (enc := Value.int .i64) (h1 := fun _ => rfl) h
theorem Own.of_raw {w : World} {base e : Nat} {v : Value} {xs : List Int} (h : w.ownsRow base e 1 v xs.length (encs (Value.int .i64) xs)) : Own w base e v xs := Kd.R_of_own (enc := Value.int .i64) (h1 := fun _ => rfl) h (fun _ _ => trivial)
theorem Tb.below {W W' : World} {base g n : Nat} {vs : Nat → Value} {f : Nat → List Int} (h : Tb W base g n vs f) (hb : Below W.heap.size W W') : Tb W' base g n vs f := by
  obtain ⟨h0, ⟨cur, h1, h2, h3⟩, h4, h5⟩ := h
  exact ⟨h0, ⟨cur, blk_below h1 hb, h2, h3⟩, fun r hr => (h4 r hr).below hb, h5⟩
theorem Tb.congr {W : World} {base g n : Nat} {vs : Nat → Value} {f f' : Nat → List Int} (h : Tb W base g n vs f) (he : ∀ r, r < n → f r = f' r) : Tb W base g n vs f' := by
  obtain ⟨h0, h1, h4, h5⟩ := h
  exact ⟨h0, h1, fun r hr => by rw [← he r hr]; exact h4 r hr, h5⟩
theorem Tb.at_ {W : World} {base g n : Nat} {vs : Nat → Value} {f : Nat → List Int} (h : Tb W base g n vs f) (r : Nat) (hr : r < n) : W.cell? ⟨g, r, none⟩ = some (vs r) ∧ W.frozen? ⟨g, r, none⟩ = false := by
  obtain ⟨h0, ⟨cur, h1, h2, h3⟩, h4, h5⟩ := h
  exact ⟨by rw [blk_cell h1]; exact h3 r hr, blk_frozen h1 r⟩
theorem Tb.made (W : World) (n : Nat) (base : Nat) (hb : base ≤ W.heap.size) : Tb (W.alloc (.cells (madeCells #[.slice none 0 0] n) 55)) base W.heap.size n (fun _ => .slice none 0 0) (fun _ => []) := by
  refine ⟨hb, ⟨_, heap_alloc_new W _, by simp [madeCells], fun r hr => ?_⟩, fun r _ => Kd.R_nil _ _ _ _ _, fun r r' _ _ _ => ne_nil _⟩
  simp [madeCells, hr, Nat.mod_one]
theorem Tb.block {W : World} {base g n : Nat} {vs : Nat → Value} {f : Nat → List Int} (h : Tb W base g n vs f) (r : Nat) (hr : r < n) : (vs r).ownBlock = none ∨ ∃ b, (vs r).ownBlock = some b ∧ b ≠ g ∧ b < W.heap.size ∧ base ≤ b := by
  obtain ⟨h0, ⟨cur, h1, h2, h3⟩, h4, h5⟩ := h
  cases hv : (vs r).ownBlock with
  | none => exact .inl rfl
  | some b => exact .inr ⟨b, rfl, fun e => Kd.R_ne (h4 r hr) h1 (by decide) (by rw [hv, e]), own_lt (h4 r hr).raw b hv, own_base (h4 r hr).raw b hv⟩
/-- Behind an append to row r, and the store of what it left. -/
theorem Tb.put {W W1 : World} {base g n : Nat} {vs : Nat → Value} {f : Nat → List Int} (h : Tb W base g n vs f) (r : Nat) (hr : r < n) {v1 : Value} {ys : List Int} (ho : Own W1 base 2 v1 ys) (hg : W.grownBy W1 (vs r).ownBlock) (hat : v1.ownBlock = (vs r).ownBlock ∨ ∃ b, v1.ownBlock = some b ∧ W.heap.size ≤ b) :
    Tb (W1.setCell ⟨g, r, none⟩ v1) base g n (fun k => if k = r then v1 else vs k) (fun k => if k = r then ys else f k) := by
  have hgne : some g ≠ (vs r).ownBlock := by
    rcases h.block r hr with e | ⟨b, e, hne, _⟩
    · rw [e]; simp
    · rw [e]; intro he; exact hne (Option.some.inj he).symm
  obtain ⟨h0, ⟨cur, h1, h2, h3⟩, h4, h5⟩ := h
  have k1 := blk_grown h1 hg hgne
  refine ⟨h0, ⟨_, blk_set k1 r v1, by simpa using h2, fun k hk => ?_⟩, fun k hk => ?_, fun k k' hk hk' hne => ?_⟩
  · rw [Array.getElem?_setIfInBounds]
    by_cases e : k = r
    · subst e; simp [h2, hk]
    · rw [if_neg (Ne.symm e)]; show cur[k]? = some (if k = r then v1 else vs k); rw [if_neg e]; exact h3 k hk
  · dsimp only
    by_cases e : k = r
    · subst e; rw [if_pos rfl, if_pos rfl]; exact Kd.R_set ho k1 (by decide) k v1
    · rw [if_neg e, if_neg e]
      refine Kd.R_set (Own.of_raw (own_other (h4 k hk).raw hg (ne_other (h5 r k hr hk (Ne.symm e))))) k1 (by decide) r v1
  · dsimp only
    by_cases e : k = r
    · subst e
      rw [if_pos rfl, if_neg (Ne.symm hne)]
      exact ne_append (h5 k k' hk hk' hne) hat (h4 k' hk').raw
    · rw [if_neg e]
      by_cases e' : k' = r
      · subst e'
        rw [if_pos rfl]
        exact ne_append' (h5 k k' hk hk' hne) hat (h4 k hk).raw
      · rw [if_neg e']; exact h5 k k' hk hk' hne
/-- A store into row r. -/
theorem Tb.poke {W : World} {base g n : Nat} {vs : Nat → Value} {f : Nat → List Int} (h : Tb W base g n vs f) (r : Nat) (hr : r < n) {b cap : Nat} (hv : vs r = .slice (some ⟨b, 0, none⟩) (f r).length cap) (j : Nat) (x : Int) :
    Tb (W.setCell ⟨b, j, none⟩ (.int .i64 x)) base g n vs (fun k => if k = r then (f r).set j x else f k) := by
  have hob : (vs r).ownBlock = some b := by rw [hv]; rfl
  have hgne : g ≠ b := by
    rcases h.block r hr with e | ⟨b', e, hne, _⟩
    · rw [e] at hob; cases hob
    · rw [e] at hob; rw [← Option.some.inj hob]; exact Ne.symm hne
  obtain ⟨h0, ⟨cur, h1, h2, h3⟩, h4, h5⟩ := h
  refine ⟨h0, ⟨cur, blk_far h1 hgne _, h2, h3⟩, fun k hk => ?_, h5⟩
  dsimp only
  by_cases e : k = r
  · subst e
    rw [if_pos rfl, hv]
    have := h4 k hk
    rw [hv] at this
    have h6 := this.store j x
    have h7 : (f k).length = ((f k).set j x).length := by simp
    exact h6
  · rw [if_neg e]
    exact (h4 k hk).move fun q hq => Below.heap_setCell _ _ _ q (fun e2 => h5 r k hr hk (Ne.symm e) b hob (by rw [hq, e2]))

/-- A table half made: rows below i whole, row i up to j. -/
def stage (wt : Nat → Nat → Int) (D i j r : Nat) : List Int := tab (if r < i then D else if r = i then j else 0) (wt r)
theorem stage_put (wt : Nat → Nat → Int) (D i j r : Nat) : (if r = i then stage wt D i j i ++ [wt i j] else stage wt D i j r) = stage wt D i (j + 1) r := by
  unfold stage
  by_cases e : r = i
  · subst e; simp only [if_true, Nat.lt_irrefl, if_false]; exact (tab_succ j (wt r)).symm
  · rw [if_neg e, if_neg e, if_neg e]
theorem stage_next (wt : Nat → Nat → Int) (D i r : Nat) : stage wt D i D r = stage wt D (i + 1) 0 r := by
  unfold stage
  by_cases h : r < i
  · rw [if_pos h, if_pos (by omega)]
  · by_cases e : r = i
    · subst e; rw [if_neg h, if_pos rfl, if_pos (by omega)]
    · rw [if_neg h, if_neg e, if_neg (by omega)]
      split <;> rfl
theorem stage_full (wt : Nat → Nat → Int) (D n r : Nat) (h : r < n) : stage wt D n 0 r = tab D (wt r) := by unfold stage; rw [if_pos h]
theorem stage_here (wt : Nat → Nat → Int) (D i j : Nat) : (stage wt D i j i).length = j := by unfold stage; rw [tab_len, if_neg (Nat.lt_irrefl _), if_pos rfl]
theorem stage_none (wt : Nat → Nat → Int) (D r : Nat) : [] = stage wt D 0 0 r := by unfold stage; rw [if_neg (Nat.not_lt_zero _)]; split <;> rfl

/-- An append to a row of one's own, in a region that draws, with what it turned. -/
theorem own_append_stepAt {P : Program} {ops : Array Oper} {o : Oper} {a : Act} {Q : Exit → Act → World → Prop} {K : Act → World → Prop} {w0 : World} (W W' : World) (base : Nat) (hw : Region.wanted o (yielded ops a.tmps) = true) (s x : Operand) (t e : TypeId)
    (ho : o.op = .call { callee := .builtin .append, args := #[s, x], argTypes := #[t, t] })
    (ht : P.underlying t = some (.slice e)) (hinfo : (P.info? e).map (fun i => (i.zero, i.size, i.bytes)) = some (some (.int .i64 0), 1, 8))
    (v : Value) (xs : List Int) (y : Int) (g : Nat) (hs : a.eval s = v) (hx : a.eval x = .slice (some ⟨g, 0, none⟩) 1 1) (hg : g = W.heap.size) (hW : W' = W.alloc (.cells #[.int .i64 y] e))
    (HO : Own W base e v xs) (HB : Below base w0 W) (hbase : base ≤ W.heap.size) (hl : xs.length ≤ 1000000)
    (h : ∀ v1 w1, Own w1 base e v1 (xs ++ [y]) → Below base w0 w1 → W.grownBy w1 v.ownBlock → (v1.ownBlock = v.ownBlock ∨ ∃ b, v1.ownBlock = some b ∧ W.heap.size ≤ b) → K (a.put o.dst v1) w1) :
    if Region.wanted o (yielded ops a.tmps) = true then Oper.wp P o a W' K Q else K (a.put o.dst undef) W' := by
  subst hW hg
  refine step_append_cells (w0 := w0) base hw s x t e (.int .i64 0) 1 8 ho ht hinfo rfl (by decide) (by decide) v xs.length (nums .i64 xs) [.int .i64 y] hs hx rfl (by simp [Value.oneCell']) (Kd.own_of_R (enc := Value.int .i64) (h1 := fun _ => rfl) HO) HB hbase (by omega) ?_
  intro v1 w1 hr hb hg hat
  refine h v1 w1 (Kd.R_of_own (enc := Value.int .i64) (h1 := fun _ => rfl) ?_ (fun _ _ => trivial)) hb hg hat
  rw [List.length_append]
  simpa [encs, nums] using hr

def TabR (W : World) (c : Cfg) (t : Int) (n : Nat) (e : Ending) (w' : World) : Prop := ∃ g vs, e = .returned (.slice (some ⟨g, 0, none⟩) n n) ∧ Tb w' W.heap.size g n vs (fun r => mrow c t r) ∧ Below W.heap.size W w'

set_option maxRecDepth 100000 in
set_option maxHeartbeats 1000000 in
theorem table_any (W : World) (p : Nat) (c : Cfg) (hok : c.ok) (k0 : W.cell? ⟨p, 0, none⟩ = some (.int .u64 c.seed)) (k2 : W.cell? ⟨p, 2, none⟩ = some (.int .i64 c.dim)) (t : Int) (t0 : 0 ≤ t) (t1 : t ≤ 30) (n : Nat) (hn : n ≤ 256) :
    Calls Tryz.prog 20 #[.pointer (some ⟨p, 0, none⟩), .int .i64 t, .int .i64 n] W (TabR W c t n) := by
  obtain ⟨D, hD⟩ : ∃ D : Nat, c.dim = D := ⟨c.dim.toNat, by have := hok.2.1; omega⟩
  have hD16 : D ≤ 16 := by have := hok.2.1; omega
  obtain ⟨s, hs⟩ : ∃ s, rat c.seed t = s := ⟨_, rfl⟩
  obtain ⟨s0, hs0⟩ : ∃ s0, c.seed = s0 := ⟨_, rfl⟩
  have HMR := Lib.hid (show ∀ r : Nat, mrow c t r = tab D (fun j => mwt s r j) by intro r; unfold mrow; rw [hD, hs]; rfl)
  have HS := Lib.hid (show rat s0 t = s by rw [← hs0]; exact hs)
  rw [hD] at k2
  rw [hs0] at k0
  have K2 := Lib.hid (fun (W' : World) (hb : Below W.heap.size W W') => show W'.cell? ⟨p, 2, none⟩ = some (.int .i64 D) from pw_cell_below hb k2)
  clear hok hD hs hs0
  have hmk := print_make_of (P := Tryz.prog) 54 55 (.slice none 0 0) 24 Tryz.underlying54 infoRow rfl (by decide) n (by omega)
  unfold TabR
  go_enter Tryz.func20, Tryz.ntmps20
  go_wp2_with fail
  refine (derive1_any s0 t _ _ _ (by rw [blk_cell (heap_alloc_new _ _)]; rfl)).mono ?_
  rw [HS.out]
  rintro e w' ⟨rfl, rfl⟩
  obtain ⟨W0, hW0⟩ : ∃ W0, W.alloc (.cells #[.int .u64 t] 22) = W0 := ⟨_, rfl⟩
  have HB0 := Lib.hid (show Below W.heap.size W W0 by rw [← hW0]; exact below_alloc (Below.refl _ W) _)
  rw [hW0]
  clear hW0
  go_wp2_with fail
  obtain ⟨W1, hW1⟩ : ∃ W1, W0.alloc (.cells (madeCells #[.slice none 0 0] n) 55) = W1 := ⟨_, rfl⟩
  obtain ⟨g, hg⟩ : ∃ g, W0.heap.size = g := ⟨_, rfl⟩
  have HB1 := Lib.hid (show Below W.heap.size W W1 by rw [← hW1]; exact below_alloc HB0.out _)
  have HT1 := Lib.hid (show Tb W1 W.heap.size g n (fun _ => .slice none 0 0) (fun _ => []) by rw [← hW1, ← hg]; exact Tb.made W0 n _ HB0.out.size)
  rw [hW1, hg]
  clear hW1 hg hmk
  obtain ⟨wt, hwt⟩ : ∃ wt : Nat → Nat → Int, (fun r j : Nat => mwt s r j) = wt := ⟨_, rfl⟩
  have HWT := Lib.hid hwt
  clear hwt
  go_loopw [24] (fun q wr => ∃ i : Nat, q = .int .i64 i ∧ i ≤ n ∧ ∃ vs, Tb wr W.heap.size g n vs (stage wt D i 0) ∧ Below W.heap.size W wr) (fun q _ => n - (intOf q).toNat)
  case atStart => exact ⟨0, rfl, by omega, _, HT1.out.congr (fun r _ => stage_none wt D r), HB1.out⟩
  case round =>
    obtain ⟨i, rfl, hi, vs, hT, hB⟩ := hrel
    have HT := Lib.hid hT
    have HB := Lib.hid hB
    have q2 := K2.out _ hB
    clear hT hB
    by_cases hin : i < n
    · go_wp2_with fail
      go_loopw [32] (fun q wr => ∃ j : Nat, q = .int .i64 j ∧ j ≤ D ∧ ∃ vs, Tb wr W.heap.size g n vs (stage wt D i j) ∧ Below W.heap.size W wr) (fun q _ => D - (intOf q).toNat)
      case atStart => exact ⟨0, rfl, by omega, vs, HT.out, HB.out⟩
      case round =>
        obtain ⟨j, rfl, hj, vs2, hT2, hB2⟩ := hrel
        by_cases hjD : j < D
        · obtain ⟨c1, f1⟩ := hT2.at_ i hin
          have ho := hT2.2.2.1 i hin
          obtain ⟨u, hu⟩ : ∃ u, vs2 i = u := ⟨_, rfl⟩
          rw [hu] at c1 ho
          have HU := Lib.hid hu
          have HT2 := Lib.hid hT2
          have HB2 := Lib.hid hB2
          have HO := Lib.hid ho
          have hsz := hB2.size
          have hlt : (stage wt D i j i).length ≤ 1000000 := by rw [stage_here]; omega
          have HWE := Lib.hid (show mwt s i j = wt i j by rw [← HWT.out])
          have HG := Lib.hid (show ∀ w1, wr.drew.grownBy w1 u.ownBlock → w1.cell? ⟨g, i, none⟩ = some u ∧ w1.frozen? ⟨g, i, none⟩ = false by
            intro w1 hg1
            obtain ⟨h0, ⟨cur, h1, h2, h3⟩, h4, h5⟩ := hT2
            have hne : some g ≠ u.ownBlock := by rw [← hu]; exact Kd.R_ne (h4 i hin) h1 (by decide)
            have k1 := blk_grown (w := wr.drew) h1 hg1 hne
            exact ⟨by rw [blk_cell k1, h3 i hin, hu], blk_frozen k1 i⟩)
          have q0 : ∀ o : Obj, (wr.alloc o).cell? ⟨g, i, none⟩ = some u := fun o => pw_cell_below (below_alloc (Below.refl _ wr) o) c1
          clear hu hT2 hB2 ho
          go_wp2_with fail
          go_region_law (first
            | (refine own_append_stepAt (w0 := W) wr.drew _ W.heap.size rfl _ _ 55 2 rfl Tryz.underlying55 infoI64 _ _ (wt i j) wr.heap.size rfl rfl rfl rfl (HO.out.below (below_drew (Below.refl _ _))) (below_drew HB2.out) hsz hlt ?_; intro v1 w1 ho1 hb1 hg1 hat1; obtain ⟨A5, c5, hv5, -, -⟩ := ho1.reads_n (n := j + 1) (by rw [List.length_append, stage_here]; rfl); subst hv5; obtain ⟨q5, f5⟩ := HG.out w1 hg1; have HO1 := Lib.hid ho1; have HB3 := Lib.hid hb1; have HG1 := Lib.hid hg1; have HA1 := Lib.hid hat1; clear ho1 hb1 hg1 hat1)
            | (go_simp; go_at_call 38; refine (weight_any s i j _ (by omega) (by omega) (by omega) (by omega)).mono ?_; rw [HWE.out]; rintro e w4 ⟨rfl, rfl⟩))
          all_goals
            go_wp2_with fail
            go_roundw
            case rel =>
              refine ⟨j + 1, by go_num, by omega, _, ((Tb.put (HT2.out.below (below_drew (Below.refl _ _))) i hin HO1.out (by rw [HU.out]; exact HG1.out) (by rw [HU.out]; exact HA1.out)).congr (fun r _ => stage_put wt D i j r)), HB3.out.setCell (p := ⟨g, i, none⟩) HT2.out.1 _⟩
            case measure => simp [intOf]; omega
        · have HT2 := Lib.hid (hT2.congr (f' := stage wt D (i + 1) 0) (fun r _ => by rw [show j = D by omega]; exact stage_next wt D i r))
          have HB2 := Lib.hid hB2
          clear hT2 hB2
          go_wp2_with fail
          go_roundw
          case rel => exact ⟨i + 1, by go_num, by omega, vs2, HT2.out, HB2.out⟩
          case measure => simp [intOf]; omega
    · have HF := Lib.hid (HT.out.congr (f' := fun r => mrow c t r) (fun r hr => by rw [HMR.out, show i = n by omega, stage_full wt D n r hr, ← HWT.out]))
      go_wp2_with fail
      go_ret
      exact ⟨g, vs, rfl, HF.out, HB.out⟩

end Go.Proofs.YtdfgmdmcdnnhfaaGreat

namespace Go.Proofs.YtdfgmdmcdnnhfaaGreat
open Go.RowKit Go.Shelf Go.Proofs.YtdfgmdmcdnnhfaaGreatW.PrintWords Go.Proofs.YtdfgmdmcdnnhfaaGreatW.PrintLast Go.Proofs.YtdfgmdmcdnnhfaaGreatW.PrintMore
set_option linter.unusedVariables false
set_option linter.unusedSimpArgs false
set_option maxRecDepth 100000
attribute [local go_sem] gb_max2 gb_min2 gb_max_two gb_min_two gb_max_three gb_min_three

theorem rweight_any (s t r j : Int) (w : World) (t0 : 0 ≤ t) (t1 : t ≤ 30) (r0 : 0 ≤ r) (r1 : r ≤ 255) (j0 : 0 ≤ j) (j1 : j ≤ 15) :
    Calls Tryz.prog 87 #[.int .u64 s, .int .i64 t, .int .i64 r, .int .i64 j] w fun e w' => e = .returned (.int .i64 (mwt (rat s t) r j)) ∧ Below w.heap.size w w' := by
  obtain ⟨S, hS⟩ : ∃ S, rat s t = S := ⟨_, rfl⟩
  rw [hS]
  have HS := Lib.hid hS
  have hr := mwt_in S r j
  unfold mwt at hr ⊢
  obtain ⟨q, hq⟩ : ∃ q, rbelow S (64 * r + j) 131073 = q := ⟨_, rfl⟩
  have HQ := Lib.hid hq
  rw [hq] at hr ⊢
  have h1 := hr.1
  have h2 := hr.2
  clear hq hr hS
  go_enter Tryz.func87, Tryz.ntmps87
  go_wp2_with fail
  refine (rderive1_any s t _ _ _ (by rw [blk_cell (heap_alloc_new _ _)]; rfl)).mono ?_
  rw [HS.out]
  rintro e w1 ⟨rfl, hd1⟩
  have HB1 := Lib.hid (show Below w.heap.size w w1 from below_then (below_alloc (Below.refl _ w) _) (by simp) hd1.below)
  clear hd1
  go_wp2_with fail
  refine (rrbelow_any _ _ _ _ (by omega) (by omega)).mono ?_
  rw [HQ.out]
  rintro e w2 ⟨rfl, hd2⟩
  have HB2 := Lib.hid (below_then HB1.out HB1.out.size hd2.below)
  clear hd2
  go_wp2_with fail
  go_ret
  exact ⟨rfl, HB2.out⟩

/-- A configuration's box at B. -/
def Bx (c : Cfg) (B : Nat) (W : World) : Prop := W.heap[B]? = some (.cells #[.int .u64 c.seed, .int .i64 c.vocab, .int .i64 c.dim, .int .i64 c.layers, .int .i64 c.top, .int .i64 c.heat] 24 (0, 0))
theorem Bx.below {c : Cfg} {B : Nat} {W W' : World} (h : Bx c B W) (hb : Below W.heap.size W W') : Bx c B W' := blk_below h hb
theorem Bx.new (c : Cfg) (W : World) : Bx c W.heap.size (W.alloc (.cells #[.int .u64 c.seed, .int .i64 c.vocab, .int .i64 c.dim, .int .i64 c.layers, .int .i64 c.top, .int .i64 c.heat] 24)) := heap_alloc_new W _
theorem Bx.at_ {c : Cfg} {B : Nat} {W : World} (h : Bx c B W) : W.cell? ⟨B, 0, none⟩ = some (.int .u64 c.seed) ∧ W.cell? ⟨B, 1, none⟩ = some (.int .i64 c.vocab) ∧ W.cell? ⟨B, 2, none⟩ = some (.int .i64 c.dim) ∧ W.cell? ⟨B, 3, none⟩ = some (.int .i64 c.layers) ∧ W.cell? ⟨B, 4, none⟩ = some (.int .i64 c.top) ∧ W.cell? ⟨B, 5, none⟩ = some (.int .i64 c.heat) := by
  refine ⟨?_, ?_, ?_, ?_, ?_, ?_⟩ <;> rw [blk_cell h] <;> rfl

def RowR (xs : List Int) (w : World) (e : Ending) (w' : World) : Prop := ∃ v, e = .returned v ∧ Own w' w.heap.size 2 v xs ∧ Below w.heap.size w w'
theorem rrow_any (c : Cfg) (hok : c.ok) (t r : Int) (w : World) (t0 : 0 ≤ t) (t1 : t ≤ 30) (r0 : 0 ≤ r) (r1 : r ≤ 255) :
    Calls Tryz.prog 52 #[c.v, .int .i64 t, .int .i64 r] w (RowR (mrow c t r) w) := by
  obtain ⟨D, hD⟩ : ∃ D : Nat, c.dim = D := ⟨c.dim.toNat, by have := hok.2.1; omega⟩
  have hD16 : D ≤ 16 := by have := hok.2.1; omega
  obtain ⟨wt, hwt⟩ : ∃ wt : Nat → Int, (fun j : Nat => mwt (rat c.seed t) r j) = wt := ⟨_, rfl⟩
  have HMR := Lib.hid (show mrow c t r = tab D wt by unfold mrow; rw [hD, ← hwt]; rfl)
  have HWT := Lib.hid (fun j : Nat => show mwt (rat c.seed t) r j = wt j by rw [← hwt])
  have HBX := Lib.hid (Bx.new c w)
  unfold RowR
  unfold Cfg.v
  obtain ⟨W0, hW0⟩ : ∃ W0, w.alloc (.cells #[.int .u64 c.seed, .int .i64 c.vocab, .int .i64 c.dim, .int .i64 c.layers, .int .i64 c.top, .int .i64 c.heat] 24) = W0 := ⟨_, rfl⟩
  have HBE := Lib.hid (show Below w.heap.size w W0 by rw [← hW0]; exact below_alloc (Below.refl _ w) _)
  rw [hW0] at HBX
  have HW0 := Lib.hid hW0
  have HD := Lib.hid hD
  clear hok hwt hD hW0
  go_enter Tryz.func52, Tryz.ntmps52
  go_wp2_with fail
  rw [HW0.out]
  go_loopw [7, 8] (fun v q wr => ∃ j : Nat, q = .int .i64 j ∧ j ≤ D ∧ Own wr W0.heap.size 2 v (tab j wt) ∧ Below W0.heap.size W0 wr) (fun _ q _ => D - (intOf q).toNat)
  case atStart => exact ⟨0, rfl, by omega, Kd.R_nil _ _ _ _ _, Below.refl _ _⟩
  case round =>
    obtain ⟨j, rfl, hj, ho, hb⟩ := hrel
    obtain ⟨x0, x1, x2, x3, x4, x5⟩ := (HBX.out.below hb).at_
    rw [HD.out] at x2
    have hsz := hb.size
    have HO := Lib.hid ho
    have HB := Lib.hid hb
    clear ho hb
    by_cases hjD : j < D
    · have HWj := Lib.hid (HWT.out j)
      go_wp2_with fail
      refine (rweight_any c.seed t r j _ (by omega) (by omega) (by omega) (by omega) (by omega) (by omega)).mono ?_
      rw [HWj.out]
      rintro e w2 ⟨rfl, hb2⟩
      have HO2 := Lib.hid (HO.out.below hb2)
      have HB2 := Lib.hid (below_then HB.out hsz hb2)
      have hsz2 := HB2.out.size
      have hlt : (tab j wt).length ≤ 1000000 := by rw [tab_len]; omega
      clear hb2 x0 x1 x2 x3 x4 x5
      go_wp2_with (at_builtin; refine own_append (w0 := W0) w2 _ W0.heap.size rfl _ _ 55 2 rfl Tryz.underlying55 infoI64 _ _ (wt j) w2.heap.size rfl rfl rfl rfl HO2.out HB2.out hsz2 hlt ?_; intro v1 w1 ho1 hb1; have HO1 := Lib.hid ho1; have HB1 := Lib.hid hb1; clear ho1 hb1)
      go_roundw
      case rel => exact ⟨j + 1, by go_num, by omega, by rw [tab_succ]; exact HO1.out, HB1.out⟩
      case measure => simp [intOf]; omega
    · have HF := Lib.hid (show tab j wt = mrow c t r by rw [HMR.out, show j = D by omega])
      go_wp2_with fail
      go_ret
      exact ⟨_, rfl, by rw [← HF.out]; exact HO.out.lower HBE.out.size, below_then HBE.out HBE.out.size HB.out⟩

theorem rtoken_any (c : Cfg) (hok : c.ok) (t : Int) (w : World) :
    Calls Tryz.prog 33 #[c.v, .int .i64 t] w (RowR (mtok c t) w) := by
  have HR := Lib.hid (fun (r0 : 0 ≤ t) (r1 : t < c.vocab) (W : World) => rrow_any c hok 0 t W (by omega) (by omega) r0 (by have := hok.1; omega))
  have HBX := Lib.hid (Bx.new c w)
  have HV := Lib.hid (show c.v = .agg #[.int .u64 c.seed, .int .i64 c.vocab, .int .i64 c.dim, .int .i64 c.layers, .int .i64 c.top, .int .i64 c.heat] from rfl)
  unfold RowR
  rw [HV.out] at HR ⊢
  obtain ⟨W0, hW0⟩ : ∃ W0, w.alloc (.cells #[.int .u64 c.seed, .int .i64 c.vocab, .int .i64 c.dim, .int .i64 c.layers, .int .i64 c.top, .int .i64 c.heat] 24) = W0 := ⟨_, rfl⟩
  have HBE := Lib.hid (show Below w.heap.size w W0 by rw [← hW0]; exact below_alloc (Below.refl _ w) _)
  rw [hW0] at HBX
  have HW0 := Lib.hid hW0
  obtain ⟨x0, x1, x2, x3, x4, x5⟩ := HBX.out.at_
  clear hok hW0
  by_cases h0 : t < 0
  · have HF := Lib.hid (show mtok c t = [] by unfold mtok; rw [if_neg (by omega)])
    go_enter Tryz.func33, Tryz.ntmps33
    go_wp2_with fail
    rw [HW0.out]
    go_wp2_with fail
    go_ret
    exact ⟨_, rfl, by rw [HF.out]; exact Kd.R_nil _ _ _ _ _, HBE.out⟩
  · by_cases h1 : c.vocab ≤ t
    · have HF := Lib.hid (show mtok c t = [] by unfold mtok; rw [if_neg (by omega)])
      go_enter Tryz.func33, Tryz.ntmps33
      go_wp2_with fail
      rw [HW0.out]
      go_wp2_with fail
      go_ret
      exact ⟨_, rfl, by rw [HF.out]; exact Kd.R_nil _ _ _ _ _, HBE.out⟩
    · have HF := Lib.hid (show mtok c t = mrow c 0 t by unfold mtok; rw [if_pos (by omega)])
      go_enter Tryz.func33, Tryz.ntmps33
      go_wp2_with fail
      rw [HW0.out]
      go_wp2_with fail
      refine (HR.out (by omega) (by omega) _).mono ?_
      unfold RowR
      rintro e w2 ⟨v2, rfl, ho2, hb2⟩
      have HO2 := Lib.hid ho2
      have HB2 := Lib.hid hb2
      clear ho2 hb2
      go_wp2_with fail
      go_ret
      exact ⟨_, rfl, by rw [HF.out]; exact HO2.out.lower HBE.out.size, below_then HBE.out HBE.out.size HB2.out⟩

end Go.Proofs.YtdfgmdmcdnnhfaaGreat

namespace Go.Proofs.YtdfgmdmcdnnhfaaGreat
open Go.RowKit Go.Shelf Go.Proofs.YtdfgmdmcdnnhfaaGreatW.PrintWords Go.Proofs.YtdfgmdmcdnnhfaaGreatW.PrintLast Go.Proofs.YtdfgmdmcdnnhfaaGreatW.PrintMore
set_option linter.unusedVariables false
set_option linter.unusedSimpArgs false
set_option maxRecDepth 100000
attribute [local go_sem] gb_max2 gb_min2 gb_max_two gb_min_two gb_max_three gb_min_three

/-- Tables. -/
abbrev KT : Kd (List (List Int)) := Kd.slice 55 (Kd.slice 2 (Kd.int .i64))
theorem infoTab : (Tryz.prog.info? 54).map (fun i => (i.zero, i.size, i.bytes)) = some (some (.slice none 0 0), 1, 24) := by kernel_rfl
theorem Tb.toR {W : World} {base g n : Nat} {vs : Nat → Value} {f : Nat → List Int} (h : Tb W base g n vs f) (hn : n ≤ 1000000) : (Kd.slice 2 (Kd.int .i64)).R 55 W base (fun _ => True) (.slice (some ⟨g, 0, none⟩) n n) ((List.range n).map f) := by
  obtain ⟨h0, ⟨cur, h1, h2, h3⟩, h4, h5⟩ := h
  refine ⟨fun _ _ => trivial, (List.range n).map vs, ⟨by simp [Kd.slice], .inr ⟨g, n, cur, by simp, h0, h1, by simp, by unfold maxLen; omega, by simp [Kd.slice, h2], ?_⟩⟩, by simp [Kd.slice], fun j p hj => ?_⟩
  · apply List.ext_getElem
    · simp [Kd.slice, h2]
    · intro j hj1 hj2
      have hjn : j < n := by simpa using hj2
      have h6 := h3 j hjn
      rw [Array.getElem?_eq_getElem (by omega)] at h6
      simp only [List.getElem_take, Array.getElem_toList, List.getElem_map, List.getElem_range]
      exact Option.some.inj h6
  · obtain ⟨hj1, hj2⟩ := List.getElem?_eq_some_iff.1 hj
    have hjn : j < n := by simpa using hj1
    have hp : f j = p := by simpa using hj2
    subst hp
    refine ⟨vs j, ?_, Kd.R_mono (Kd.R_types (h4 j hjn) h1 (by decide)) (fun k hk => ⟨trivial, fun e => hk.2 (Option.some.inj e)⟩)⟩
    rw [show (Kd.slice 2 (Kd.int .i64)).sz = 1 from rfl, Nat.mul_one, List.drop_eq_getElem_cons (by simpa using hjn), List.take_succ_cons]
    simp

/-- The block of a model. -/
def moCells (c : Cfg) (v : Value) : Array Value := #[.int .u64 c.seed, .int .i64 c.vocab, .int .i64 c.dim, .int .i64 c.layers, .int .i64 c.top, .int .i64 c.heat, v]
/-- A model lies at p. -/
def Mo (W : World) (p : Nat) (c : Cfg) : Prop := ∃ A k, W.heap[p]? = some (.cells (moCells c (.slice A (mtables c).length k)) 52 (0, 0)) ∧ (mtables c).length ≤ k ∧ KT.C W A (mtables c).length (mtables c)
theorem Mo.below {W W' : World} {p : Nat} {c : Cfg} (h : Mo W p c) (hb : Below W.heap.size W W') : Mo W' p c := by
  obtain ⟨A, k, h1, h2, h3⟩ := h
  exact ⟨A, k, blk_below h1 hb, h2, Kd.C_below h3 hb⟩
theorem Mo.at_ {W : World} {p : Nat} {c : Cfg} (h : Mo W p c) : W.cell? ⟨p, 0, none⟩ = some (.int .u64 c.seed) ∧ W.cell? ⟨p, 1, none⟩ = some (.int .i64 c.vocab) ∧ W.cell? ⟨p, 2, none⟩ = some (.int .i64 c.dim) ∧ W.cell? ⟨p, 3, none⟩ = some (.int .i64 c.layers) ∧ W.cell? ⟨p, 4, none⟩ = some (.int .i64 c.top) ∧ W.cell? ⟨p, 5, none⟩ = some (.int .i64 c.heat) ∧
    ∃ A k, W.cell? ⟨p, 6, none⟩ = some (.slice A (mtables c).length k) ∧ (mtables c).length ≤ k ∧ KT.C W A (mtables c).length (mtables c) := by
  obtain ⟨A, k, h1, h2, h3⟩ := h
  refine ⟨?_, ?_, ?_, ?_, ?_, ?_, A, k, ?_, h2, h3⟩ <;> rw [blk_cell h1] <;> rfl
theorem mtables_len (c : Cfg) : (mtables c).length = 2 + (6 * c.layers).toNat := by simp [mtables]; omega

/-- The places' table, half scaled. -/
def pst (wt : Nat → Nat → Int) (D i j r : Nat) : List Int := mixl D (fun k => fmul (wt r k) 16384) (wt r) (if r < i then D else if r = i then j else 0)
theorem pst_len (wt : Nat → Nat → Int) (D i j r : Nat) : (pst wt D i j r).length = D := mixl_len _ _ _ _
theorem pst_start (wt : Nat → Nat → Int) (D r : Nat) : tab D (wt r) = pst wt D 0 0 r := by
  unfold pst; rw [if_neg (Nat.not_lt_zero _)]; split <;> exact (mixl_zero _ _ _).symm
theorem pst_get (wt : Nat → Nat → Int) (D i j : Nat) (h : j < D) : (pst wt D i j i).getD j 0 = wt i j := by
  unfold pst; rw [if_neg (Nat.lt_irrefl _), if_pos rfl]; exact mixl_get _ _ _ _ h
theorem pst_put (wt : Nat → Nat → Int) (D i j r : Nat) : (if r = i then (pst wt D i j i).set j (fmul (wt i j) 16384) else pst wt D i j r) = pst wt D i (j + 1) r := by
  unfold pst
  by_cases e : r = i
  · subst e; simp only [if_true, Nat.lt_irrefl, if_false]; exact mixl_set D (fun k => fmul (wt r k) 16384) (wt r) j
  · rw [if_neg e, if_neg e, if_neg e]
theorem pst_next (wt : Nat → Nat → Int) (D i r : Nat) : pst wt D i D r = pst wt D (i + 1) 0 r := by
  unfold pst
  by_cases h : r < i
  · rw [if_pos h, if_pos (by omega)]
  · by_cases e : r = i
    · subst e; rw [if_neg h, if_pos rfl, if_pos (by omega)]
    · rw [if_neg h, if_neg e, if_neg (by omega)]; split <;> rfl
theorem pst_full (wt : Nat → Nat → Int) (D n r : Nat) (h : r < n) : pst wt D n 0 r = tab D (fun k => fmul (wt r k) 16384) := by
  unfold pst; rw [if_pos h]; exact mixl_full _ _ _ _ (Nat.le_refl _)

def NewYes (c : Cfg) (w : World) (e : Ending) (w' : World) : Prop := ∃ p, e = .returned (.tuple #[.pointer (some ⟨p, 0, none⟩), .int .i64 0]) ∧ Mo w' p c ∧ Below w.heap.size w w'
def NewNo (w : World) (e : Ending) (w' : World) : Prop := e = .returned (.tuple #[.pointer none, .int .i64 1]) ∧ Below w.heap.size w w'

/-- What stands between two tables. -/
structure Nw (c : Cfg) (w : World) (B0 p : Nat) (v : Value) (ts : List (List (List Int))) (W : World) : Prop where
  box : Bx c B0 W
  blk : W.heap[p]? = some (.cells (moCells c v) 52 (0, 0))
  row : KT.R 54 W w.heap.size (fun _ => True) v ts
  bel : Below w.heap.size w W
  ge : w.heap.size ≤ p
theorem Nw.below {c : Cfg} {w W W' : World} {B0 p : Nat} {v : Value} {ts : List (List (List Int))} (h : Nw c w B0 p v ts W) (hb : Below W.heap.size W W') : Nw c w B0 p v ts W' :=
  ⟨h.box.below hb, blk_below h.blk hb, Kd.R_below h.row hb, below_then h.bel h.bel.size hb, h.ge⟩

def ntabs (c : Cfg) (i : Nat) : List (List (List Int)) := [mtab c 0 c.vocab.toNat, (List.range 256).map fun r : Nat => mplace c r] ++ (List.range i).map fun t : Nat => mtab c (2 + t) c.dim.toNat
theorem ntabs_succ (c : Cfg) (i : Nat) : ntabs c (i + 1) = ntabs c i ++ [mtab c (2 + i) c.dim.toNat] := by
  unfold ntabs; rw [show List.range (i + 1) = List.range i ++ [i] from List.range_succ, List.map_append, ← List.append_assoc]; simp only [List.map_cons, List.map_nil]
theorem ntabs_end (c : Cfg) : ntabs c (6 * c.layers).toNat = mtables c := rfl
theorem mplace_eq (c : Cfg) (r : Int) : mplace c r = tab c.dim.toNat (fun k => fmul (mwt (rat c.seed 1) r k) 16384) := by
  unfold mplace vmap
  rw [mrow_len]
  exact tab_congr _ _ _ fun k hk => by unfold mrow; rw [tab_get _ _ _ hk]
/-- A literal of two tables. -/
theorem two_tabs {W : World} {base : Nat} {ok : Nat → Prop} {u0 u1 : Value} {t0 t1 : List (List Int)} (h0 : KT.M W base ok t0 [u0]) (h1 : KT.M W base ok t1 [u1]) (e : TypeId) :
    ReadsRow (KT.M (W.alloc (.cells #[u0, u1] e)) base ok) KT.sz (W.alloc (.cells #[u0, u1] e)) (some ⟨W.heap.size, 0, none⟩) 2 [t0, t1] := by
  have hb : Below W.heap.size W (W.alloc (.cells #[u0, u1] e)) := (Below.refl _ W).alloc (Nat.le_refl _) _
  have h2 := heap_alloc_new W (.cells #[u0, u1] e)
  refine ⟨rfl, by simp, fun _ => ⟨_, rfl, fun j p hj => ?_⟩⟩
  match j, hj with
  | 0, hj =>
    obtain rfl : t0 = p := by simpa using hj
    refine ⟨[u0], rfl, Kd.M_below h0 hb, fun i u hu => ?_⟩
    rw [show KT.sz = 1 from rfl, add_plain, blk_cell h2]
    cases i with
    | zero => simpa using hu
    | succ i => simp at hu
  | 1, hj =>
    obtain rfl : t1 = p := by simpa using hj
    refine ⟨[u1], rfl, Kd.M_below h1 hb, fun i u hu => ?_⟩
    rw [show KT.sz = 1 from rfl, add_plain, blk_cell h2]
    cases i with
    | zero => simpa using hu
    | succ i => simp at hu
  | j + 2, hj => simp at hj
theorem Tb.toM {W : World} {base base' g n : Nat} {vs : Nat → Value} {f : Nat → List Int} (h : Tb W base' g n vs f) (hn : n ≤ 1000000) (hb : base ≤ base') : KT.M W base (fun _ => True) ((List.range n).map f) [.slice (some ⟨g, 0, none⟩) n n] := ⟨_, rfl, Kd.R_lower (h.toR hn) hb⟩

end Go.Proofs.YtdfgmdmcdnnhfaaGreat
