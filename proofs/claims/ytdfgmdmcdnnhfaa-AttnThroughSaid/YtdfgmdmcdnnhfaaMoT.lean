/- (*Model).table: a table of one's own. -/
import Derived.Test.YtdfgmdmcdnnhfaaMoA
import Derived.Deep.RegionLaw
namespace Go.Proofs.Ytdfgmdmcdnnhfaa
open Go.RowKit Go.Shelf Go.Proofs.YtdfgmdmcdnnhfaaW.PrintWords Go.Proofs.YtdfgmdmcdnnhfaaW.PrintLast Go.Proofs.YtdfgmdmcdnnhfaaW.PrintMore
set_option linter.unusedVariables false
set_option linter.unusedSimpArgs false
set_option maxRecDepth 100000
attribute [local go_sem] gb_max2 gb_min2 gb_max_two gb_min_two gb_max_three gb_min_three

/-- A table of one's own: block g holds n rows vs; row r is f r. -/
def Tb (W : World) (base g n : Nat) (vs : Nat → Value) (f : Nat → List Int) : Prop :=
  base ≤ g ∧ (∃ cur : Array Value, W.heap[g]? = some (.cells cur 25 (0, 0)) ∧ cur.size = n ∧ ∀ r, r < n → cur[r]? = some (vs r)) ∧
  (∀ r, r < n → Own W base 2 (vs r) (f r)) ∧ (∀ r r', r < n → r' < n → r ≠ r' → NeRow (vs r) (vs r'))
theorem Own.raw {w : World} {base e : Nat} {v : Value} {xs : List Int} (h : Own w base e v xs) : w.ownsRow base e 1 v xs.length (encs (Value.int .i64) xs) := Kd.own_of_R (enc := Value.int .i64) (h1 := fun _ => rfl) h
theorem Own.of_raw {w : World} {base e : Nat} {v : Value} {xs : List Int} (h : w.ownsRow base e 1 v xs.length (encs (Value.int .i64) xs)) : Own w base e v xs := Kd.R_of_own (enc := Value.int .i64) (h1 := fun _ => rfl) h (fun _ _ => trivial)
theorem Tb.below {W W' : World} {base g n : Nat} {vs : Nat → Value} {f : Nat → List Int} (h : Tb W base g n vs f) (hb : Below W.heap.size W W') : Tb W' base g n vs f := by
  obtain ⟨h0, ⟨cur, h1, h2, h3⟩, h4, h5⟩ := h
  exact ⟨h0, ⟨cur, blk_below h1 hb, h2, h3⟩, fun r hr => (h4 r hr).below hb, h5⟩
theorem Tb.congr {W : World} {base g n : Nat} {vs : Nat → Value} {f f' : Nat → List Int} (h : Tb W base g n vs f) (he : ∀ r, r < n → f r = f' r) : Tb W base g n vs f' := by
  obtain ⟨h0, h1, h4, h5⟩ := h
  exact ⟨h0, h1, fun r hr => by rw [← he r hr]; exact h4 r hr, h5⟩
theorem Tb.at_ {W : World} {base g n : Nat} {vs : Nat → Value} {f : Nat → List Int} (h : Tb W base g n vs f) (r : Nat) (hr : r < n) : W.cell? ⟨g, r, none⟩ = some (vs r) ∧ W.frozen? ⟨g, r, none⟩ = false := by
  obtain ⟨h0, ⟨cur, h1, h2, h3⟩, h4, h5⟩ := h
  exact ⟨by rw [blk_cell h1]; exact h3 r hr, blk_frozen h1 r⟩
theorem Tb.made (W : World) (n : Nat) (base : Nat) (hb : base ≤ W.heap.size) : Tb (W.alloc (.cells (madeCells #[.slice none 0 0] n) 25)) base W.heap.size n (fun _ => .slice none 0 0) (fun _ => []) := by
  refine ⟨hb, ⟨_, heap_alloc_new W _, by simp [madeCells], fun r hr => ?_⟩, fun r _ => Kd.R_nil _ _ _ _ _, fun r r' _ _ _ => ne_nil _⟩
  simp [madeCells, hr, Nat.mod_one]
theorem Tb.block {W : World} {base g n : Nat} {vs : Nat → Value} {f : Nat → List Int} (h : Tb W base g n vs f) (r : Nat) (hr : r < n) : (vs r).ownBlock = none ∨ ∃ b, (vs r).ownBlock = some b ∧ b ≠ g ∧ b < W.heap.size ∧ base ≤ b := by
  obtain ⟨h0, ⟨cur, h1, h2, h3⟩, h4, h5⟩ := h
  cases hv : (vs r).ownBlock with
  | none => exact .inl rfl
  | some b => exact .inr ⟨b, rfl, fun e => Kd.R_ne (h4 r hr) h1 (by decide) (by rw [hv, e]), own_lt (h4 r hr).raw b hv, own_base (h4 r hr).raw b hv⟩
/-- Behind an append to row r, and the store of what it left. -/
theorem Tb.put {W W1 : World} {base g n : Nat} {vs : Nat → Value} {f : Nat → List Int} (h : Tb W base g n vs f) (r : Nat) (hr : r < n) {v1 : Value} {ys : List Int} (ho : Own W1 base 2 v1 ys) (hg : W.grownBy W1 (vs r).ownBlock) (hat : v1.ownBlock = (vs r).ownBlock ∨ ∃ b, v1.ownBlock = some b ∧ W.heap.size ≤ b) :
    Tb (W1.setCell ⟨g, r, none⟩ v1) base g n (fun k => if k = r then v1 else vs k) (fun k => if k = r then ys else f k) := by
  have hgne : some g ≠ (vs r).ownBlock := by
    rcases h.block r hr with e | ⟨b, e, hne, _⟩
    · rw [e]; simp
    · rw [e]; intro he; exact hne (Option.some.inj he).symm
  obtain ⟨h0, ⟨cur, h1, h2, h3⟩, h4, h5⟩ := h
  have k1 := blk_grown h1 hg hgne
  refine ⟨h0, ⟨_, blk_set k1 r v1, by simpa using h2, fun k hk => ?_⟩, fun k hk => ?_, fun k k' hk hk' hne => ?_⟩
  · rw [Array.getElem?_setIfInBounds]
    by_cases e : k = r
    · subst e; simp [h2, hk]
    · rw [if_neg (Ne.symm e)]; show cur[k]? = some (if k = r then v1 else vs k); rw [if_neg e]; exact h3 k hk
  · dsimp only
    by_cases e : k = r
    · subst e; rw [if_pos rfl, if_pos rfl]; exact Kd.R_set ho k1 (by decide) k v1
    · rw [if_neg e, if_neg e]
      refine Kd.R_set (Own.of_raw (own_other (h4 k hk).raw hg (ne_other (h5 r k hr hk (Ne.symm e))))) k1 (by decide) r v1
  · dsimp only
    by_cases e : k = r
    · subst e
      rw [if_pos rfl, if_neg (Ne.symm hne)]
      exact ne_append (h5 k k' hk hk' hne) hat (h4 k' hk').raw
    · rw [if_neg e]
      by_cases e' : k' = r
      · subst e'
        rw [if_pos rfl]
        exact ne_append' (h5 k k' hk hk' hne) hat (h4 k hk).raw
      · rw [if_neg e']; exact h5 k k' hk hk' hne
/-- A store into row r. -/
theorem Tb.poke {W : World} {base g n : Nat} {vs : Nat → Value} {f : Nat → List Int} (h : Tb W base g n vs f) (r : Nat) (hr : r < n) {b cap : Nat} (hv : vs r = .slice (some ⟨b, 0, none⟩) (f r).length cap) (j : Nat) (x : Int) :
    Tb (W.setCell ⟨b, j, none⟩ (.int .i64 x)) base g n vs (fun k => if k = r then (f r).set j x else f k) := by
  have hob : (vs r).ownBlock = some b := by rw [hv]; rfl
  have hgne : g ≠ b := by
    rcases h.block r hr with e | ⟨b', e, hne, _⟩
    · rw [e] at hob; cases hob
    · rw [e] at hob; rw [← Option.some.inj hob]; exact Ne.symm hne
  obtain ⟨h0, ⟨cur, h1, h2, h3⟩, h4, h5⟩ := h
  refine ⟨h0, ⟨cur, blk_far h1 hgne _, h2, h3⟩, fun k hk => ?_, h5⟩
  dsimp only
  by_cases e : k = r
  · subst e
    rw [if_pos rfl, hv]
    have := h4 k hk
    rw [hv] at this
    have h6 := this.store j x
    have h7 : (f k).length = ((f k).set j x).length := by simp
    exact h6
  · rw [if_neg e]
    exact (h4 k hk).move fun q hq => Below.heap_setCell _ _ _ q (fun e2 => h5 r k hr hk (Ne.symm e) b hob (by rw [hq, e2]))

/-- A table half made: rows below i whole, row i up to j. -/
def stage (wt : Nat → Nat → Int) (D i j r : Nat) : List Int := tab (if r < i then D else if r = i then j else 0) (wt r)
theorem stage_put (wt : Nat → Nat → Int) (D i j r : Nat) : (if r = i then stage wt D i j i ++ [wt i j] else stage wt D i j r) = stage wt D i (j + 1) r := by
  unfold stage
  by_cases e : r = i
  · subst e; simp only [if_true, Nat.lt_irrefl, if_false]; exact (tab_succ j (wt r)).symm
  · rw [if_neg e, if_neg e, if_neg e]
theorem stage_next (wt : Nat → Nat → Int) (D i r : Nat) : stage wt D i D r = stage wt D (i + 1) 0 r := by
  unfold stage
  by_cases h : r < i
  · rw [if_pos h, if_pos (by omega)]
  · by_cases e : r = i
    · subst e; rw [if_neg h, if_pos rfl, if_pos (by omega)]
    · rw [if_neg h, if_neg e, if_neg (by omega)]
      split <;> rfl
theorem stage_full (wt : Nat → Nat → Int) (D n r : Nat) (h : r < n) : stage wt D n 0 r = tab D (wt r) := by unfold stage; rw [if_pos h]
theorem stage_here (wt : Nat → Nat → Int) (D i j : Nat) : (stage wt D i j i).length = j := by unfold stage; rw [tab_len, if_neg (Nat.lt_irrefl _), if_pos rfl]
theorem stage_none (wt : Nat → Nat → Int) (D r : Nat) : [] = stage wt D 0 0 r := by unfold stage; rw [if_neg (Nat.not_lt_zero _)]; split <;> rfl

/-- An append to a row of one's own, in a region that draws, with what it turned. -/
theorem own_append_stepAt {P : Program} {ops : Array Oper} {o : Oper} {a : Act} {Q : Exit → Act → World → Prop} {K : Act → World → Prop} {w0 : World} (W W' : World) (base : Nat) (hw : Region.wanted o (yielded ops a.tmps) = true) (s x : Operand) (t e : TypeId)
    (ho : o.op = .call { callee := .builtin .append, args := #[s, x], argTypes := #[t, t] })
    (ht : P.underlying t = some (.slice e)) (hinfo : (P.info? e).map (fun i => (i.zero, i.size, i.bytes)) = some (some (.int .i64 0), 1, 8))
    (v : Value) (xs : List Int) (y : Int) (g : Nat) (hs : a.eval s = v) (hx : a.eval x = .slice (some ⟨g, 0, none⟩) 1 1) (hg : g = W.heap.size) (hW : W' = W.alloc (.cells #[.int .i64 y] e))
    (HO : Own W base e v xs) (HB : Below base w0 W) (hbase : base ≤ W.heap.size) (hl : xs.length ≤ 1000000)
    (h : ∀ v1 w1, Own w1 base e v1 (xs ++ [y]) → Below base w0 w1 → W.grownBy w1 v.ownBlock → (v1.ownBlock = v.ownBlock ∨ ∃ b, v1.ownBlock = some b ∧ W.heap.size ≤ b) → K (a.put o.dst v1) w1) :
    if Region.wanted o (yielded ops a.tmps) = true then Oper.wp P o a W' K Q else K (a.put o.dst undef) W' := by
  subst hW hg
  refine step_append_cells (w0 := w0) base hw s x t e (.int .i64 0) 1 8 ho ht hinfo rfl (by decide) (by decide) v xs.length (nums .i64 xs) [.int .i64 y] hs hx rfl (by simp [Value.oneCell']) (Kd.own_of_R (enc := Value.int .i64) (h1 := fun _ => rfl) HO) HB hbase (by omega) ?_
  intro v1 w1 hr hb hg hat
  refine h v1 w1 (Kd.R_of_own (enc := Value.int .i64) (h1 := fun _ => rfl) ?_ (fun _ _ => trivial)) hb hg hat
  rw [List.length_append]
  simpa [encs, nums] using hr

def TabR (W : World) (c : Cfg) (t : Int) (n : Nat) (e : Ending) (w' : World) : Prop := ∃ g vs, e = .returned (.slice (some ⟨g, 0, none⟩) n n) ∧ Tb w' W.heap.size g n vs (fun r => mrow c t r) ∧ Below W.heap.size W w'

set_option maxRecDepth 100000 in
set_option maxHeartbeats 1000000 in
theorem table_any (W : World) (p : Nat) (c : Cfg) (hok : c.ok) (k0 : W.cell? ⟨p, 0, none⟩ = some (.int .u64 c.seed)) (k2 : W.cell? ⟨p, 2, none⟩ = some (.int .i64 c.dim)) (t : Int) (t0 : 0 ≤ t) (t1 : t ≤ 30) (n : Nat) (hn : n ≤ 256) :
    Calls Try.prog 44 #[.pointer (some ⟨p, 0, none⟩), .int .i64 t, .int .i64 n] W (TabR W c t n) := by
  obtain ⟨D, hD⟩ : ∃ D : Nat, c.dim = D := ⟨c.dim.toNat, by have := hok.2.1; omega⟩
  have hD16 : D ≤ 16 := by have := hok.2.1; omega
  obtain ⟨s, hs⟩ : ∃ s, rat c.seed t = s := ⟨_, rfl⟩
  obtain ⟨s0, hs0⟩ : ∃ s0, c.seed = s0 := ⟨_, rfl⟩
  have HMR := Lib.hid (show ∀ r : Nat, mrow c t r = tab D (fun j => mwt s r j) by intro r; unfold mrow; rw [hD, hs]; rfl)
  have HS := Lib.hid (show rat s0 t = s by rw [← hs0]; exact hs)
  rw [hD] at k2
  rw [hs0] at k0
  have K2 := Lib.hid (fun (W' : World) (hb : Below W.heap.size W W') => show W'.cell? ⟨p, 2, none⟩ = some (.int .i64 D) from pw_cell_below hb k2)
  clear hok hD hs hs0
  have hmk := print_make_of (P := Try.prog) 39 25 (.slice none 0 0) 24 Try.underlying39 infoRow rfl (by decide) n (by omega)
  unfold TabR
  go_enter Try.func44, Try.ntmps44
  go_wp2_with fail
  refine (derive1_any s0 t _ _ _ (by rw [blk_cell (heap_alloc_new _ _)]; rfl)).mono ?_
  rw [HS.out]
  rintro e w' ⟨rfl, rfl⟩
  obtain ⟨W0, hW0⟩ : ∃ W0, W.alloc (.cells #[.int .u64 t] 22) = W0 := ⟨_, rfl⟩
  have HB0 := Lib.hid (show Below W.heap.size W W0 by rw [← hW0]; exact below_alloc (Below.refl _ W) _)
  rw [hW0]
  clear hW0
  go_wp2_with fail
  obtain ⟨W1, hW1⟩ : ∃ W1, W0.alloc (.cells (madeCells #[.slice none 0 0] n) 25) = W1 := ⟨_, rfl⟩
  obtain ⟨g, hg⟩ : ∃ g, W0.heap.size = g := ⟨_, rfl⟩
  have HB1 := Lib.hid (show Below W.heap.size W W1 by rw [← hW1]; exact below_alloc HB0.out _)
  have HT1 := Lib.hid (show Tb W1 W.heap.size g n (fun _ => .slice none 0 0) (fun _ => []) by rw [← hW1, ← hg]; exact Tb.made W0 n _ HB0.out.size)
  rw [hW1, hg]
  clear hW1 hg hmk
  obtain ⟨wt, hwt⟩ : ∃ wt : Nat → Nat → Int, (fun r j : Nat => mwt s r j) = wt := ⟨_, rfl⟩
  have HWT := Lib.hid hwt
  clear hwt
  go_loopw [24] (fun q wr => ∃ i : Nat, q = .int .i64 i ∧ i ≤ n ∧ ∃ vs, Tb wr W.heap.size g n vs (stage wt D i 0) ∧ Below W.heap.size W wr) (fun q _ => n - (intOf q).toNat)
  case atStart => exact ⟨0, rfl, by omega, _, HT1.out.congr (fun r _ => stage_none wt D r), HB1.out⟩
  case round =>
    obtain ⟨i, rfl, hi, vs, hT, hB⟩ := hrel
    have HT := Lib.hid hT
    have HB := Lib.hid hB
    have q2 := K2.out _ hB
    clear hT hB
    by_cases hin : i < n
    · go_wp2_with fail
      go_loopw [32] (fun q wr => ∃ j : Nat, q = .int .i64 j ∧ j ≤ D ∧ ∃ vs, Tb wr W.heap.size g n vs (stage wt D i j) ∧ Below W.heap.size W wr) (fun q _ => D - (intOf q).toNat)
      case atStart => exact ⟨0, rfl, by omega, vs, HT.out, HB.out⟩
      case round =>
        obtain ⟨j, rfl, hj, vs2, hT2, hB2⟩ := hrel
        by_cases hjD : j < D
        · obtain ⟨c1, f1⟩ := hT2.at_ i hin
          have ho := hT2.2.2.1 i hin
          obtain ⟨u, hu⟩ : ∃ u, vs2 i = u := ⟨_, rfl⟩
          rw [hu] at c1 ho
          have HU := Lib.hid hu
          have HT2 := Lib.hid hT2
          have HB2 := Lib.hid hB2
          have HO := Lib.hid ho
          have hsz := hB2.size
          have hlt : (stage wt D i j i).length ≤ 1000000 := by rw [stage_here]; omega
          have HWE := Lib.hid (show mwt s i j = wt i j by rw [← HWT.out])
          have HG := Lib.hid (show ∀ w1, wr.drew.grownBy w1 u.ownBlock → w1.cell? ⟨g, i, none⟩ = some u ∧ w1.frozen? ⟨g, i, none⟩ = false by
            intro w1 hg1
            obtain ⟨h0, ⟨cur, h1, h2, h3⟩, h4, h5⟩ := hT2
            have hne : some g ≠ u.ownBlock := by rw [← hu]; exact Kd.R_ne (h4 i hin) h1 (by decide)
            have k1 := blk_grown (w := wr.drew) h1 hg1 hne
            exact ⟨by rw [blk_cell k1, h3 i hin, hu], blk_frozen k1 i⟩)
          have q0 : ∀ o : Obj, (wr.alloc o).cell? ⟨g, i, none⟩ = some u := fun o => pw_cell_below (below_alloc (Below.refl _ wr) o) c1
          clear hu hT2 hB2 ho
          go_wp2_with fail
          go_region_law (first
            | (refine own_append_stepAt (w0 := W) wr.drew _ W.heap.size rfl _ _ 25 2 rfl Try.underlying25 infoI64 _ _ (wt i j) wr.heap.size rfl rfl rfl rfl (HO.out.below (below_drew (Below.refl _ _))) (below_drew HB2.out) hsz hlt ?_; intro v1 w1 ho1 hb1 hg1 hat1; obtain ⟨A5, c5, hv5, -, -⟩ := ho1.reads_n (n := j + 1) (by rw [List.length_append, stage_here]; rfl); subst hv5; obtain ⟨q5, f5⟩ := HG.out w1 hg1; have HO1 := Lib.hid ho1; have HB3 := Lib.hid hb1; have HG1 := Lib.hid hg1; have HA1 := Lib.hid hat1; clear ho1 hb1 hg1 hat1)
            | (go_simp; go_at_call 88; refine (weight_any s i j _ (by omega) (by omega) (by omega) (by omega)).mono ?_; rw [HWE.out]; rintro e w4 ⟨rfl, rfl⟩))
          all_goals
            go_wp2_with fail
            go_roundw
            case rel =>
              refine ⟨j + 1, by go_num, by omega, _, ((Tb.put (HT2.out.below (below_drew (Below.refl _ _))) i hin HO1.out (by rw [HU.out]; exact HG1.out) (by rw [HU.out]; exact HA1.out)).congr (fun r _ => stage_put wt D i j r)), HB3.out.setCell (p := ⟨g, i, none⟩) HT2.out.1 _⟩
            case measure => simp [intOf]; omega
        · have HT2 := Lib.hid (hT2.congr (f' := stage wt D (i + 1) 0) (fun r _ => by rw [show j = D by omega]; exact stage_next wt D i r))
          have HB2 := Lib.hid hB2
          clear hT2 hB2
          go_wp2_with fail
          go_roundw
          case rel => exact ⟨i + 1, by go_num, by omega, vs2, HT2.out, HB2.out⟩
          case measure => simp [intOf]; omega
    · have HF := Lib.hid (HT.out.congr (f' := fun r => mrow c t r) (fun r hr => by rw [HMR.out, show i = n by omega, stage_full wt D n r hr, ← HWT.out]))
      go_wp2_with fail
      go_ret
      exact ⟨g, vs, rfl, HF.out, HB.out⟩

end Go.Proofs.Ytdfgmdmcdnnhfaa
