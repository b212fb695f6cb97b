/- FairOrder: what waits, flow by flow. -/
import Derived.Test.YtcelhendfjiicaaFqM
namespace Go.Proofs.Ytcelhendfjiicaa
open Go.RowKit Go.Shelf Go.Proofs.YtcelhendfjiicaaW.PrintWords Go.Proofs.YtcelhendfjiicaaW.PrintLast Go.Proofs.YtcelhendfjiicaaW.PrintMore
set_option linter.unusedVariables false
set_option linter.unusedSimpArgs false
set_option maxRecDepth 100000
def itemsAt (l : List Fl) (n : Int) : List ItemV := match mlook l n with | none => [] | some f => f.2
section
variable {wt : WtV} {q n : Int} {l r : List Fl} {f : Fl} {b : Bool} {k t : Nat} {x : ItemV}
theorem mlook_app {β : Type} (a c : List (Int × β)) (n : Int) : mlook (a ++ c) n = match mlook a n with | some v => some v | none => mlook c n := by
  induction a with
  | nil => rfl
  | cons e r ih =>
    obtain ⟨i, u⟩ := e
    have e1 : ∀ t : List (Int × β), mlook ((i, u) :: t) n = if i = n then some u else mlook t n := fun t => by rw [mlook]
    show mlook ((i, u) :: (r ++ c)) n = match mlook ((i, u) :: r) n with | some v => some v | none => mlook c n
    rw [e1, e1]
    by_cases h : i = n
    · rw [if_pos h, if_pos h]
    · rw [if_neg h, if_neg h]; exact ih
theorem mlook_put_it (l : List Fl) (n : Int) : mlook (l.map (putIt x)) n = (mlook l n).map (fun v => if n = x.1 then (v.1, v.2 ++ [x]) else v) := by
  induction l with
  | nil => rfl
  | cons f r ih =>
    obtain ⟨i, c, xs⟩ := f
    have h1 : putIt x (i, c, xs) = (i, if i = x.1 then (c, xs ++ [x]) else (c, xs)) := by unfold putIt; dsimp only; split <;> rfl
    rw [List.map_cons, h1]
    show mlook ((i, if i = x.1 then (c, xs ++ [x]) else (c, xs)) :: r.map (putIt x)) n = (mlook ((i, c, xs) :: r) n).map _
    unfold mlook
    split
    · rename_i h; subst h; rfl
    · exact ih
theorem it_push (l : List Fl) (x : ItemV) (n : Int) : itemsAt (pushE l x) n = if n = x.1 then itemsAt l n ++ [x] else itemsAt l n := by
  by_cases h : x.1 ∈ mkeys l
  · rw [pushE_some h]
    unfold itemsAt
    rw [mlook_put_it]
    cases hl : mlook l n with
    | none =>
      have : n ≠ x.1 := fun e => mlook_none.1 hl (e ▸ h)
      simp [this]
    | some v => simp; split <;> rfl
  · rw [pushE_none h]
    unfold itemsAt
    rw [mlook_app]
    have hs : mlook [(x.1, ((0 : Int), [x]))] n = if x.1 = n then some (0, [x]) else none := by unfold mlook; split <;> rfl
    cases hl : mlook l n with
    | none =>
      dsimp only
      rw [hs]
      by_cases e : x.1 = n
      · rw [if_pos e, if_pos e.symm]; rfl
      · rw [if_neg e, if_neg (fun h => e h.symm)]
    | some v =>
      have hne : n ≠ x.1 := fun e => h (by rw [← e]; exact Classical.byContradiction (fun hn => by rw [mlook_none.2 hn] at hl; cases hl))
      dsimp only
      rw [if_neg hne]
theorem it_rounds : itemsAt (roundsF wt q l) n = itemsAt l n := by
  have h : ∀ (s : Int) (g : Int → Int) (l : List Fl), mlook (l.map (fun f => (f.1, f.2.1 + s * g f.1, f.2.2))) n = (mlook l n).map (fun v => (v.1 + s * g n, v.2)) := by
    intro s g l
    induction l with
    | nil => rfl
    | cons f r ih =>
      obtain ⟨i, c, xs⟩ := f
      show mlook ((i, c + s * g i, xs) :: _) n = (mlook ((i, c, xs) :: r) n).map _
      unfold mlook
      split
      · rename_i h; subst h; rfl
      · exact ih
  unfold itemsAt roundsF
  rw [h (leastF wt q l) (gainF wt q) l]
  cases mlook l n <;> rfl
theorem nd_rounds : mkeys (roundsF wt q l) = mkeys l := by unfold mkeys roundsF; rw [List.map_map]; rfl
theorem it_rot (hnd : (mkeys (f :: r)).Nodup) : itemsAt (r ++ [grow1 wt q b f]) n = itemsAt (f :: r) n := by
  have h1 := List.nodup_cons.1 hnd
  unfold itemsAt
  rw [mlook_app]
  have hs : mlook [grow1 wt q b f] n = if f.1 = n then some (grow1 wt q b f).2 else none := by
    show mlook [((grow1 wt q b f).1, (grow1 wt q b f).2)] n = _
    rw [grow1_items.2]
    unfold mlook; split <;> rfl
  have hf : mlook (f :: r) n = if f.1 = n then some f.2 else mlook r n := by
    show mlook ((f.1, f.2) :: r) n = _
    rw [mlook]
  rw [hs, hf]
  by_cases e : f.1 = n
  · rw [if_pos e, if_pos e]
    have : mlook r n = none := mlook_none.2 (fun hm => h1.1 (by rw [e]; exact hm))
    rw [this]
    exact grow1_items.1
  · rw [if_neg e, if_neg e]
    cases mlook r n <;> rfl
theorem nd_rot (hnd : (mkeys (f :: r)).Nodup) : (mkeys (r ++ [grow1 wt q b f])).Nodup := by
  have h1 := List.nodup_cons.1 hnd
  unfold mkeys at *
  rw [List.map_append, List.map_singleton, grow1_items.2]
  exact List.nodup_append.2 ⟨h1.2, by simp, fun a ha c hc => by
    have : c = f.1 := by simpa using hc
    subst this
    exact fun e => h1.1 (e ▸ ha)⟩
/-- What a Pop takes is the first one of its flow; the others' stay. -/
theorem it_pop (hw : WtJ wt) (h1 : 1 ≤ q) (h2 : q ≤ 1048576) {y : ItemV × Bool × List Fl} (h : FqJ b l) (hnd : (mkeys l).Nodup) (hy : popRun wt q k t b l = some y) :
    itemsAt l y.1.1 = y.1 :: itemsAt y.2.2 y.1.1 ∧ ∀ n, n ≠ y.1.1 → itemsAt y.2.2 n = itemsAt l n := by
  obtain ⟨b', f, r, x, xs, hJ, ⟨hk, ht⟩, hx, hs, rfl⟩ := popRun_ind hw h1 h2 (fun _ l' => (mkeys l').Nodup ∧ ∀ n, itemsAt l' n = itemsAt l n)
    (fun l' _ h => ⟨by rw [nd_rounds]; exact h.1, fun n => by rw [it_rounds]; exact h.2 n⟩)
    (fun b f r _ h => ⟨nd_rot h.1, fun n => by rw [it_rot h.1]; exact h.2 n⟩) k t b l y h ⟨hnd, fun _ => rfl⟩ hy
  have hx1 := ((hJ.cost f List.mem_cons_self).1.2.1 x (by rw [hx]; exact List.mem_cons_self)).1
  have hn1 := List.nodup_cons.1 hk
  have hf : ∀ n, mlook (f :: r) n = if f.1 = n then some f.2 else mlook r n := fun n => by
    show mlook ((f.1, f.2) :: r) n = _
    rw [mlook]
  have hr0 : mlook r f.1 = none := mlook_none.2 hn1.1
  have hfx : itemsAt (f :: r) x.1 = x :: xs := by
    unfold itemsAt
    rw [hf, if_pos hx1.symm]
    exact hx
  split
  · rename_i he
    subst he
    refine ⟨?_, fun n hn => ?_⟩
    · show itemsAt l x.1 = x :: itemsAt r x.1
      rw [← ht, hfx]
      unfold itemsAt
      rw [hx1, hr0]
    · show itemsAt r n = itemsAt l n
      rw [← ht]
      unfold itemsAt
      rw [hf, if_neg (fun e => hn (by show n = x.1; rw [hx1]; exact e.symm))]
  · have hg : ∀ c n, mlook ((f.1, c, xs) :: r) n = if f.1 = n then some (c, xs) else mlook r n := fun c n => by rw [mlook]
    refine ⟨?_, fun n hn => ?_⟩
    · show itemsAt l x.1 = x :: itemsAt ((f.1, _, xs) :: r) x.1
      rw [← ht, hfx]
      unfold itemsAt
      rw [hg, if_pos hx1.symm]
    · show itemsAt ((f.1, _, xs) :: r) n = itemsAt l n
      rw [← ht]
      unfold itemsAt
      rw [hg, hf, if_neg (fun e => hn (by show n = x.1; rw [hx1]; exact e.symm)), if_neg (fun e => hn (by show n = x.1; rw [hx1]; exact e.symm))]
theorem it_len (l : List Fl) (n : Int) : ofE l n = (itemsAt l n).length := by unfold ofE itemsAt; cases mlook l n <;> rfl
end
/-- The flows' lists, as the statement keeps them. -/
abbrev WtE := List (Int × Value × List ItemV)
def wtP (E : WtE) : List (Int × Value) := E.map (fun e => (e.1, e.2.1))
theorem wtP_look (E : WtE) (n : Int) : mlook (wtP E) n = (mlook E n).map Prod.fst := by
  induction E with
  | nil => rfl
  | cons e l ih =>
    obtain ⟨a, v, xs⟩ := e
    show mlook ((a, v) :: wtP l) n = (mlook ((a, v, xs) :: l) n).map _
    unfold mlook
    split
    · rfl
    · exact ih
theorem wtP_put (E : WtE) (n : Int) (v : Value) (xs : List ItemV) : mput (wtP E) n v = wtP (mput E n (v, xs)) := by
  induction E with
  | nil => rfl
  | cons e l ih =>
    obtain ⟨a, u, ys⟩ := e
    show mput ((a, u) :: wtP l) n v = wtP (mput ((a, u, ys) :: l) n (v, xs))
    unfold mput
    split
    · rfl
    · rw [ih]; rfl
theorem mem_mput {E : WtE} (hnd : (mkeys E).Nodup) {n : Int} {u : Value × List ItemV} {e : Int × Value × List ItemV} (h : e ∈ mput E n u) : e = (n, u) ∨ e ∈ E ∧ e.1 ≠ n := by
  induction E with
  | nil => left; simpa [mput] using h
  | cons a l ih =>
    obtain ⟨i, w⟩ := a
    have h1 := List.nodup_cons.1 hnd
    unfold mput at h
    split at h
    · rename_i hi
      subst hi
      rcases List.mem_cons.1 h with rfl | h
      · exact .inl rfl
      · exact .inr ⟨List.mem_cons_of_mem _ h, fun e2 => h1.1 (List.mem_map.2 ⟨e, h, e2⟩)⟩
    · rename_i hi
      rcases List.mem_cons.1 h with rfl | h
      · exact .inr ⟨List.mem_cons_self, hi⟩
      · rcases ih h1.2 h with h | h
        · exact .inl h
        · exact .inr ⟨List.mem_cons_of_mem _ h.1, h.2⟩
def itemsW (E : WtE) (n : Int) : List ItemV := match mlook E n with | none => [] | some e => e.2
def valW (E : WtE) (n : Int) : Value := match mlook E n with | none => .slice none 0 0 | some e => e.1
structure WtS (W : World) (base : Nat) (G : Nat → Prop) (m : Nat) (E : WtE) : Prop where
  glt : ∀ k, G k → base ≤ k ∧ k < W.heap.size
  gm : G m
  mp : IsMp (.int .u64) W m (wtP E)
  rows : ∀ e ∈ E, KIt.Q 43 W base G e.2.1 e.2.2
  own : ∀ e ∈ E, ∀ e' ∈ E, e.1 ≠ e'.1 → ∀ k, e.2.1.ownBlock = some k → e'.2.1.ownBlock ≠ some k
  nd : (mkeys E).Nodup
section
variable {W W' w1 w2 : World} {base m : Nat} {G G' : Nat → Prop} {E : WtE} {n : Int}
theorem WtS.move (h : WtS W base G m E) (hs : W.heap.size ≤ W'.heap.size) (hm : ∀ k, G k → W'.heap[k]? = W.heap[k]?) : WtS W' base G m E :=
  ⟨fun k hk => ⟨(h.glt k hk).1, Nat.lt_of_lt_of_le (h.glt k hk).2 hs⟩, h.gm, h.mp.move (hm _ h.gm), fun e he => Q_own rfl (h.rows e he) (fun k hk => hm k ((h.rows e he).1 k hk)), h.own, h.nd⟩
theorem WtS.below (h : WtS W base G m E) (hb : Below W.heap.size W W') : WtS W' base G m E := h.move hb.size (fun k hk => hb.block k (h.glt k hk).2)
theorem WtS.keep {F : Nat → Prop} (h : WtS W base G m E) (hT : Tn F W W') (hd : ∀ k, G k → ¬ F k) : WtS W' base G m E := h.move hT.size (fun k hk => hT.block k (h.glt k hk).2 (hd k hk))
theorem WtS.row (h : WtS W base G m E) (n : Int) : KIt.Q 43 W base G (valW E n) (itemsW E n) := by
  unfold valW itemsW
  cases hl : mlook E n with
  | none => exact Kd.Q_nil _ _ _ _ _
  | some e => exact h.rows (n, e) (mlook_mem hl)
theorem WtS.put (h : WtS W base G m E) (n : Int) (v1 : Value) (xs1 : List ItemV) (hs : W.heap.size ≤ w2.heap.size) (hG : ∀ k, G k → G' k) (hl : ∀ k, G' k → base ≤ k ∧ k < w2.heap.size) (hmp : IsMp (.int .u64) w2 m (mput (wtP E) n v1))
    (hold : ∀ k, G k → k ≠ m → (valW E n).ownBlock ≠ some k → w2.heap[k]? = W.heap[k]?) (hrow : KIt.Q 43 w2 base G' v1 xs1) (ho : v1.ownBlock = (valW E n).ownBlock ∨ ∃ k, v1.ownBlock = some k ∧ W.heap.size ≤ k) : WtS w2 base G' m (mput E n (v1, xs1)) := by
  have hfar : ∀ e ∈ E, e.1 ≠ n → ∀ k, e.2.1.ownBlock = some k → (valW E n).ownBlock ≠ some k := by
    intro e he hne k hk
    unfold valW
    cases hln : mlook E n with
    | none => simp [Value.ownBlock]
    | some u => exact h.own e he (n, u) (mlook_mem hln) hne k hk
  have hmt : ∀ e ∈ E, ∀ k, e.2.1.ownBlock = some k → k ≠ m := by
    intro e he k hk e2
    obtain ⟨cells, hc⟩ := Kd.Q_typed (h.rows e he) k hk
    obtain ⟨es, cl, hmb, -⟩ := h.mp
    exact ne_map hc hmb e2
  refine ⟨hl, hG _ h.gm, by rw [← wtP_put]; exact hmp, fun e he => ?_, fun e he e' he' hne k hk => ?_, mput_nodup h.nd _ _⟩
  · rcases mem_mput h.nd he with rfl | ⟨he, hn⟩
    · exact hrow
    · exact Kd.Q_mono (Q_own rfl (h.rows e he) (fun k hk => hold k ((h.rows e he).1 k hk) (hmt e he k hk) (hfar e he hn k hk))) hG
  · have hnew : ∀ e ∈ E, e.1 ≠ n → ∀ k, e.2.1.ownBlock = some k → v1.ownBlock ≠ some k := by
      intro e he hn k hk e2
      rcases ho with ho | ⟨j, hj, hj2⟩
      · rw [ho] at e2; exact hfar e he hn k hk e2
      · rw [hj] at e2
        injection e2 with e2
        have := (h.glt k ((h.rows e he).1 k hk)).2
        omega
    rcases mem_mput h.nd he with rfl | ⟨he, hn⟩
    · rcases mem_mput h.nd he' with rfl | ⟨he', hn'⟩
      · exact absurd rfl hne
      · exact fun e2 => hnew e' he' hn' k e2 hk
    · rcases mem_mput h.nd he' with rfl | ⟨he', hn'⟩
      · exact hnew e he hn k hk
      · exact h.own e he e' he' hne k hk
theorem it_put (E : WtE) (n j : Int) (v : Value) (xs : List ItemV) : itemsW (mput E n (v, xs)) j = if n = j then xs else itemsW E j := by
  unfold itemsW
  rw [mlook_put]
  by_cases h : n = j
  · rw [if_pos h, if_pos h]
  · rw [if_neg h, if_neg h]
end
end Go.Proofs.Ytcelhendfjiicaa
