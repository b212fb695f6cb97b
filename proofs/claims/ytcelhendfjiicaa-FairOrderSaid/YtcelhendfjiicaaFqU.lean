/- A fair queue: what stores, appends and the map's turns leave. -/
import Derived.Test.YtcelhendfjiicaaFqE
namespace Go.Proofs.Ytcelhendfjiicaa
open Go.RowKit Go.Shelf Go.Proofs.YtcelhendfjiicaaW.PrintWords Go.Proofs.YtcelhendfjiicaaW.PrintLast Go.Proofs.YtcelhendfjiicaaW.PrintMore
set_option linter.unusedVariables false
set_option linter.unusedSimpArgs false
set_option maxRecDepth 100000
section
variable {W W' w1 : World} {base : Nat} {F F' : Nat → Prop} {p mf mw : Nat} {rv rv' : Value} {R R' : List Int} {room quant many : Int} {began : Bool} {L L' : List FlV} {M M' : List (Int × Value)} {wt : WtV} {f g : FlV}
abbrev OwnNe (f g : FlV) : Prop := ∀ k, f.v.ownBlock = some k → g.v.ownBlock ≠ some k
theorem OwnNe.symm (h : OwnNe f g) : OwnNe g f := fun k hk e => h k e hk
theorem pair_set {α : Type} {S : α → α → Prop} {l : List α} (hs : ∀ a b, S a b → S b a) (h : l.Pairwise S) (i : Nat) (hi : i < l.length) (x : α) (hx : ∀ j (hj : j < l.length), j ≠ i → S x l[j]) : (l.set i x).Pairwise S := by
  rw [List.pairwise_iff_getElem] at h ⊢
  intro a b ha hb hab
  rw [List.length_set] at ha hb
  rw [List.getElem_set, List.getElem_set]
  by_cases h1 : i = a
  · rw [if_pos h1, if_neg (by omega)]
    exact hx b hb (by omega)
  · rw [if_neg h1]
    by_cases h2 : i = b
    · rw [if_pos h2]
      exact hs _ _ (hx a ha (by omega))
    · rw [if_neg h2]
      exact h a b ha hb hab
theorem map_set_same {α β : Type} (e : α → β) {l : List α} (i : Nat) (hi : i < l.length) (x : α) (hx : e x = e l[i]) : (l.set i x).map e = l.map e := by
  rw [List.map_set, hx]
  apply List.ext_getElem (by simp)
  intro j h1 h2
  rw [List.getElem_set]
  split
  · rename_i h; subst h; simp
  · rfl
theorem pair_at {α : Type} {S : α → α → Prop} {l : List α} (hs : ∀ a b, S a b → S b a) (h : l.Pairwise S) (i j : Nat) (hi : i < l.length) (hj : j < l.length) (hij : i ≠ j) : S l[i] l[j] := by
  rw [List.pairwise_iff_getElem] at h
  rcases Nat.lt_or_gt_of_ne hij with h1 | h1
  · exact h i j hi hj h1
  · exact hs _ _ (h j i hj hi h1)
theorem nodup_at {α : Type} {l : List α} (h : l.Nodup) (i j : Nat) (hi : i < l.length) (hj : j < l.length) (hij : i ≠ j) : l[i] ≠ l[j] := fun e => hij ((List.getElem_inj h).1 e)
theorem Fq.bne (h : Fq W base F p mf mw rv R room quant began L M wt many) (i j : Nat) (hi : i < L.length) (hj : j < L.length) (hij : i ≠ j) : L[i].b ≠ L[j].b := by
  have := nodup_at h.ndb i j (by simpa using hi) (by simpa using hj) hij
  simpa using this
theorem keyed_set (hnd : (L.map FlV.n).Nodup) (i : Nat) (hi : i < L.length) (f' : FlV) (hn : f'.n = L[i].n) (hb : f'.b = L[i].b) (n : Int) : (mlook (keyed (L.set i f')) n).map ptrF = (mlook (keyed L) n).map ptrF := by
  have hn' : ((L.set i f').map FlV.n).Nodup := by rw [map_set_same _ i hi f' hn]; exact hnd
  cases h : mlook (keyed L) n with
  | none =>
    have h1 : mlook (keyed (L.set i f')) n = none := by
      rw [mlook_none, keyed_keys, map_set_same _ i hi f' hn]
      rwa [mlook_none, keyed_keys] at h
    rw [h1]
  | some g =>
    obtain ⟨hg, e⟩ := keyed_some h
    obtain ⟨j, hj, rfl⟩ := List.getElem_of_mem hg
    have h1 : mlook (keyed (L.set i f')) n = some ((L.set i f')[j]'(by simpa using hj)) := by
      refine mlook_of_mem (by rw [keyed_keys]; exact hn') (List.mem_map.2 ⟨_, List.getElem_mem (by simpa using hj), ?_⟩)
      rw [List.getElem_set]
      split
      · rename_i h2; subst h2; rw [hn, e]
      · rw [e]
    rw [h1, List.getElem_set]
    split
    · rename_i h2; subst h2; unfold ptrF; simp [hb]
    · rfl
/-- A flow of the queue turns: the other parts stay. -/
theorem Fq.turn (h : Fq W base F p mf mw rv R room quant began L M wt many) (i : Nat) (hi : i < L.length) (f' : FlV) (hn : f'.n = L[i].n) (hb : f'.b = L[i].b)
    (hs : W.heap.size ≤ w1.heap.size) (hF : ∀ k, F k → F' k) (hl : ∀ k, F' k → base ≤ k ∧ k < w1.heap.size)
    (hm : ∀ k, F k → k ≠ L[i].b → L[i].v.ownBlock ≠ some k → w1.heap[k]? = W.heap[k]?) (hf : FlOk w1 base F' f') (ho : f'.v.ownBlock = L[i].v.ownBlock ∨ ∃ k, f'.v.ownBlock = some k ∧ W.heap.size ≤ k) :
    Fq w1 base F' p mf mw rv R room quant began (L.set i f') M wt many where
  flt := hl
  fp := hF _ h.fp
  fmf := hF _ h.fmf
  fmw := hF _ h.fmw
  box := by
    refine (hm p h.fp (fun e => ?_) (fun e => ?_)).trans h.box
    · have h1 := (h.fl _ (List.getElem_mem hi)).box
      rw [← e, h.box] at h1; injection h1 with h1; injection h1 with _ h1; exact absurd h1 (by decide)
    · obtain ⟨cells, h1⟩ := (h.fl _ (List.getElem_mem hi)).typed p e
      rw [h.box] at h1; injection h1 with h1; injection h1 with _ h1; exact absurd h1 (by decide)
  ring := by
    refine Kd.Q_mono (Q_own rfl h.ring (fun k hk => hm k (h.ring.1 k hk) (fun e => ?_) (fun e => ?_))) hF
    · obtain ⟨cells, h2⟩ := Kd.Q_typed h.ring k hk
      have h1 := (h.fl _ (List.getElem_mem hi)).box
      rw [← e, h2] at h1; injection h1 with h1; injection h1 with _ h1; exact absurd h1 (by decide)
    · obtain ⟨cells, h2⟩ := Kd.Q_typed h.ring k hk
      obtain ⟨cells, h1⟩ := (h.fl _ (List.getElem_mem hi)).typed k e
      rw [h2] at h1; injection h1 with h1; injection h1 with _ h1; exact absurd h1 (by decide)
  mp := by
    obtain ⟨es, cl, hmb, -⟩ := id h.mp
    refine h.mp.move (hm _ h.fmf (fun e => ?_) (fun e => ?_))
    · exact ne_map (h.fl _ (List.getElem_mem hi)).box (e ▸ hmb) rfl
    · obtain ⟨cells, h1⟩ := (h.fl _ (List.getElem_mem hi)).typed _ e
      exact ne_map h1 hmb rfl
  look := fun n => by rw [keyed_set h.nd i hi f' hn hb]; exact h.look n
  mnd := h.mnd
  wm := by
    obtain ⟨es, cl, hmb, -⟩ := id h.wm
    refine h.wm.move (hm _ h.fmw (fun e => ?_) (fun e => ?_))
    · exact ne_map (h.fl _ (List.getElem_mem hi)).box (e ▸ hmb) rfl
    · obtain ⟨cells, h1⟩ := (h.fl _ (List.getElem_mem hi)).typed _ e
      exact ne_map h1 hmb rfl
  mne := h.mne
  fl := fun g hg => by
    obtain ⟨j, hj, rfl⟩ := List.getElem_of_mem hg
    rw [List.length_set] at hj
    rw [List.getElem_set]
    split
    · exact hf
    · rename_i hij
      have h1 := h.fl _ (List.getElem_mem hj)
      refine (h1.move (hm _ h1.fp (fun e => h.bne j i hj hi (fun e => hij e.symm) e) (fun e => ?_)) (fun k hk => hm k (h1.row.1 k hk) (fun e => ?_) (fun e => ?_))).wide hF
      · obtain ⟨cells, h2⟩ := (h.fl _ (List.getElem_mem hi)).typed _ e
        have h3 := h1.box
        rw [h2] at h3; injection h3 with h3; injection h3 with _ h3; exact absurd h3 (by decide)
      · obtain ⟨cells, h2⟩ := h1.typed k hk
        have h3 := (h.fl _ (List.getElem_mem hi)).box
        rw [← e, h2] at h3; injection h3 with h3; injection h3 with _ h3; exact absurd h3 (by decide)
      · exact pair_at (S := OwnNe) (fun a b h => OwnNe.symm h) h.own i j hi hj hij k e hk
  nd := by rw [map_set_same _ i hi f' hn]; exact h.nd
  ndb := by rw [map_set_same _ i hi f' hb]; exact h.ndb
  own := by
    refine pair_set (S := OwnNe) (fun a b h => OwnNe.symm h) h.own i hi f' (fun j hj hji => ?_)
    rcases ho with ho | ⟨k, hk, hk2⟩
    · intro k hk
      rw [ho] at hk
      exact pair_at (S := OwnNe) (fun a b h => OwnNe.symm h) h.own i j hi hj (fun e => hji e.symm) k hk
    · intro k' hk' e
      rw [hk] at hk'
      injection hk' with hk'
      subst hk'
      have := Kd.Q_lt (h.fl _ (List.getElem_mem hj)).row _ e
      omega
/-- A store of a credit. -/
theorem Fq.setC (h : Fq W base F p mf mw rv R room quant began L M wt many) (i : Nat) (hi : i < L.length) (c : Int) :
    Fq (W.setCell ⟨L[i].b, 0, none⟩ (.int .i64 c)) base F p mf mw rv R room quant began (L.set i (L[i].putC c)) M wt many := by
  have hf := h.fl _ (List.getElem_mem hi)
  refine h.turn i hi _ rfl rfl (by simp [World.setCell]) (fun _ hk => hk) (fun k hk => ⟨(h.flt k hk).1, by have := (h.flt k hk).2; simpa [World.setCell] using this⟩) (fun k _ hk _ => Below.heap_setCell W ⟨L[i].b, 0, none⟩ _ k hk) ⟨hf.fp, blk_set hf.box 0 _, ?_⟩ (.inl rfl)
  exact Kd.Q_set hf.row hf.box (by decide) 0 _
/-- A store of a list's value that lies where it lay. -/
theorem Fq.setV (h : Fq W base F p mf mw rv R room quant began L M wt many) (i : Nat) (hi : i < L.length) (v' : Value) (xs' : List ItemV) (hr : KIt.Q 43 W base F v' xs') (ho : v'.ownBlock = L[i].v.ownBlock) :
    Fq (W.setCell ⟨L[i].b, 1, none⟩ v') base F p mf mw rv R room quant began (L.set i (L[i].put v' (xs'))) M wt many := by
  have hf := h.fl _ (List.getElem_mem hi)
  refine h.turn i hi _ rfl rfl (by simp [World.setCell]) (fun _ hk => hk) (fun k hk => ⟨(h.flt k hk).1, by have := (h.flt k hk).2; simpa [World.setCell] using this⟩) (fun k _ hk _ => Below.heap_setCell W ⟨L[i].b, 1, none⟩ _ k hk) ⟨hf.fp, blk_set hf.box 1 _, ?_⟩ (.inl ho)
  exact Kd.Q_set hr hf.box (by decide) 1 _
theorem Fq.boxG (h : Fq W base F p mf mw rv R room quant began L M wt many) (i : Nat) (hi : i < L.length) (hg : W.grownBy w1 L[i].v.ownBlock) : w1.heap[L[i].b]? = some (.cells (flC L[i]) 99 (0, 0)) := by
  have hf := h.fl _ (List.getElem_mem hi)
  refine (hg.block _ (blk_lt hf.box) (fun e => ?_)).trans hf.box
  obtain ⟨cells, h1⟩ := hf.typed _ e.symm
  have h3 := hf.box
  rw [h1] at h3; injection h3 with h3; injection h3 with _ h3; exact absurd h3 (by decide)
theorem mem_le_sum {l : List Nat} {x : Nat} (h : x ∈ l) : x ≤ l.sum := by
  induction l with
  | nil => cases h
  | cons a r ih =>
    rw [List.sum_cons]
    rcases List.mem_cons.1 h with rfl | h
    · omega
    · have := ih h; omega
/-- An item more. -/
theorem Fq.itemA (h : Fq W base F p mf mw rv R room quant began L M wt many) (i : Nat) (hi : i < L.length) {v1 : Value} {x : ItemV} (hr : KIt.Q 43 w1 base (Nw W w1 F) v1 (L[i].xs ++ [x])) (hg : W.grownBy w1 L[i].v.ownBlock) (ho : v1.ownBlock = L[i].v.ownBlock ∨ ∃ k, v1.ownBlock = some k ∧ W.heap.size ≤ k) :
    Fq (w1.setCell ⟨L[i].b, 1, none⟩ v1) base (Nw W w1 F) p mf mw rv R room quant began (L.set i (L[i].put v1 (L[i].xs ++ [x]))) M wt many := by
  have hf := h.fl _ (List.getElem_mem hi)
  have hbx : w1.heap[L[i].b]? = some (.cells (flC L[i]) 99 (0, 0)) := by
    refine (hg.block _ (blk_lt hf.box) (fun e => ?_)).trans hf.box
    obtain ⟨cells, h1⟩ := hf.typed _ e.symm
    have h3 := hf.box
    rw [h1] at h3; injection h3 with h3; injection h3 with _ h3; exact absurd h3 (by decide)
  refine h.turn i hi _ rfl rfl (by have := hg.size; simpa [World.setCell] using this) (fun _ hk => .inl hk) (fun k hk => ?_) (fun k hkF hk hk2 => (Below.heap_setCell w1 ⟨L[i].b, 1, none⟩ _ k hk).trans (hg.block k (h.flt k hkF).2 (fun e => hk2 e.symm))) ⟨.inl hf.fp, blk_set hbx 1 _, ?_⟩ ho
  · have hs := hg.size
    have h0 : base ≤ W.heap.size := Nat.le_trans (h.flt p h.fp).1 (Nat.le_of_lt (h.flt p h.fp).2)
    rcases hk with hk | hk
    · have := h.flt k hk
      exact ⟨this.1, by simp [World.setCell]; omega⟩
    · exact ⟨by omega, by simp [World.setCell]; omega⟩
  · exact Kd.Q_set hr hbx (by decide) 1 _
theorem Fq.boxR (h : Fq W base F p mf mw rv R room quant began L M wt many) (hg : W.grownBy w1 rv.ownBlock) : w1.heap[p]? = some (.cells (fqC room quant many mf rv began mw) 89 (0, 0)) := by
  refine (hg.block _ (blk_lt h.box) (fun e => ?_)).trans h.box
  obtain ⟨cells, h1⟩ := Kd.Q_typed h.ring p e.symm
  have h3 := h.box
  rw [h1] at h3; injection h3 with h3; injection h3 with _ h3; exact absurd h3 (by decide)
/-- The ring is another list, which lies in its block, or in a new one. -/
theorem Fq.ringA (h : Fq W base F p mf mw rv R room quant began L M wt many) (hr : KU.Q 40 w1 base (Nw W w1 F) rv' R') (hg : W.grownBy w1 rv.ownBlock) :
    Fq (w1.setCell ⟨p, 4, none⟩ rv') base (Nw W w1 F) p mf mw rv' R' room quant began L M wt many := by
  have hs := hg.size
  have h0 : base ≤ W.heap.size := Nat.le_trans (h.flt p h.fp).1 (Nat.le_of_lt (h.flt p h.fp).2)
  have hne : ∀ (k : Nat) (cs : Array Value) (t : TypeId) (fr : Nat × Nat), W.heap[k]? = some (.cells cs t fr) → t ≠ 40 → w1.heap[k]? = W.heap[k]? := fun k cs t fr hk ht => hg.block k (blk_lt hk) (fun e => by
    obtain ⟨cells, h1⟩ := Kd.Q_typed h.ring k e.symm
    rw [hk] at h1; injection h1 with h1; injection h1 with _ h1; exact ht h1)
  have hbx := (hne _ _ _ _ h.box (by decide)).trans h.box
  refine { toFqM := h.toFqM.step (fun _ hk => .inl hk) (fun k hk => ?_) (fun k hk ht => ?_), box := blk_set hbx 4 rv', ring := Kd.Q_set hr hbx (by decide) 4 _ }
  · rcases hk with hk | hk
    · have := h.flt k hk
      exact ⟨this.1, by simp [World.setCell]; omega⟩
    · exact ⟨by omega, by simp [World.setCell]; omega⟩
  · have h2 : k ≠ p := fun e => by
      have := ht _ _ _ (e ▸ h.box)
      revert this; decide
    refine (Below.heap_setCell w1 ⟨p, 4, none⟩ _ k h2).trans (hg.block k (h.flt k hk).2 (fun e => ?_))
    obtain ⟨cells, h1⟩ := Kd.Q_typed h.ring k e.symm
    have := ht _ _ _ h1
    revert this; decide
theorem keyed_snoc (L : List FlV) (f : FlV) (j : Int) (hn : mlook (keyed L) f.n = none) : mlook (keyed (L ++ [f])) j = if f.n = j then some f else mlook (keyed L) j := by
  induction L with
  | nil =>
    show mlook [(f.n, f)] j = _
    unfold mlook
    split <;> rfl
  | cons g r ih =>
    have h1 : mlook (keyed (g :: r)) f.n = if g.n = f.n then some g else mlook (keyed r) f.n := by
      show mlook ((g.n, g) :: keyed r) f.n = _
      rw [mlook]
    rw [h1] at hn
    have hg : g.n ≠ f.n := fun e => by rw [if_pos e] at hn; cases hn
    rw [if_neg hg] at hn
    show mlook ((g.n, g) :: keyed (r ++ [f])) j = if f.n = j then some f else mlook ((g.n, g) :: keyed r) j
    unfold mlook
    split
    · rename_i h; rw [if_neg (by omega)]
    · rw [ih hn]
theorem keyed_del (L1 L2 : List FlV) (f : FlV) (j : Int) (hnd : ((L1 ++ f :: L2).map FlV.n).Nodup) : mlook (keyed (L1 ++ L2)) j = if f.n = j then none else mlook (keyed (L1 ++ f :: L2)) j := by
  induction L1 with
  | nil =>
    show mlook (keyed L2) j = if f.n = j then none else mlook ((f.n, f) :: keyed L2) j
    split
    · rename_i h
      subst h
      rw [mlook_none, keyed_keys]
      exact (List.nodup_cons.1 hnd).1
    · rename_i h
      rw [mlook, if_neg h]
  | cons g r ih =>
    show mlook ((g.n, g) :: keyed (r ++ L2)) j = if f.n = j then none else mlook ((g.n, g) :: keyed (r ++ f :: L2)) j
    have h1 := List.nodup_cons.1 hnd
    have hg : g.n ≠ f.n := fun e => h1.1 (by rw [e]; simp)
    unfold mlook
    split
    · rename_i h; rw [if_neg (by omega)]
    · exact ih h1.2
/-- A flow more, without items; the ring has it not yet. -/
theorem Fq.addF (h : Fq W base F p mf mw rv R room quant began L M wt many) {n : Int} (hn : mlook (keyed L) n = none)
    (hm : IsMp (.int .u64) w1 mf (mput M n (.pointer (some ⟨W.heap.size, 0, none⟩)))) (hg : (W.alloc (.cells #[.int .i64 0, .slice none 0 0] 99)).grownBy w1 (some mf)) :
    Fq w1 base (Nw W w1 F) p mf mw rv R room quant began (L ++ [⟨n, W.heap.size, 0, .slice none 0 0, []⟩]) (mput M n (.pointer (some ⟨W.heap.size, 0, none⟩))) wt many := by
  have h0 : base ≤ W.heap.size := Nat.le_trans (h.flt p h.fp).1 (Nat.le_of_lt (h.flt p h.fp).2)
  have hb := below_alloc (Below.refl W.heap.size W) (.cells #[.int .i64 0, .slice none 0 0] 99)
  have h2 := h.below hb
  obtain ⟨es, cl, hmb, -⟩ := id h2.mp
  obtain ⟨g1, g2, g3⟩ := h2.rowG ⟨es, cl, hmb⟩ hg
  have hs : W.heap.size + 1 ≤ w1.heap.size := by have := hg.size; simpa using this
  have hbx : w1.heap[W.heap.size]? = some (.cells #[.int .i64 0, .slice none 0 0] 99 (0, 0)) := by
    have h3 := heap_alloc_new W (.cells #[.int .i64 0, .slice none 0 0] 99)
    exact (hg.block _ (blk_lt h3) (fun e => ne_map h3 hmb (by injection e))).trans h3
  have hlt : ∀ f ∈ L, f.b < W.heap.size := fun f hf => (h.flt _ (h.fl f hf).fp).2
  refine { flt := fun k hk => ?_, fp := .inl h.fp, fmf := .inl h.fmf, fmw := .inl h.fmw, mp := hm, look := fun j => ?_, mnd := mput_nodup h.mnd _ _, wm := h2.wm.grown hg (fun e => h.mne (by injection e with e; exact e.symm)), mne := h.mne, fl := fun f hf => ?_, nd := ?_, ndb := ?_, own := ?_, box := g1, ring := Kd.Q_mono g2 (fun _ hk => .inl hk) }
  · rcases hk with hk | hk
    · have := h.flt k hk
      exact ⟨this.1, by omega⟩
    · exact ⟨by omega, hk.2⟩
  · rw [mlook_put, keyed_snoc L _ j hn, h.look]
    split
    · rfl
    · rfl
  · rcases List.mem_append.1 hf with hf | hf
    · exact (g3 f hf).wide (fun _ hk => .inl hk)
    · obtain rfl : f = ⟨n, W.heap.size, 0, .slice none 0 0, []⟩ := by simpa using hf
      exact ⟨.inr ⟨Nat.le_refl _, by show W.heap.size < w1.heap.size; omega⟩, hbx, Kd.Q_nil _ _ _ _ _⟩
  · rw [List.map_append]
    have hn' : n ∉ L.map FlV.n := by rwa [mlook_none, keyed_keys] at hn
    exact List.nodup_append.2 ⟨h.nd, by simp, fun a ha b hb => by
      have : b = n := by simpa using hb
      subst this
      exact fun e => hn' (e ▸ ha)⟩
  · rw [List.map_append]
    exact List.nodup_append.2 ⟨h.ndb, by simp, fun a ha b hb => by
      have : b = W.heap.size := by simpa using hb
      subst this
      obtain ⟨f, hf, rfl⟩ := List.mem_map.1 ha
      have := hlt f hf
      omega⟩
  · exact List.pairwise_append.2 ⟨h.own, List.pairwise_singleton _ _, fun a ha b hb k hk e => by
      obtain rfl : b = ⟨n, W.heap.size, 0, .slice none 0 0, []⟩ := by simpa using hb
      cases e⟩
/-- A flow less; the ring has it yet. -/
theorem Fq.delF {L1 L2 : List FlV} (h : Fq W base F p mf mw rv R room quant began (L1 ++ f :: L2) M wt many) (hm : IsMp (.int .u64) w1 mf (mdel M f.n)) (hg : W.grownBy w1 (some mf)) :
    Fq w1 base F p mf mw rv R room quant began (L1 ++ L2) (mdel M f.n) wt many := by
  obtain ⟨es, cl, hmb, -⟩ := id h.mp
  obtain ⟨g1, g2, g3⟩ := h.rowG ⟨es, cl, hmb⟩ hg
  have hsub : (L1 ++ L2).Sublist (L1 ++ f :: L2) := List.Sublist.append (List.Sublist.refl _) (List.sublist_cons_self _ _)
  refine { flt := fun k hk => ⟨(h.flt k hk).1, Nat.lt_of_lt_of_le (h.flt k hk).2 hg.size⟩, fp := h.fp, fmf := h.fmf, fmw := h.fmw, mp := hm, look := fun j => ?_, mnd := mdel_nodup h.mnd _, wm := h.wm.grown hg (fun e => h.mne (by injection e with e; exact e.symm)), mne := h.mne, fl := fun g hg => g3 g (hsub.subset hg), nd := h.nd.sublist (hsub.map _), ndb := h.ndb.sublist (hsub.map _), own := h.own.sublist hsub, box := g1, ring := g2 }
  rw [mlook_del h.mnd, keyed_del L1 L2 f j h.nd, h.look]
  split <;> rfl
end
end Go.Proofs.Ytcelhendfjiicaa
