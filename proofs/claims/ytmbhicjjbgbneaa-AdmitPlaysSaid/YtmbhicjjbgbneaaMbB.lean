/- A member list, as it lies. -/
import Derived.Test.YtmbhicjjbgbneaaMbA
import Derived.Test.YtmbhicjjbgbneaaTnA
import Derived.Lib.Hide
namespace Go.Proofs.Ytmbhicjjbgbneaa
open Go.RowKit Go.Shelf Go.Proofs.YtmbhicjjbgbneaaW.PrintWords Go.Proofs.YtmbhicjjbgbneaaW.PrintLast Go.Proofs.YtmbhicjjbgbneaaW.PrintMore
set_option linter.unusedVariables false
set_option linter.unusedSimpArgs false
set_option maxRecDepth 100000

abbrev RpV := Nat × Int × Int × Int × Int
def rpC (id : Int) (v : RpV) : Array Value := #[.int .u64 id, .int .i64 v.2.1, .int .u64 v.2.2.1, .int .i64 v.2.2.2.1, .int .i64 v.2.2.2.2]
def rpP (v : RpV) : Value := .pointer (some ⟨v.1, 0, none⟩)
def ptrs (L : List (Int × RpV)) : List (Int × Value) := L.map (fun e => (e.1, rpP e.2))
theorem ptrs_look (L : List (Int × RpV)) (k : Int) : mlook (ptrs L) k = (mlook L k).map rpP := by
  induction L with
  | nil => rfl
  | cons e l ih =>
    obtain ⟨a, u⟩ := e
    show mlook ((a, rpP u) :: ptrs l) k = _
    unfold mlook
    split
    · rfl
    · exact ih
theorem ptrs_put (L : List (Int × RpV)) (k : Int) (v : RpV) : mput (ptrs L) k (rpP v) = ptrs (mput L k v) := by
  induction L with
  | nil => rfl
  | cons e l ih =>
    obtain ⟨a, u⟩ := e
    show mput ((a, rpP u) :: ptrs l) k (rpP v) = _
    unfold mput
    split
    · rfl
    · rw [ih]; rfl
theorem ptrs_len (L : List (Int × RpV)) : (ptrs L).length = L.length := by unfold ptrs; rw [List.length_map]
/-- A list at p, with its map at m. -/
structure Mb (W : World) (p m : Nat) (now last : Int) (L : List (Int × RpV)) : Prop where
  box : W.heap[p]? = some (.cells #[.int .i64 now, .int .u64 last, .map (some m)] 95 (0, 0))
  mp : IsMp (Value.int .u64) W m (ptrs L)
  rp : ∀ e ∈ L, W.heap[e.2.1]? = some (.cells (rpC e.1 e.2) 75 (0, 0))
  nd : (L.map (fun e => e.2.1)).Nodup
  kd : (mkeys L).Nodup
/-- The blocks of a list. -/
def MF (p m : Nat) (L : List (Int × RpV)) (k : Nat) : Prop := k = p ∨ k = m ∨ ∃ e ∈ L, e.2.1 = k
section
variable {W W' : World} {p m : Nat} {now last : Int} {L : List (Int × RpV)}
theorem Mb.lt (h : Mb W p m now last L) : p < W.heap.size := blk_lt h.box
theorem Mb.pm (h : Mb W p m now last L) : m ≠ p := by
  rintro rfl
  obtain ⟨es, cl, hb, -⟩ := h.mp
  have := h.box
  rw [hb] at this
  cases this
theorem Mb.qp (h : Mb W p m now last L) (e : Int × RpV) (he : e ∈ L) : e.2.1 ≠ p := by
  intro hq
  have h1 := h.rp e he
  rw [hq, h.box] at h1
  injection h1 with h1
  injection h1 with _ h1
  exact absurd h1 (by decide)
theorem Mb.qm (h : Mb W p m now last L) (e : Int × RpV) (he : e ∈ L) : e.2.1 ≠ m := by
  intro hq
  obtain ⟨es, cl, hb, -⟩ := h.mp
  have h1 := h.rp e he
  rw [hq, hb] at h1
  cases h1
theorem Mb.fl (h : Mb W p m now last L) : ∀ k, MF p m L k → k < W.heap.size := by
  rintro k (rfl | rfl | ⟨e, he, rfl⟩)
  · exact h.lt
  · exact h.mp.lt
  · exact blk_lt (h.rp e he)
theorem Mb.move (h : Mb W p m now last L) (hw : ∀ k, MF p m L k → W'.heap[k]? = W.heap[k]?) : Mb W' p m now last L :=
  ⟨(hw p (.inl rfl)).trans h.box, h.mp.move (hw m (.inr (.inl rfl))), fun e he => (hw _ (.inr (.inr ⟨e, he, rfl⟩))).trans (h.rp e he), h.nd, h.kd⟩
theorem Mb.below (h : Mb W p m now last L) (hb : Below W.heap.size W W') : Mb W' p m now last L := h.move (fun k hk => hb.block k (h.fl k hk))
theorem Mb.at_ (h : Mb W p m now last L) : W.cell? ⟨p, 0, none⟩ = some (.int .i64 now) ∧ W.cell? ⟨p, 1, none⟩ = some (.int .u64 last) ∧ W.cell? ⟨p, 2, none⟩ = some (.map (some m)) := ⟨blk_cell h.box 0, blk_cell h.box 1, blk_cell h.box 2⟩
theorem Mb.put0 (h : Mb W p m now last L) (x : Int) : Mb (W.setCell ⟨p, 0, none⟩ (.int .i64 x)) p m x last L :=
  ⟨blk_set h.box 0 (.int .i64 x), h.mp.set h.pm _, fun e he => (Below.heap_setCell W ⟨p, 0, none⟩ _ _ (h.qp e he)).trans (h.rp e he), h.nd, h.kd⟩
theorem Mb.put1 (h : Mb W p m now last L) (x : Int) : Mb (W.setCell ⟨p, 1, none⟩ (.int .u64 x)) p m now x L :=
  ⟨blk_set h.box 1 (.int .u64 x), h.mp.set h.pm _, fun e he => (Below.heap_setCell W ⟨p, 1, none⟩ _ _ (h.qp e he)).trans (h.rp e he), h.nd, h.kd⟩
theorem mput_mem {K β : Type} [DecidableEq K] {L : List (K × β)} (hk : (mkeys L).Nodup) {k : K} {v : β} {e : K × β} (he : e ∈ mput L k v) : e = (k, v) ∨ (e ∈ L ∧ e.1 ≠ k) := by
  induction L with
  | nil => exact .inl (by simpa [mput] using he)
  | cons a l ih =>
    obtain ⟨a, u⟩ := a
    have h' : a ∉ mkeys l ∧ (mkeys l).Nodup := List.nodup_cons.1 hk
    unfold mput at he
    split at he
    · rename_i hak
      subst hak
      rcases List.mem_cons.1 he with he | he
      · exact .inl he
      · exact .inr ⟨List.mem_cons_of_mem _ he, fun hq => h'.1 (by rw [← hq]; exact List.mem_map.2 ⟨e, he, rfl⟩)⟩
    · rename_i hak
      rcases List.mem_cons.1 he with he | he
      · exact .inr ⟨by rw [he]; exact List.mem_cons_self, by rw [he]; exact hak⟩
      · rcases ih h'.2 he with h | ⟨h1, h2⟩
        · exact .inl h
        · exact .inr ⟨List.mem_cons_of_mem _ h1, h2⟩
theorem mput_keys_same {K β : Type} [DecidableEq K] {L : List (K × β)} {k : K} {v v0 : β} (h : mlook L k = some v0) : mkeys (mput L k v) = mkeys L := by rw [mput_keys, h]; rfl
theorem mput_qs {L : List (Int × RpV)} {k : Int} {v v0 : RpV} (h : mlook L k = some v0) (hv : v.1 = v0.1) : (mput L k v).map (fun e => e.2.1) = L.map (fun e => e.2.1) := by
  induction L with
  | nil => cases h
  | cons e l ih =>
    obtain ⟨a, u⟩ := e
    unfold mlook at h
    unfold mput
    split at h
    · rename_i hak
      rw [if_pos hak]
      injection h with h
      subst h
      simp [hv]
    · rename_i hak
      rw [if_neg hak, List.map_cons, List.map_cons, ih h]
theorem Mb.hit (h : Mb W p m now last L) {id : Int} {v : RpV} (hl : mlook L id = some v) : W.heap[v.1]? = some (.cells (rpC id v) 75 (0, 0)) := h.rp (id, v) (mlook_mem hl)
/-- A replica's box is turned. -/
theorem Mb.putR (h : Mb W p m now last L) {id : Int} {v v' : RpV} (hl : mlook L id = some v) (j : Nat) (u : Value) (hv : v'.1 = v.1) (hc : (rpC id v).setIfInBounds j u = rpC id v') : Mb (W.setCell ⟨v.1, j, none⟩ u) p m now last (mput L id v') := by
  have hm := mlook_mem hl
  have hqp := h.qp _ hm
  have hqm := h.qm _ hm
  have hp : ptrs (mput L id v') = ptrs L := by
    have h1 : rpP v' = rpP v := by unfold rpP; rw [hv]
    rw [← ptrs_put, h1]
    have h2 : ∀ (L : List (Int × Value)) (k : Int) (u : Value), mlook L k = some u → mput L k u = L := by
      intro L k u hl
      induction L with
      | nil => cases hl
      | cons e l ih =>
        obtain ⟨a, w⟩ := e
        unfold mlook at hl
        unfold mput
        split at hl
        · rename_i hak; rw [if_pos hak]; injection hl with hl; subst hl hak; rfl
        · rename_i hak; rw [if_neg hak, ih hl]
    exact h2 _ _ _ (by rw [ptrs_look, hl]; rfl)
  refine ⟨(Below.heap_setCell W ⟨v.1, j, none⟩ u p (Ne.symm hqp)).trans h.box, by rw [hp]; exact h.mp.set (Ne.symm hqm) u, fun e he => ?_, by rw [mput_qs hl hv]; exact h.nd, by rw [mput_keys_same hl]; exact h.kd⟩
  rcases mput_mem h.kd he with rfl | ⟨he, hne⟩
  · have := blk_set (h.hit hl) j u
    rw [hc] at this
    show (W.setCell ⟨v.1, j, none⟩ u).heap[v'.1]? = _
    rw [hv]; exact this
  · have hq : e.2.1 ≠ v.1 := by
      intro hq
      have hinj : ∀ (L : List (Int × RpV)), (L.map (fun e => e.2.1)).Nodup → ∀ e1 ∈ L, ∀ e2 ∈ L, e1.2.1 = e2.2.1 → e1 = e2 := by
        intro L hn
        induction L with
        | nil => intro e1 h1; cases h1
        | cons a l ih =>
          have hn' := List.nodup_cons.1 (show ((a.2.1) :: l.map (fun e => e.2.1)).Nodup from hn)
          intro e1 h1 e2 h2 hq
          rcases List.mem_cons.1 h1 with rfl | h9
          · rcases List.mem_cons.1 h2 with rfl | h2
            · rfl
            · exact absurd (List.mem_map.2 ⟨e2, h2, hq.symm⟩) hn'.1
          · rcases List.mem_cons.1 h2 with rfl | h2
            · exact absurd (show e2.2.1 ∈ l.map (fun e => e.2.1) from List.mem_map.2 ⟨e1, h9, hq⟩) hn'.1
            · exact ih hn'.2 e1 h9 e2 h2 hq
      have := hinj L h.nd e he (id, v) hm hq
      subst this
      exact hne rfl
    exact (Below.heap_setCell W ⟨v.1, j, none⟩ u _ hq).trans (h.rp e he)
theorem mf_put {id : Int} {v v' : RpV} (hl : mlook L id = some v) (hv : v'.1 = v.1) : ∀ k, MF p m (mput L id v') k → MF p m L k := by
  rintro k (h | h | ⟨e, he, hk⟩)
  · exact .inl h
  · exact .inr (.inl h)
  · refine .inr (.inr ?_)
    have : k ∈ (mput L id v').map (fun e => e.2.1) := List.mem_map.2 ⟨e, he, hk⟩
    rw [mput_qs hl hv] at this
    obtain ⟨e, he, hk⟩ := List.mem_map.1 this
    exact ⟨e, he, hk⟩
/-- One more replica. -/
theorem Mb.add (h : Mb W p m now last L) {id : Int} {v : RpV} (hl : mlook L id = none) (hv : v.1 = W.heap.size) {w2 : World} (hm : IsMp (Value.int .u64) w2 m (mput (ptrs L) id (rpP v))) (hg : (W.alloc (.cells (rpC id v) 75)).grownBy w2 (some m)) : Mb w2 p m now last (L ++ [(id, v)]) := by
  have ha := below_alloc (Below.refl W.heap.size W) (.cells (rpC id v) 75)
  have h1 := h.below ha
  have hn := heap_alloc_new W (.cells (rpC id v) 75)
  have hmlt : m < W.heap.size := h.mp.lt
  refine ⟨(hg.block p (h1.lt) (fun e => h.pm (by injection e with e; exact e.symm))).trans h1.box, ?_, fun e he => ?_, ?_, ?_⟩
  · rw [ptrs_put, mput_none L id v hl] at hm
    exact hm
  · rcases List.mem_append.1 he with he | he
    · exact (hg.block _ (h1.fl _ (.inr (.inr ⟨e, he, rfl⟩))) (fun hq => h.qm e he (by injection hq))).trans (h1.rp e he)
    · have he : e = (id, v) := by simpa using he
      subst he
      show w2.heap[v.1]? = _
      rw [hv]
      exact (hg.block _ (blk_lt hn) (fun hq => by injection hq with hq; omega)).trans hn
  · rw [List.map_append]
    refine List.nodup_append.2 ⟨h.nd, by simp, fun x hx y hy => ?_⟩
    have hy : y = v.1 := by simpa using hy
    obtain ⟨e, he, rfl⟩ := List.mem_map.1 hx
    have := blk_lt (h.rp e he)
    omega
  · show (mkeys (L ++ [(id, v)])).Nodup
    unfold mkeys
    rw [List.map_append]
    refine List.nodup_append.2 ⟨h.kd, by simp, fun x hx y hy => ?_⟩
    have hy : y = id := by simpa using hy
    subst hy
    rintro rfl
    exact mlook_none.1 hl hx
end
end Go.Proofs.Ytmbhicjjbgbneaa
