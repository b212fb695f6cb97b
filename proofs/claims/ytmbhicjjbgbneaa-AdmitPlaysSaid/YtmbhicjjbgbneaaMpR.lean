/- A range over a map, entry by entry, in whatever order. -/
import Derived.Test.YtmbhicjjbgbneaaMpU
import Derived.Test.YtmbhicjjbgbneaaWMore
import Derived.Maps.RangeRun
import Derived.Maps.Range
namespace Go.Proofs.Ytmbhicjjbgbneaa
open Go.RowKit Go.ChangeMaps Go.Proofs.YtmbhicjjbgbneaaW.PrintWords Go.Proofs.YtmbhicjjbgbneaaW.PrintLast Go.Proofs.YtmbhicjjbgbneaaW.PrintMore
set_option linter.unusedVariables false
set_option linter.unusedSimpArgs false
set_option maxRecDepth 100000
section
variable {K : Type} {P : Program} {κ : K → Value} {t kt et : TypeId} {w : World} {b r : Nat} {L left : List (K × Value)}
/-- Block r is an iterator over the map at b; the entries of left are still to come. -/
def Rg (κ : K → Value) (w : World) (b r : Nat) (L left : List (K × Value)) : Prop :=
  ∃ (Z : List (MapEntry × (K × Value))) (es : Array MapEntry) (clock since c0 : Nat) (seen : Array Nat), w.heap[b]? = some (.map es clock) ∧ es.toList = Z.map Prod.fst ∧ L = Z.map Prod.snd ∧ (∀ z ∈ Z, z.1.key = κ z.2.1 ∧ z.1.val = z.2.2) ∧
    (∀ e ∈ es.toList, e.born < clock) ∧ (es.toList.map MapEntry.born).Nodup ∧ w.heap[r]? = some (.mapIter (some b) since seen c0) ∧ (∀ e ∈ es.toList, e.born < since) ∧ since ≤ c0 ∧ since ≤ clock ∧ left = (Z.filter (fun z => !seen.contains z.1.born)).map Prod.snd
theorem ents_zip : ∀ (es : List MapEntry) (L : List (K × Value)), Ents κ es L → ∃ Z : List (MapEntry × (K × Value)), es = Z.map Prod.fst ∧ L = Z.map Prod.snd ∧ ∀ z ∈ Z, z.1.key = κ z.2.1 ∧ z.1.val = z.2.2 := by
  intro es
  induction es with
  | nil =>
    intro L h
    have : L = [] := by
      have h := congrArg List.length h
      exact List.eq_nil_of_length_eq_zero (by simpa using h.symm)
    subst this
    exact ⟨[], rfl, rfl, fun z hz => absurd hz (by simp)⟩
  | cons e es ih =>
    intro L h
    match L, h with
    | [], h => exact absurd (congrArg List.length h) (by simp)
    | p :: L, h =>
      have h' : (e.key, e.val) = entOf κ p ∧ es.map (fun e => (e.key, e.val)) = L.map (entOf κ) := by
        have := List.cons.inj (show (e.key, e.val) :: es.map (fun e => (e.key, e.val)) = entOf κ p :: L.map (entOf κ) from h)
        exact this
      obtain ⟨Z, h1, h2, h3⟩ := ih L h'.2
      refine ⟨(e, p) :: Z, by rw [h1]; rfl, by rw [h2]; rfl, fun z hz => ?_⟩
      rcases List.mem_cons.1 hz with rfl | hz
      · have := h'.1
        unfold entOf at this
        injection this with a b
        exact ⟨a, b⟩
      · exact h3 z hz
theorem Rg.mp (h : Rg κ w b r L left) : IsMp κ w b L := by
  obtain ⟨Z, es, clock, since, c0, seen, hb, h1, h2, h3, h4, h5, -⟩ := h
  refine ⟨es, clock, hb, ?_, h4, h5⟩
  unfold Ents
  rw [h1, h2, List.map_map, List.map_map]
  exact List.map_congr_left (fun z hz => by
    have := h3 z hz
    show (z.1.key, z.1.val) = entOf κ z.2
    unfold entOf
    rw [this.1, this.2])
theorem Rg.lt (h : Rg κ w b r L left) : b < w.heap.size ∧ r < w.heap.size := by
  obtain ⟨Z, es, clock, since, c0, seen, hb, h1, h2, h3, h4, h5, hr, -⟩ := h
  exact ⟨(Array.getElem?_eq_some_iff.1 hb).1, (Array.getElem?_eq_some_iff.1 hr).1⟩
theorem Rg.move {w' : World} (h : Rg κ w b r L left) (h1 : w'.heap[b]? = w.heap[b]?) (h2 : w'.heap[r]? = w.heap[r]?) : Rg κ w' b r L left := by
  obtain ⟨Z, es, clock, since, c0, seen, hb, hz1, hz2, hz3, h4, h5, hr, hrest⟩ := h
  exact ⟨Z, es, clock, since, c0, seen, h1.trans hb, hz1, hz2, hz3, h4, h5, h2.trans hr, hrest⟩
theorem Rg.below {w' : World} (h : Rg κ w b r L left) (hb : Below w.heap.size w w') : Rg κ w' b r L left := h.move (hb.block b h.lt.1) (hb.block r h.lt.2)
theorem run_mrange (ht : P.underlying t = some (.map kt et)) (h : IsMp κ w b L) : ∃ w', (Instr.range t (.map (some b))).run P w = .ok (.pointer (some ⟨w.heap.size, 0, none⟩)) w' ∧ Rg κ w' b w.heap.size L L ∧ Below w.heap.size w w' ∧ w'.heap.size = w.heap.size + 1 := by
  have hlt := h.lt
  obtain ⟨es, clock, hb, hE, hc, hn⟩ := h
  obtain ⟨Z, h1, h2, h3⟩ := ents_zip es.toList L hE
  refine ⟨_, run_range_map w t kt et b es clock ht hb, ⟨Z, es, clock, clock, clock, #[], ?_, h1, h2, h3, hc, hn, heap_alloc_new w _, hc, Nat.le_refl _, Nat.le_refl _, ?_⟩, below_alloc (Below.refl _ _) _, by simp⟩
  · rw [heap_alloc_old w _ b hlt]; exact hb
  · rw [h2]
    congr 1
    exact (List.filter_eq_self.2 (fun z _ => by simp)).symm
theorem sb_same {o0 : Obj} (h : w.heap[r]? = some o0) (o : Obj) : (setBlock w r o).heap[r]? = some o := by
  have hlt : r < w.heap.size := (Array.getElem?_eq_some_iff.1 h).1
  simp [setBlock, hlt]
theorem sb_other (w : World) (r : Nat) (o : Obj) {i : Nat} (hne : i ≠ r) : (setBlock w r o).heap[i]? = w.heap[i]? := by
  simp [setBlock, Array.getElem?_setIfInBounds, Ne.symm hne]
theorem filter_out {α : Type} (f : α → Nat) : ∀ (l : List α), (l.map f).Nodup → ∀ (A B : List α) (z : α), l = A ++ z :: B → l.filter (fun y => !(f y == f z)) = A ++ B := by
  rintro l hn A B z rfl
  rw [List.map_append, List.map_cons] at hn
  have h := List.nodup_append.1 hn
  have hz := List.nodup_cons.1 h.2.1
  rw [List.filter_append, List.filter_cons_of_neg (by simp)]
  congr 1
  · exact List.filter_eq_self.2 (fun y hy => by
      have := h.2.2 (f y) (List.mem_map.2 ⟨y, hy, rfl⟩) (f z) List.mem_cons_self
      simpa using this)
  · exact List.filter_eq_self.2 (fun y hy => by
      have : f y ≠ f z := fun e => hz.1 (by rw [← e]; exact List.mem_map.2 ⟨y, hy, rfl⟩)
      simpa using this)
/-- The step. -/
theorem run_mnext (h : Rg κ w b r L left) (ty : TypeId) :
    (left = [] ∧ (Instr.next (.pointer (some ⟨r, 0, none⟩)) false ty).run P w = .ok (.tuple #[.bool false]) w) ∨
    ∃ p l1 l2 w', left = l1 ++ p :: l2 ∧ (Instr.next (.pointer (some ⟨r, 0, none⟩)) false ty).run P w = .ok (.tuple #[.bool true, κ p.1, p.2]) w' ∧ Rg κ w' b r L (l1 ++ l2) ∧ w.grownBy w' (some r) ∧ w'.heap.size = w.heap.size ∧ (Instr.entry (.pointer (some ⟨r, 0, none⟩))).run P w' = .ok (.tuple #[κ p.1, p.2]) w' := by
  obtain ⟨Z, es, clock, since, c0, seen, hb, h1, h2, h3, h4, h5, hr, hold, hsc, hsk, rfl⟩ := h
  have hne : b ≠ r := by
    rintro rfl
    rw [hb] at hr
    cases hr
  rcases run_next_at (P := P) w ty r b since c0 seen es clock hr hb hold hsc with ⟨h0, hrun⟩ | ⟨e, he, w1, hal, hrun⟩
  · refine .inl ⟨?_, hrun⟩
    rw [List.filter_eq_nil_iff.2 (fun z hz => ?_)]
    · rfl
    · have hm : z.1 ∈ es.toList := by rw [h1]; exact List.mem_map.2 ⟨z, hz, rfl⟩
      have := all_seen es seen h0 z.1 hm
      simpa using this
  · have hem : e ∈ es.toList ∧ seen.contains e.born = false := by
      unfold leftOf at he
      simpa using he
    obtain ⟨z, hz, hze⟩ := List.mem_map.1 (show e ∈ Z.map Prod.fst by rw [← h1]; exact hem.1)
    subst hze
    have hzf : z ∈ Z.filter (fun z => !seen.contains z.1.born) := List.mem_filter.2 ⟨hz, by simpa using hem.2⟩
    obtain ⟨A, B, hAB⟩ := List.append_of_mem hzf
    have hr1 : w1.heap[r]? = some (.mapIter (some b) since seen c0) := by rcases hal with rfl | rfl <;> exact hr
    have hb1 : w1.heap[b]? = some (.map es clock) := by rcases hal with rfl | rfl <;> exact hb
    have hnz : (Z.map (fun z => z.1.born)).Nodup := by
      have : Z.map (fun z => z.1.born) = es.toList.map MapEntry.born := by rw [h1, List.map_map]; rfl
      rw [this]; exact h5
    have hnf : ((Z.filter (fun z => !seen.contains z.1.born)).map (fun z => z.1.born)).Nodup := hnz.sublist (List.filter_sublist.map _)
    have hfo := filter_out (fun z : MapEntry × (K × Value) => z.1.born) _ hnf A B z hAB
    rw [List.filter_filter] at hfo
    have hbb : (setBlock w1 r (.mapIter (some b) since (seen.push z.1.born) clock)).heap[b]? = some (.map es clock) := (sb_other w1 r _ hne).trans hb1
    have hrr : (setBlock w1 r (.mapIter (some b) since (seen.push z.1.born) clock)).heap[r]? = some (.mapIter (some b) since (seen.push z.1.born) clock) := sb_same hr1 _
    have hkv := h3 z hz
    refine .inr ⟨z.2, A.map Prod.snd, B.map Prod.snd, setBlock w1 r (.mapIter (some b) since (seen.push z.1.born) clock), ?_, ?_, ?_, ?_, ?_, ?_⟩
    · rw [hAB, List.map_append, List.map_cons]
    · rw [← hkv.1, ← hkv.2]; exact hrun
    · refine ⟨Z, es, clock, since, clock, seen.push z.1.born, hbb, h1, h2, h3, h4, h5, hrr, hold, hsk, hsk, ?_⟩
      rw [← List.map_append, ← hfo]
      congr 1
      refine List.filter_congr (fun y hy => ?_)
      have : (seen.push z.1.born).contains y.1.born = (seen.contains y.1.born || y.1.born == z.1.born) := by
        rw [Bool.eq_iff_iff]
        simp
      rw [this]
      simp [Bool.and_comm]
    · have hg : w1.grownBy (setBlock w1 r (.mapIter (some b) since (seen.push z.1.born) clock)) (some r) := ⟨rfl, rfl, rfl, by simp [setBlock], fun i hi hne => sb_other w1 r _ (fun e => hne (by rw [e]))⟩
      rcases hal with rfl | rfl
      · exact hg
      · exact ⟨hg.os, hg.tape, hg.output, hg.size, fun i hi hn => hg.block i hi hn⟩
    · rcases hal with rfl | rfl <;> simp [setBlock]
    · have hent := run_entry_at (P := P) _ r b since seen es clock z.1 hrr hbb hem.1 h5
      rw [hkv.1, hkv.2] at hent
      exact hent
end
theorem Rg.left_eq {κ : Int → Value} {w : World} {b r : Nat} {L left : List (Int × Value)} (h : Rg κ w b r L left) : w.rangeLeft b r = left.length := by
  obtain ⟨Z, es, clock, since, c0, seen, hb, h1, h2, h3, h4, h5, hr, hold, hsc, hsk, rfl⟩ := h
  simp only [World.rangeLeft, hb, hr]
  have : (leftOf es seen).size = (Z.filter (fun z => !seen.contains z.1.born)).length := by
    unfold leftOf
    rw [← Array.length_toList, Array.toList_filter, h1, List.filter_map, List.length_map]
    rfl
  rw [this, List.length_map]
end Go.Proofs.Ytmbhicjjbgbneaa
