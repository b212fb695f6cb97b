/- What is read as data, as values of a kind. -/
import Derived.Test.YtmbhicjjbgbneaaWMore
import Derived.Test.YtmbhicjjbgbneaaWArr
import Derived.ChangeArms
import Derived.OpenShut
import Derived.DataReads
namespace Go.Proofs.Ytmbhicjjbgbneaa
open Go.RowKit Go.Proofs.YtmbhicjjbgbneaaW.PrintWords Go.Proofs.YtmbhicjjbgbneaaW.PrintLast Go.Proofs.YtmbhicjjbgbneaaW.PrintMore
set_option linter.unusedVariables false
set_option linter.unusedSimpArgs false

/-- What is read as data of type t is of kind d, and good. -/
def Opens {α : Type} (P : Program) (t : TypeId) (d : Kd α) (good : α → Prop) : Prop :=
  ∀ (H : Type) (enc : TypeId × Value → H) (w : World) (n : Nat) (cs : List Value) (y : DataW H × List MemPlace), DataW.trod enc P w 0 (fun _ => true) true n t cs = some y → ∃ x, d.K w x cs ∧ good x
def AnyG {α : Type} (_ : α) : Prop := True

theorem Opens.int {P : Program} {t : TypeId} {k : IntKind} (ht : P.underlying t = some (.int k)) : Opens P t (Kd.int k) (fun n => (Lit.int k n).wf = true) := by
  intro H enc w n cs y h
  obtain ⟨m, rfl, -, hw⟩ := DataW.trod_int ht h
  exact ⟨m, rfl, hw⟩
theorem Opens.bool {P : Program} {t : TypeId} (ht : P.underlying t = some .bool) : Opens P t Kd.bool AnyG := by
  intro H enc w n cs y h
  obtain ⟨m, rfl, -⟩ := DataW.trod_bool ht h
  exact ⟨m, rfl, trivial⟩
theorem Opens.string {P : Program} {t : TypeId} (ht : P.underlying t = some .string) : Opens P t Kd.string (fun s => s.size ≤ maxLen) := by
  intro H enc w n cs y h
  obtain ⟨m, rfl, -, hw⟩ := DataW.trod_string ht h
  exact ⟨m, rfl, hw⟩
theorem pick_list {α : Type} (n : Nat) (Q : Nat → α → Prop) (h : ∀ r, r < n → ∃ z, Q r z) : ∃ xs : List α, xs.length = n ∧ ∀ r p, xs[r]? = some p → Q r p := by
  induction n with
  | zero => exact ⟨[], rfl, fun r p hr => by simp at hr⟩
  | succ k ih =>
    obtain ⟨xs, h1, h2⟩ := ih (fun r hr => h r (by omega))
    obtain ⟨z, hz⟩ := h k (by omega)
    refine ⟨xs ++ [z], by simp [h1], fun r p hr => ?_⟩
    rcases Nat.lt_or_ge r xs.length with hlt | hge
    · rw [List.getElem?_append_left hlt] at hr
      exact h2 r p hr
    · rw [List.getElem?_append_right hge] at hr
      have hr0 : r = k := by
        have := (List.getElem?_eq_some_iff.1 hr).1
        simp at this; omega
      subst hr0
      have : z = p := by simpa [h1] using hr
      subst this; exact hz
theorem Opens.slice {α : Type} {P : Program} {t e : TypeId} {d : Kd α} {g : α → Prop} (ht : P.underlying t = some (.slice e)) (hc : P.cellsOf e = d.sz) (h : Opens P e d g) : Opens P t (Kd.slice e d) (fun xs => (∀ x ∈ xs, g x) ∧ xs.length ≤ maxLen) := by
  intro H enc w n cs y hy
  rcases DataW.trod_slice ht hy with ⟨rfl, -⟩ | ⟨a, len, cap, elems, rest, m, -, rfl, -, -, hlc, hcm, hel, hE, -, -⟩
  · exact ⟨[], ⟨none, 0, rfl, by simp, rfl, by simp, fun h => absurd h (Nat.lt_irrefl 0)⟩, by simp, by simp⟩
  · obtain ⟨xs, hl, hx⟩ := pick_list len (fun r z => g z ∧ ∃ c, c.length = d.sz ∧ d.K w z c ∧ ∀ i u, c[i]? = some u → w.cell? (a.add (r * d.sz + i)) = some u) (fun r hr => by
      have h5 := hE r hr
      rw [List.getElem?_eq_getElem (by omega)] at h5
      obtain ⟨c, hc1, hc2⟩ := Option.bind_eq_some_iff.1 h5
      obtain ⟨z, hz, hg⟩ := h H enc w m c _ hc2
      rw [hc] at hc1
      obtain ⟨-, hl, hcell⟩ := World.cells?_some hc1
      refine ⟨z, hg, c, hl, hz, fun i u hu => ?_⟩
      have hi : i < c.length := (List.getElem?_eq_some_iff.1 hu).1
      have h6 := hcell i (by omega)
      rw [hu] at h6
      rw [← h6, add_add])
    have hml : maxLen ≤ 9223372036854775807 := by unfold maxLen; omega
    refine ⟨xs, ⟨some a, cap, by rw [hl], by omega, rfl, by omega, fun _ => ⟨a, rfl, fun j p hj => ?_⟩⟩, fun x hxm => ?_, by omega⟩
    · obtain ⟨-, c, h1, h2, h3⟩ := hx j p hj
      exact ⟨c, h1, h2, h3⟩
    · obtain ⟨j, hj, rfl⟩ := List.mem_iff_getElem.1 hxm
      exact (hx j _ (List.getElem?_eq_getElem hj)).1

/-- A struct's fields from cell off on. -/
def OpensFs {α : Type} (P : Program) (off : Nat) (fs : List Field) (d : Kd α) (good : α → Prop) : Prop :=
  ∀ (H : Type) (enc : TypeId × Value → H) (w : World) (n : Nat) (cs : List Value), off + d.sz ≤ cs.length → (∀ f ∈ fs, ∃ y, DataW.trod enc P w 0 (fun _ => true) true n f.type ((cs.drop f.offset).take (P.cellsOf f.type)) = some y) → ∃ x, d.K w x ((cs.drop off).take d.sz) ∧ good x
theorem OpensFs.one {α : Type} {P : Program} {off : Nat} {f : Field} {d : Kd α} {g : α → Prop} (ho : f.offset = off) (hc : P.cellsOf f.type = d.sz) (h : Opens P f.type d g) : OpensFs P off [f] d g := by
  intro H enc w n cs hl hf
  obtain ⟨y, hy⟩ := hf f (by simp)
  rw [ho, hc] at hy
  exact h H enc w n _ y hy
theorem OpensFs.cons {α β : Type} {P : Program} {off : Nat} {f : Field} {fs : List Field} {d : Kd α} {d' : Kd β} {g : α → Prop} {g' : β → Prop} (ho : f.offset = off) (hc : P.cellsOf f.type = d.sz) (h : Opens P f.type d g) (hr : OpensFs P (off + d.sz) fs d' g') : OpensFs P off (f :: fs) (Kd.pair d d') (fun x => g x.1 ∧ g' x.2) := by
  intro H enc w n cs hl hf
  have hsz : (Kd.pair d d').sz = d.sz + d'.sz := rfl
  rw [hsz] at hl
  obtain ⟨y, hy⟩ := hf f (by simp)
  rw [ho, hc] at hy
  obtain ⟨x, hx, hg⟩ := h H enc w n _ y hy
  obtain ⟨x', hx', hg'⟩ := hr H enc w n cs (by omega) (fun f hm => hf f (by simp [hm]))
  refine ⟨(x, x'), ⟨_, _, ?_, hx, hx'⟩, hg, hg'⟩
  rw [hsz, List.take_add, List.drop_drop]
theorem Opens.struct {α : Type} {P : Program} {t : TypeId} {fs : Array Field} {d : Kd α} {g : α → Prop} (ht : P.underlying t = some (.struct fs)) (hc : P.cellsOf t = d.sz) (h : OpensFs P 0 fs.toList d g) : Opens P t d g := by
  intro H enc w n cs y hy
  obtain ⟨xs, m, -, -, hl, hlen, hf⟩ := DataW.trod_struct ht hy
  obtain ⟨x, hx, hg⟩ := h H enc w m cs (by omega) (fun f hm => by
    obtain ⟨i, hi, rfl⟩ := List.mem_iff_getElem.1 hm
    have hi2 : i < fs.size := by simpa using hi
    have h2 := hf i fs[i] (Array.getElem?_eq_getElem hi2)
    rw [List.getElem?_eq_getElem (by omega)] at h2
    exact ⟨_, h2⟩)
  refine ⟨x, ?_, hg⟩
  rwa [List.drop_zero, List.take_of_length_le (by omega)] at hx
theorem Opens.array {α : Type} {P : Program} {t e : TypeId} {k : Nat} {d : Kd α} {g : α → Prop} (hs : 0 < d.sz) (ht : P.underlying t = some (.array k e)) (hc : P.cellsOf e = d.sz) (hct : P.cellsOf t = k * d.sz) (h : Opens P e d g) : Opens P t (Kd.arr k d hs) (fun xs => ∀ x ∈ xs, g x) := by
  intro H enc w n cs y hy
  obtain ⟨xs, m, -, -, hl, hlen, hf⟩ := DataW.trod_array ht hy
  obtain ⟨zs, hzl, hz⟩ := pick_list k (fun r z => g z ∧ d.K w z ((cs.drop (r * d.sz)).take d.sz)) (fun r hr => by
    have h2 := hf r hr
    rw [List.getElem?_eq_getElem (by omega), hc] at h2
    obtain ⟨z, h3, h4⟩ := h H enc w m _ _ h2
    exact ⟨z, h4, h3⟩)
  refine ⟨zs, ⟨hzl, by rw [hl, hct, hzl], fun j p hj => (hz j p hj).2⟩, fun x hxm => ?_⟩
  obtain ⟨j, hj, rfl⟩ := List.mem_iff_getElem.1 hxm
  exact (hz j _ (List.getElem?_eq_getElem hj)).1
theorem Opens.iso {α β : Type} {P : Program} {t : TypeId} {d : Kd α} {g : α → Prop} (f : β → α) (f' : α → β) (hff : ∀ x, f (f' x) = x) (h : Opens P t d g) : Opens P t (Kd.iso d f) (fun x => g (f x)) := by
  intro H enc w n cs y hy
  obtain ⟨x, hx, hg⟩ := h H enc w n cs y hy
  exact ⟨f' x, by show d.K w (f (f' x)) cs; rw [hff]; exact hx, by show g (f (f' x)); rw [hff]; exact hg⟩

end Go.Proofs.Ytmbhicjjbgbneaa
