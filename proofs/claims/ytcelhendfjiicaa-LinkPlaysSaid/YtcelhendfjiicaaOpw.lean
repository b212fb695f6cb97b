/- What is read as data, as values of a kind, and how much it can be. -/
import Derived.Test.YtcelhendfjiicaaOpn
import Derived.SizedLaws
namespace Go.Proofs.Ytcelhendfjiicaa
open Go.RowKit Go.Proofs.YtcelhendfjiicaaW.PrintWords Go.Proofs.YtcelhendfjiicaaW.PrintLast Go.Proofs.YtcelhendfjiicaaW.PrintMore
set_option linter.unusedVariables false
set_option linter.unusedSimpArgs false

/-- As Opens, of what is within reach. -/
def OpensW {α : Type} (P : Program) (t : TypeId) (d : Kd α) (good : α → Prop) : Prop :=
  ∀ (H : Type) (enc : TypeId × Value → H) (w : World) (n : Nat) (cs : List Value) (y : DataW H × List MemPlace), DataW.trod enc P w 0 (fun _ => true) true n t cs = some y → (∀ m ∈ y.1.weights P t, m ≤ reachBytes) → ∃ x, d.K w x cs ∧ good x
theorem OpensW.of {α : Type} {P : Program} {t : TypeId} {d : Kd α} {good : α → Prop} (h : Opens P t d good) : OpensW P t d good := fun H enc w n cs y hy _ => h H enc w n cs y hy
theorem weights_all_mem {H : Type} {P : Program} {e : TypeId} {d : DataW H} : ∀ {l : List (DataW H)}, d ∈ l → ∀ m ∈ d.weights P e, m ∈ DataW.weightsAll P e l
  | x :: l, hd, m, hm => by
    simp only [DataW.weightsAll, List.mem_append]
    rcases List.mem_cons.1 hd with rfl | hd
    · exact .inl hm
    · exact .inr (weights_all_mem hd m hm)
theorem OpensW.slice {α : Type} {P : Program} {t e : TypeId} {d : Kd α} {g : α → Prop} (ht : P.underlying t = some (.slice e)) (hc : P.cellsOf e = d.sz) (h : OpensW P e d g) : OpensW P t (Kd.slice e d) (fun xs => (∀ x ∈ xs, g x) ∧ xs.length ≤ maxLen ∧ xs.length * P.bytesOf e ≤ reachBytes) := by
  intro H enc w n cs y hy hw
  rcases DataW.trod_slice ht hy with ⟨rfl, -⟩ | ⟨a, len, cap, elems, rest, m, -, rfl, hyv, -, hlc, hcm, hel, hE, -, -⟩
  · exact ⟨[], ⟨none, 0, rfl, by simp, rfl, by simp, fun h => absurd h (Nat.lt_irrefl 0)⟩, by simp, by simp, by simp⟩
  · subst hyv
    have hw1 : (elems.length + rest.length) * P.bytesOf e ≤ reachBytes := by
      have := hw ((elems.length + rest.length) * P.bytesOf e) (by simp [DataW.weights, ht])
      exact this
    have hw2 : ∀ z ∈ elems, ∀ m ∈ z.1.weights P e, m ≤ reachBytes := fun z hz m hm => hw m (by
      simp only [DataW.weights, ht]
      refine List.mem_cons_of_mem _ (List.mem_append_left _ (weights_all_mem (List.mem_map.2 ⟨z, hz, rfl⟩) m hm)))
    obtain ⟨xs, hl, hx⟩ := pick_list len (fun r z => g z ∧ ∃ c, c.length = d.sz ∧ d.K w z c ∧ ∀ i u, c[i]? = some u → w.cell? (a.add (r * d.sz + i)) = some u) (fun r hr => by
      have h5 := hE r hr
      rw [List.getElem?_eq_getElem (by omega)] at h5
      obtain ⟨c, hc1, hc2⟩ := Option.bind_eq_some_iff.1 h5
      obtain ⟨z, hz, hg⟩ := h H enc w m c _ hc2 (hw2 _ (List.getElem_mem _))
      rw [hc] at hc1
      obtain ⟨-, hl, hcell⟩ := World.cells?_some hc1
      refine ⟨z, hg, c, hl, hz, fun i u hu => ?_⟩
      have hi : i < c.length := (List.getElem?_eq_some_iff.1 hu).1
      have h6 := hcell i (by omega)
      rw [hu] at h6
      rw [← h6, add_add])
    have hml : maxLen ≤ 9223372036854775807 := by unfold maxLen; omega
    refine ⟨xs, ⟨some a, cap, by rw [hl], by omega, rfl, by omega, fun _ => ⟨a, rfl, fun j p hj => ?_⟩⟩, fun x hxm => ?_, by omega, ?_⟩
    · obtain ⟨-, c, h1, h2, h3⟩ := hx j p hj
      exact ⟨c, h1, h2, h3⟩
    · obtain ⟨j, hj, rfl⟩ := List.mem_iff_getElem.1 hxm
      exact (hx j _ (List.getElem?_eq_getElem hj)).1
    · rw [hl]
      exact Nat.le_trans (Nat.mul_le_mul_right _ (by omega)) hw1

/-- A struct's fields from cell off on. -/
def OpensFsW {α : Type} (P : Program) (off : Nat) (fs : List Field) (d : Kd α) (good : α → Prop) : Prop :=
  ∀ (H : Type) (enc : TypeId × Value → H) (w : World) (n : Nat) (cs : List Value), off + d.sz ≤ cs.length → (∀ f ∈ fs, ∃ y, DataW.trod enc P w 0 (fun _ => true) true n f.type ((cs.drop f.offset).take (P.cellsOf f.type)) = some y ∧ ∀ m ∈ y.1.weights P f.type, m ≤ reachBytes) → ∃ x, d.K w x ((cs.drop off).take d.sz) ∧ good x
theorem OpensFsW.one {α : Type} {P : Program} {off : Nat} {f : Field} {d : Kd α} {g : α → Prop} (ho : f.offset = off) (hc : P.cellsOf f.type = d.sz) (h : OpensW P f.type d g) : OpensFsW P off [f] d g := by
  intro H enc w n cs hl hf
  obtain ⟨y, hy, hw⟩ := hf f (by simp)
  rw [ho, hc] at hy
  exact h H enc w n _ y hy hw
theorem OpensFsW.cons {α β : Type} {P : Program} {off : Nat} {f : Field} {fs : List Field} {d : Kd α} {d' : Kd β} {g : α → Prop} {g' : β → Prop} (ho : f.offset = off) (hc : P.cellsOf f.type = d.sz) (h : OpensW P f.type d g) (hr : OpensFsW P (off + d.sz) fs d' g') : OpensFsW P off (f :: fs) (Kd.pair d d') (fun x => g x.1 ∧ g' x.2) := by
  intro H enc w n cs hl hf
  have hsz : (Kd.pair d d').sz = d.sz + d'.sz := rfl
  rw [hsz] at hl
  obtain ⟨y, hy, hw⟩ := hf f (by simp)
  rw [ho, hc] at hy
  obtain ⟨x, hx, hg⟩ := h H enc w n _ y hy hw
  obtain ⟨x', hx', hg'⟩ := hr H enc w n cs (by omega) (fun f hm => hf f (by simp [hm]))
  refine ⟨(x, x'), ⟨_, _, ?_, hx, hx'⟩, hg, hg'⟩
  rw [hsz, List.take_add, List.drop_drop]
theorem OpensW.struct {α : Type} {P : Program} {t : TypeId} {fs : Array Field} {d : Kd α} {g : α → Prop} (ht : P.underlying t = some (.struct fs)) (hc : P.cellsOf t = d.sz) (h : OpensFsW P 0 fs.toList d g) : OpensW P t d g := by
  intro H enc w n cs y hy hw
  obtain ⟨xs, m, -, hyv, hl, hlen, hf⟩ := DataW.trod_struct ht hy
  subst hyv
  obtain ⟨x, hx, hg⟩ := h H enc w m cs (by omega) (fun f hm => by
    obtain ⟨i, hi, rfl⟩ := List.mem_iff_getElem.1 hm
    have hi2 : i < fs.size := by simpa using hi
    have h2 := hf i fs[i] (Array.getElem?_eq_getElem hi2)
    rw [List.getElem?_eq_getElem (by omega)] at h2
    refine ⟨_, h2, fun q hq => hw q ?_⟩
    simp only [DataW.weights, ht]
    refine DataW.weights_mem_each (j := i) (t := fs[i].type) (d := (xs[i]'(by omega)).1) ?_ ?_ q hq
    · rw [List.getElem?_map, List.getElem?_eq_getElem (by simpa using hi2)]; simp
    · rw [List.getElem?_map, List.getElem?_eq_getElem (by omega)]; rfl)
  refine ⟨x, ?_, hg⟩
  rwa [List.drop_zero, List.take_of_length_le (by omega)] at hx

end Go.Proofs.Ytcelhendfjiicaa
