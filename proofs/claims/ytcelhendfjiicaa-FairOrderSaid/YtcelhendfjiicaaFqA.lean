/- A fair queue, as plain lists: whose turn it is. -/
import Derived.Test.YtcelhendfjiicaaMpU
namespace Go.Proofs.Ytcelhendfjiicaa
set_option linter.unusedVariables false
set_option linter.unusedSimpArgs false
/-- An item: its flow, cost, number. -/
abbrev ItemV := Int × Int × Int
/-- A flow that waits: its number, credit, items. -/
abbrev Fl := Int × Int × List ItemV
abbrev WtV := List (Int × Int)
def wof (wt : WtV) (n : Int) : Int := max ((mlook wt n).getD 0) 1
def gainF (wt : WtV) (q : Int) (n : Int) : Int := wof wt n * q
def hcF (f : Fl) : Int := (f.2.2.headD (0, 0, 0)).2.1
def roF (wt : WtV) (q : Int) (f : Fl) : Int := max (hcF f - f.2.1 - 1) 0 / gainF wt q f.1
def leastF (wt : WtV) (q : Int) (l : List Fl) : Int := l.foldl (fun a f => min a (roF wt q f)) 1048576
def roundsF (wt : WtV) (q : Int) (l : List Fl) : List Fl := l.map (fun f => (f.1, f.2.1 + leastF wt q l * gainF wt q f.1, f.2.2))
def grow1 (wt : WtV) (q : Int) (b : Bool) (f : Fl) : Fl := if b then f else (f.1, f.2.1 + gainF wt q f.1, f.2.2)
def turnR (wt : WtV) (q : Int) (t : Nat) (b : Bool) (l : List Fl) : List Fl := if b = false ∧ 0 < t ∧ t % l.length = 0 then roundsF wt q l else l
/-- What Pop does from turn t on, k turns at most. -/
def popRun (wt : WtV) (q : Int) : Nat → Nat → Bool → List Fl → Option (ItemV × Bool × List Fl)
  | 0, _, _, _ => none
  | k + 1, t, b, l =>
    match turnR wt q t b l with
    | [] => none
    | f :: r =>
      match f.2.2 with
      | [] => none
      | x :: xs =>
        if x.2.1 ≤ (grow1 wt q b f).2.1 then
          some (if xs = [] then (x, false, r) else (x, true, (f.1, (grow1 wt q b f).2.1 - x.2.1, xs) :: r))
        else popRun wt q k (t + 1) false (r ++ [grow1 wt q b f])
def CostJ (f : Fl) : Prop := f.2.2 ≠ [] ∧ (∀ x ∈ f.2.2, x.1 = f.1 ∧ 1 ≤ x.2.1 ∧ x.2.1 ≤ 1048576) ∧ 0 ≤ f.2.1
/-- A flow whose turn it is not: its credit is less than its first item costs. -/
def FlJ (f : Fl) : Prop := CostJ f ∧ f.2.1 < hcF f
def topCr : Int := 1001 * 1048576
def FqJ (b : Bool) (l : List Fl) : Prop :=
  match l with
  | [] => True
  | f :: r => (if b then CostJ f ∧ f.2.1 ≤ topCr else FlJ f) ∧ ∀ g ∈ r, FlJ g
def WtJ (wt : WtV) : Prop := ∀ e ∈ wt, 1 ≤ e.2 ∧ e.2 ≤ 1000
section
variable {wt : WtV} {q : Int} {l r : List Fl} {f : Fl} {b : Bool} {n : Int}
theorem wof_bd (hw : WtJ wt) (n : Int) : 1 ≤ wof wt n ∧ wof wt n ≤ 1000 := by
  unfold wof
  cases h : mlook wt n with
  | none => simp only [Option.getD_none]; omega
  | some v =>
    have := hw _ (mlook_mem h)
    simp only [Option.getD_some]
    dsimp only at this
    omega
theorem gain_bd (hw : WtJ wt) (h1 : 1 ≤ q) (h2 : q ≤ 1048576) (n : Int) : 1 ≤ gainF wt q n ∧ gainF wt q n ≤ 1048576000 := by
  have := wof_bd hw n
  unfold gainF
  refine ⟨by have := Int.mul_le_mul this.1 h1 (by omega) (by omega); omega, by have := Int.mul_le_mul this.2 h2 (by omega) (by omega); omega⟩
theorem hc_bd (h : CostJ f) : 1 ≤ hcF f ∧ hcF f ≤ 1048576 := by
  obtain ⟨h1, h2, -⟩ := h
  unfold hcF
  cases hx : f.2.2 with
  | nil => exact absurd hx h1
  | cons x xs => exact (h2 x (by rw [hx]; exact List.mem_cons_self)).2
theorem FqJ.all (h : FqJ false l) : ∀ f ∈ l, FlJ f := by
  cases l with
  | nil => intro f hf; cases hf
  | cons f r =>
    intro g hg
    unfold FqJ at h
    rcases List.mem_cons.1 hg with rfl | hg
    · simpa using h.1
    · exact h.2 g hg
theorem FqJ.of_all (h : ∀ f ∈ l, FlJ f) : FqJ false l := by
  cases l with
  | nil => trivial
  | cons f r => exact ⟨by simpa using h f List.mem_cons_self, fun g hg => h g (List.mem_cons_of_mem _ hg)⟩
theorem FqJ.cost (h : FqJ b l) : ∀ f ∈ l, CostJ f ∧ f.2.1 ≤ topCr := by
  cases l with
  | nil => intro f hf; cases hf
  | cons f r =>
    intro g hg
    unfold FqJ at h
    have hl : ∀ g, FlJ g → CostJ g ∧ g.2.1 ≤ topCr := fun g hg => ⟨hg.1, by have := (hc_bd hg.1).2; have := hg.2; unfold topCr; omega⟩
    rcases List.mem_cons.1 hg with rfl | hg
    · cases b
      · exact hl _ (by simpa using h.1)
      · simpa using h.1
    · exact hl _ (h.2 g hg)
theorem FqJ.tail (h : FqJ b (f :: r)) : FqJ false r := FqJ.of_all h.2
theorem roF_bd (hw : WtJ wt) (h1 : 1 ≤ q) (h2 : q ≤ 1048576) (h : CostJ f) : 0 ≤ roF wt q f ∧ roF wt q f ≤ 1048575 := by
  have hg := gain_bd hw h1 h2 f.1
  have hc := hc_bd h
  have hcr := h.2.2
  unfold roF
  have h0 : 0 ≤ max (hcF f - f.2.1 - 1) 0 := by omega
  have h9 : max (hcF f - f.2.1 - 1) 0 ≤ 1048575 := by omega
  exact ⟨Int.ediv_nonneg h0 (by omega), Int.le_trans (Int.ediv_le_self _ h0) h9⟩
theorem fold_le (g : Fl → Int) : ∀ (l : List Fl) (a : Int), (l.foldl (fun a f => min a (g f)) a ≤ a) ∧ (∀ f ∈ l, l.foldl (fun a f => min a (g f)) a ≤ g f) ∧ (l.foldl (fun a f => min a (g f)) a = a ∨ ∃ f ∈ l, l.foldl (fun a f => min a (g f)) a = g f) := by
  intro l
  induction l with
  | nil => intro a; exact ⟨Int.le_refl _, (fun f hf => by cases hf), Or.inl rfl⟩
  | cons f r ih =>
    intro a
    obtain ⟨i1, i2, i3⟩ := ih (min a (g f))
    simp only [List.foldl_cons]
    refine ⟨by omega, fun x hx => ?_, ?_⟩
    · rcases List.mem_cons.1 hx with rfl | hx
      · omega
      · exact i2 x hx
    · rcases i3 with i3 | ⟨x, hx, i3⟩
      · by_cases h : a ≤ g f
        · left; rw [i3]; omega
        · right; exact ⟨f, List.mem_cons_self, by rw [i3]; omega⟩
      · right; exact ⟨x, List.mem_cons_of_mem _ hx, i3⟩
theorem least_le (f : Fl) (hf : f ∈ l) : leastF wt q l ≤ roF wt q f := (fold_le (roF wt q) l 1048576).2.1 f hf
theorem least_bd (hw : WtJ wt) (h1 : 1 ≤ q) (h2 : q ≤ 1048576) (h : ∀ f ∈ l, CostJ f) : 0 ≤ leastF wt q l ∧ leastF wt q l ≤ 1048576 := by
  obtain ⟨i1, i2, i3⟩ := fold_le (roF wt q) l 1048576
  refine ⟨?_, i1⟩
  unfold leastF
  rcases i3 with i3 | ⟨x, hx, i3⟩
  · rw [i3]; omega
  · rw [i3]; exact (roF_bd hw h1 h2 (h x hx)).1
theorem least_at (hw : WtJ wt) (h1 : 1 ≤ q) (h2 : q ≤ 1048576) (h : ∀ f ∈ l, CostJ f) (hne : l ≠ []) : ∃ i, ∃ hi : i < l.length, leastF wt q l = roF wt q l[i] := by
  obtain ⟨i1, i2, i3⟩ := fold_le (roF wt q) l 1048576
  rcases i3 with i3 | ⟨x, hx, i3⟩
  · cases l with
    | nil => exact absurd rfl hne
    | cons f r =>
      have := i2 f List.mem_cons_self
      have := (roF_bd hw h1 h2 (h f List.mem_cons_self)).2
      omega
  · obtain ⟨i, hi, e⟩ := List.getElem_of_mem hx
    exact ⟨i, hi, by rw [e]; exact i3⟩
theorem rounds_len : (roundsF wt q l).length = l.length := by unfold roundsF; rw [List.length_map]
/-- What the rounds leave each flow: less than its first item costs. -/
theorem rounds_J (hw : WtJ wt) (h1 : 1 ≤ q) (h2 : q ≤ 1048576) (h : ∀ f ∈ l, FlJ f) : ∀ f ∈ roundsF wt q l, FlJ f := by
  intro g hg
  unfold roundsF at hg
  obtain ⟨f, hf, rfl⟩ := List.mem_map.1 hg
  have hj := h f hf
  have hg := gain_bd hw h1 h2 f.1
  have hl := least_le (wt := wt) (q := q) f hf
  have hb := least_bd hw h1 h2 (fun f hf => (h f hf).1)
  have hm : leastF wt q l * gainF wt q f.1 ≤ roF wt q f * gainF wt q f.1 := Int.mul_le_mul_of_nonneg_right hl (by omega)
  have hd : roF wt q f * gainF wt q f.1 ≤ max (hcF f - f.2.1 - 1) 0 := by unfold roF; exact Int.ediv_mul_le _ (by omega)
  have hp : 0 ≤ leastF wt q l * gainF wt q f.1 := Int.mul_nonneg hb.1 (by omega)
  have hlt := hj.2
  refine ⟨⟨hj.1.1, hj.1.2.1, ?_⟩, ?_⟩
  · have := hj.1.2.2; show 0 ≤ f.2.1 + leastF wt q l * gainF wt q f.1; omega
  · show f.2.1 + leastF wt q l * gainF wt q f.1 < hcF f
    omega
/-- One flow will be served at its next turn. -/
theorem rounds_at (hw : WtJ wt) (h1 : 1 ≤ q) (h2 : q ≤ 1048576) (h : ∀ f ∈ l, FlJ f) (hne : l ≠ []) : ∃ i, ∃ hi : i < (roundsF wt q l).length, hcF (roundsF wt q l)[i] ≤ (roundsF wt q l)[i].2.1 + gainF wt q (roundsF wt q l)[i].1 := by
  obtain ⟨i, hi, e⟩ := least_at hw h1 h2 (fun f hf => (h f hf).1) hne
  refine ⟨i, by rw [rounds_len]; exact hi, ?_⟩
  have hj := h l[i] (List.getElem_mem hi)
  have hg := gain_bd hw h1 h2 l[i].1
  unfold roundsF
  simp only [List.getElem_map]
  show hcF l[i] ≤ l[i].2.1 + leastF wt q l * gainF wt q l[i].1 + gainF wt q l[i].1
  rw [e]
  have hlt := hj.2
  have hd : max (hcF l[i] - l[i].2.1 - 1) 0 < (roF wt q l[i] + 1) * gainF wt q l[i].1 := by
    unfold roF
    have := Int.lt_ediv_add_one_mul_self (max (hcF l[i] - l[i].2.1 - 1) 0) (b := gainF wt q l[i].1) (by omega)
    exact this
  rw [Int.add_mul, Int.one_mul] at hd
  omega
end
end Go.Proofs.Ytcelhendfjiicaa
