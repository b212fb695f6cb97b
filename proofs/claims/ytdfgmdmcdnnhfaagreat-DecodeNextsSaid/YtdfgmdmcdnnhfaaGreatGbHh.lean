/- Plain functions of the heap; Plain functions of vec.Top; Plain law of the heap: what vec.Top hands back; What vec.Top hands back: the greatest ones, in order; The document's Top, as a plain function, and that it is the program's. -/
import Derived.Test.YtdfgmdmcdnnhfaaGreatGbW
import Derived.Test.YtdfgmdmcdnnhfaaGreatWMore
namespace Go.Proofs.YtdfgmdmcdnnhfaaGreat
open Go.RowKit Go.Proofs.YtdfgmdmcdnnhfaaGreatW.PrintWords Go.Proofs.YtdfgmdmcdnnhfaaGreatW.PrintLast Go.Proofs.YtdfgmdmcdnnhfaaGreatW.PrintMore
set_option linter.unusedVariables false
set_option linter.unusedSimpArgs false
set_option maxRecDepth 100000

/-- vec.place.ahead: (place, number). -/
def ahd (p q : Int × Int) : Bool := decide (q.2 < p.2) || (decide (p.2 = q.2) && decide (p.1 < q.1))
def cellsP (L : List (Int × Int)) : List Value := L.flatMap fun p => [.int .i64 p.1, .int .i64 p.2]
theorem cellsP_len (L : List (Int × Int)) : (cellsP L).length = L.length * 2 := by
  induction L with
  | nil => rfl
  | cons p L ih => simp only [cellsP, List.flatMap_cons, List.length_append, List.length_cons, List.length_nil] at ih ⊢; omega
theorem cellsP_get (L : List (Int × Int)) : ∀ i, i < L.length → (cellsP L)[i * 2]? = some (.int .i64 (L.getD i (0, 0)).1) ∧ (cellsP L)[i * 2 + 1]? = some (.int .i64 (L.getD i (0, 0)).2) := by
  induction L with
  | nil => intro i h; simp at h
  | cons p L ih =>
    intro i h
    cases i with
    | zero => simp [cellsP]
    | succ i =>
      have := ih i (by simpa using h)
      have e1 : (i + 1) * 2 = i * 2 + 2 := by omega
      rw [e1]
      simpa [cellsP] using this
theorem cellsP_set (L : List (Int × Int)) : ∀ i, (q : Int × Int) → cellsP (L.set i q) = ((cellsP L).set (i * 2) (.int .i64 q.1)).set (i * 2 + 1) (.int .i64 q.2) := by
  induction L with
  | nil => intro i q; simp [cellsP]
  | cons p L ih =>
    intro i q
    cases i with
    | zero => simp [cellsP]
    | succ i =>
      have := ih i q
      have e1 : (i + 1) * 2 = i * 2 + 2 := by omega
      rw [e1]
      simp only [cellsP, List.set_cons_succ, List.flatMap_cons] at this ⊢
      simp [this]
theorem rowP_at {W : World} {B e g n cap : Nat} {L : List (Int × Int)} (h : W.ownsRow B e 2 (.slice (some ⟨g, 0, none⟩) n cap) L.length (cellsP L)) (i : Nat) (hi : i < L.length) :
    W.cell? ⟨g, i * 2, none⟩ = some (.int .i64 (L.getD i (0, 0)).1) ∧ W.cell? ⟨g, i * 2 + 1, none⟩ = some (.int .i64 (L.getD i (0, 0)).2) := by
  obtain ⟨h1, h2⟩ := cellsP_get L i hi
  have q1 := h.cells (g := g) rfl (i * 2) _ h1
  have q2 := h.cells (g := g) rfl (i * 2 + 1) _ h2
  rw [add_plain] at q1 q2
  exact ⟨q1, q2⟩

def swp (L : List (Int × Int)) (i j : Nat) : List (Int × Int) := (L.set i (L.getD j (0, 0))).set j (L.getD i (0, 0))
theorem swp_len (L : List (Int × Int)) (i j : Nat) : (swp L i j).length = L.length := by simp [swp]

/-- container/heap.up: the element at place j goes up. -/
def hup (L : List (Int × Int)) (j : Nat) : List (Int × Int) :=
  if h : j = 0 then L else
  if ahd (L.getD ((j - 1) / 2) (0, 0)) (L.getD j (0, 0)) then hup (swp L ((j - 1) / 2) j) ((j - 1) / 2) else L
termination_by j
decreasing_by omega
/-- container/heap.down: the element at place i goes down, among the first n. -/
def hkid (L : List (Int × Int)) (i n : Nat) : Nat :=
  if 2 * i + 2 < n ∧ ahd (L.getD (2 * i + 1) (0, 0)) (L.getD (2 * i + 2) (0, 0)) = true then 2 * i + 2 else 2 * i + 1
theorem hkid_lt (L : List (Int × Int)) (i n : Nat) : i < hkid L i n := by unfold hkid; split <;> omega
def hdown (L : List (Int × Int)) (i n : Nat) : List (Int × Int) :=
  if h : n ≤ 2 * i + 1 then L else
  if ahd (L.getD i (0, 0)) (L.getD (hkid L i n) (0, 0)) then hdown (swp L i (hkid L i n)) (hkid L i n) n else L
termination_by n - i
decreasing_by have := hkid_lt L i n; omega

theorem hdown_len (m : Nat) : ∀ (L : List (Int × Int)) (i n : Nat), n - i = m → (hdown L i n).length = L.length := by
  induction m using Nat.strongRecOn with
  | _ m ih =>
    intro L i n hm
    rw [hdown]
    split
    · rfl
    · split
      · have := hkid_lt L i n
        rw [ih (n - hkid L i n) (by omega) _ _ _ rfl, swp_len]
      · rfl
theorem hup_len (j : Nat) : ∀ (L : List (Int × Int)), (hup L j).length = L.length := by
  induction j using Nat.strongRecOn with
  | _ j ih =>
    intro L
    rw [hup]
    split
    · rfl
    · split
      · rw [ih _ (by omega), swp_len]
      · rfl

end Go.Proofs.YtdfgmdmcdnnhfaaGreat

namespace Go.Proofs.YtdfgmdmcdnnhfaaGreat
set_option linter.unusedVariables false
set_option linter.unusedSimpArgs false
set_option maxRecDepth 100000

/-- What heap.Pop hands back, and leaves. -/
def hpv (L : List (Int × Int)) : Int × Int := (hdown (swp L 0 (L.length - 1)) 0 (L.length - 1)).getD (L.length - 1) (0, 0)
def hpr (L : List (Int × Int)) : List (Int × Int) := (hdown (swp L 0 (L.length - 1)) 0 (L.length - 1)).take (L.length - 1)
theorem hpr_len (L : List (Int × Int)) : (hpr L).length = L.length - 1 := by
  unfold hpr; rw [List.length_take, hdown_len _ _ _ _ rfl, swp_len]; omega
/-- The heap behind i places. -/
def topSt (xs : List Int) (k : Int) : Nat → List (Int × Int)
  | 0 => []
  | i + 1 =>
    let L := hup (topSt xs k i ++ [((i : Int), wi (xs.getD i 0))]) (topSt xs k i).length
    if max k 0 < (L.length : Int) then hpr L else L
theorem topSt_len (xs : List Int) (k : Int) (i : Nat) : (topSt xs k i).length ≤ i := by
  induction i with
  | zero => simp [topSt]
  | succ i ih =>
    simp only [topSt]
    split
    · rw [hpr_len, hup_len, List.length_append]; simp; omega
    · rw [hup_len, List.length_append]; simp; omega
/-- What is taken of a heap, the last one first, laid from behind. -/
def drain : Nat → List (Int × Int) → List Int → List Int
  | 0, _, out => out
  | n + 1, L, out => drain n (hpr L) (out.set n (hpv L).1)
def vtop (xs : List Int) (k : Int) : List Int := drain (topSt xs k xs.length).length (topSt xs k xs.length) (List.replicate (topSt xs k xs.length).length 0)

theorem drain_succ (n : Nat) (L : List (Int × Int)) (out : List Int) : drain (n + 1) L out = drain n (hpr L) (out.set n (hpv L).1) := rfl

end Go.Proofs.YtdfgmdmcdnnhfaaGreat

namespace Go.Proofs.YtdfgmdmcdnnhfaaGreat
set_option linter.unusedVariables false
set_option linter.unusedSimpArgs false
set_option maxRecDepth 100000

/-! The order of places is a strict total order on places with different numbers. -/
theorem ahd_iff (p q : Int × Int) : ahd p q = true ↔ (q.2 < p.2 ∨ (p.2 = q.2 ∧ p.1 < q.1)) := by
  unfold ahd; simp
theorem ahd_irrefl (p : Int × Int) : ahd p p = false := by
  rw [Bool.eq_false_iff]; intro h; rw [ahd_iff] at h; omega
theorem ahd_trans {p q r : Int × Int} (h : ahd p q = true) (k : ahd q r = true) : ahd p r = true := by
  rw [ahd_iff] at *; omega
theorem ahd_asymm {p q : Int × Int} (h : ahd p q = true) : ahd q p = false := by
  rw [Bool.eq_false_iff]; intro k; rw [ahd_iff] at *; omega
theorem ahd_total {p q : Int × Int} (h : ahd p q = false) : ahd q p = true ∨ p = q := by
  rw [Bool.eq_false_iff, ne_eq, ahd_iff] at h
  by_cases e : p = q
  · exact .inr e
  · left; rw [ahd_iff]
    have : p.1 ≠ q.1 ∨ p.2 ≠ q.2 := by
      by_cases e1 : p.1 = q.1
      · right; intro e2; exact e (Prod.ext e1 e2)
      · exact .inl e1
    omega
/-- p is behind q, or is q. -/
def bhd (p q : Int × Int) : Prop := ahd p q = false
theorem bhd_refl (p : Int × Int) : bhd p p := ahd_irrefl p
theorem bhd_trans {p q r : Int × Int} (h : bhd p q) (k : bhd q r) : bhd p r := by
  unfold bhd at *
  rcases ahd_total h with h | rfl
  · rcases ahd_total k with k | rfl
    · exact ahd_asymm (ahd_trans k h)
    · exact ahd_asymm h
  · exact k
theorem bhd_total (p q : Int × Int) : bhd p q ∨ bhd q p := by
  unfold bhd
  by_cases h : ahd p q = true
  · exact .inr (ahd_asymm h)
  · exact .inl (by simpa using h)
theorem bhd_antisymm {p q : Int × Int} (h : bhd p q) (k : bhd q p) : p = q := by
  rcases ahd_total h with h | h
  · rw [show ahd q p = false from k] at h; cases h
  · exact h

/-! Swapping two elements. -/
theorem getD_set (L : List (Int × Int)) (i j : Nat) (v : Int × Int) (hi : i < L.length) : (L.set i v).getD j (0, 0) = if i = j then v else L.getD j (0, 0) := by
  simp only [List.getD_eq_getElem?_getD, List.getElem?_set]
  by_cases h : i = j
  · subst h; simp [hi]
  · simp [h]
theorem swp_get (L : List (Int × Int)) (i j k : Nat) (hi : i < L.length) (hj : j < L.length) :
    (swp L i j).getD k (0, 0) = if k = j then L.getD i (0, 0) else if k = i then L.getD j (0, 0) else L.getD k (0, 0) := by
  unfold swp
  rw [getD_set _ _ _ _ (by simpa using hj), getD_set _ _ _ _ hi]
  by_cases h1 : k = j
  · subst h1; simp
  · have h1' : j ≠ k := fun e => h1 e.symm
    simp only [if_neg h1, if_neg h1']
    by_cases h2 : k = i
    · subst h2; simp
    · have h2' : i ≠ k := fun e => h2 e.symm
      simp only [if_neg h2, if_neg h2']
theorem swp_perm (L : List (Int × Int)) (i j : Nat) (hi : i < L.length) (hj : j < L.length) : (swp L i j).Perm L := by
  have e : swp L i j = (L.set i L[j]).set j L[i] := by
    unfold swp
    simp [List.getD_eq_getElem?_getD, hi, hj]
  rw [e]
  exact List.set_set_perm hi hj
theorem swp_take (L : List (Int × Int)) (i j n : Nat) (hi : i < n) (hj : j < n) (hn : n ≤ L.length) : (swp L i j).take n = swp (L.take n) i j := by
  unfold swp
  rw [List.take_set, List.take_set]
  congr 1
  · congr 1
    simp only [List.getD_eq_getElem?_getD, List.getElem?_take]
    rw [if_pos hj]
  · simp only [List.getD_eq_getElem?_getD, List.getElem?_take]
    rw [if_pos hi]

/-! The heap's order: a parent is behind its children. -/
def par (j : Nat) : Nat := (j - 1) / 2
/-- Among the first n, each parent but at place x is behind its child. -/
def HpX (L : List (Int × Int)) (n : Nat) (x : Nat) : Prop := ∀ j, 0 < j → j < n → j ≠ x → bhd (L.getD (par j) (0, 0)) (L.getD j (0, 0))
def Hp (L : List (Int × Int)) (n : Nat) : Prop := ∀ j, 0 < j → j < n → bhd (L.getD (par j) (0, 0)) (L.getD j (0, 0))

theorem hup_perm (j : Nat) : ∀ L : List (Int × Int), j < L.length → (hup L j).Perm L := by
  induction j using Nat.strongRecOn with
  | _ j ih =>
    intro L hj
    rw [hup]
    split
    · exact List.Perm.refl _
    · split
      · exact (ih _ (by omega) _ (by rw [swp_len]; omega)).trans (swp_perm _ _ _ (by omega) hj)
      · exact List.Perm.refl _
/-- up makes a heap, where all but the pair at j are in order, and j's children are behind j's parent. -/
theorem hup_hp (j : Nat) : ∀ L : List (Int × Int), j < L.length → HpX L L.length j → (0 < j → ∀ c, c < L.length → 0 < c → par c = j → bhd (L.getD (par j) (0, 0)) (L.getD c (0, 0))) → Hp (hup L j) L.length := by
  induction j using Nat.strongRecOn with
  | _ j ih =>
    intro L hj hx hc
    rw [hup]
    split
    · rename_i h0
      subst h0
      intro c h1 h2
      exact hx c h1 h2 (by omega)
    · rename_i h0
      have hp : (j - 1) / 2 = par j := rfl
      rw [hp]
      have hpj : par j < j := by unfold par; omega
      split
      · rename_i ha
        have hlen := swp_len L (par j) j
        rw [← hlen]
        refine ih (par j) hpj _ (by rw [hlen]; omega) ?_ ?_
        · intro c h1 h2 h3
          rw [hlen] at h2
          rw [swp_get _ _ _ _ (by omega) hj, swp_get _ _ _ _ (by omega) hj]
          by_cases e1 : c = j
          · subst e1
            rw [if_pos rfl, if_neg (by omega), if_pos rfl]
            exact ahd_asymm ha
          · rw [if_neg e1, if_neg h3]
            by_cases e2 : par c = j
            · rw [if_pos e2]
              exact hc (by omega) c h2 h1 e2
            · rw [if_neg e2]
              by_cases e3 : par c = par j
              · rw [if_pos e3]
                have h5 := hx c h1 h2 e1
                rw [e3] at h5
                exact bhd_trans (ahd_asymm ha) h5
              · rw [if_neg e3]
                exact hx c h1 h2 e1
        · intro h4 c h2 h1 e
          rw [hlen] at h2
          have hpp : par (par j) < par j := by unfold par at *; omega
          rw [swp_get _ _ _ _ (by omega) hj, swp_get _ _ _ _ (by omega) hj]
          rw [if_neg (by omega), if_neg (by omega)]
          have h6 := hx (par j) (by omega) (by omega) (by omega)
          by_cases e1 : c = j
          · rw [if_pos e1]; exact h6
          · have e2 : c ≠ par j := by intro e2; subst e2; omega
            rw [if_neg e1, if_neg e2]
            have h7 := hx c h1 h2 e1
            rw [e] at h7
            exact bhd_trans h6 h7
      · rename_i ha
        intro c h1 h2
        by_cases e : c = j
        · subst e; unfold bhd; simpa [hp] using ha
        · exact hx c h1 h2 e

theorem hkid_cases (L : List (Int × Int)) (i n : Nat) (h : ¬ n ≤ 2 * i + 1) : (hkid L i n = 2 * i + 1 ∨ (hkid L i n = 2 * i + 2 ∧ 2 * i + 2 < n)) ∧ ∀ c, 0 < c → c < n → par c = i → bhd (L.getD (hkid L i n) (0, 0)) (L.getD c (0, 0)) := by
  have hpc : ∀ c, 0 < c → par c = i → c = 2 * i + 1 ∨ c = 2 * i + 2 := by intro c h1 h2; unfold par at h2; omega
  unfold hkid
  split
  · rename_i hh
    refine ⟨.inr ⟨rfl, hh.1⟩, fun c h1 h2 h3 => ?_⟩
    rcases hpc c h1 h3 with rfl | rfl
    · exact ahd_asymm hh.2
    · exact bhd_refl _
  · rename_i hh
    refine ⟨.inl rfl, fun c h1 h2 h3 => ?_⟩
    rcases hpc c h1 h3 with rfl | rfl
    · exact bhd_refl _
    · unfold bhd
      rw [Bool.eq_false_iff]
      intro h4
      exact hh ⟨h2, h4⟩
theorem hdown_perm (m : Nat) : ∀ (L : List (Int × Int)) (i n : Nat), n - i = m → n ≤ L.length → (hdown L i n).Perm L ∧ (hdown L i n).drop n = L.drop n := by
  induction m using Nat.strongRecOn with
  | _ m ih =>
    intro L i n hm hn
    rw [hdown]
    split
    · exact ⟨List.Perm.refl _, rfl⟩
    · rename_i h0
      have hk := hkid_cases L i n h0
      have hl := hkid_lt L i n
      split
      · obtain ⟨h1, h2⟩ := ih (n - hkid L i n) (by omega) (swp L i (hkid L i n)) (hkid L i n) n rfl (by rw [swp_len]; exact hn)
        refine ⟨h1.trans (swp_perm _ _ _ (by omega) (by omega)), h2.trans ?_⟩
        unfold swp
        rw [List.drop_set_of_lt (by omega), List.drop_set_of_lt (by omega)]
      · exact ⟨List.Perm.refl _, rfl⟩
/-- down makes a heap, where all but the pairs below i are in order, and i's children are behind i's parent. -/
theorem hdown_hp (m : Nat) : ∀ (L : List (Int × Int)) (i n : Nat), n - i = m → n ≤ L.length → (∀ j, 0 < j → j < n → par j ≠ i → bhd (L.getD (par j) (0, 0)) (L.getD j (0, 0))) → (0 < i → ∀ c, c < n → 0 < c → par c = i → bhd (L.getD (par i) (0, 0)) (L.getD c (0, 0))) → Hp (hdown L i n) n := by
  induction m using Nat.strongRecOn with
  | _ m ih =>
    intro L i n hm hn hx hc
    rw [hdown]
    split
    · rename_i h0
      intro j h1 h2
      refine hx j h1 h2 ?_
      unfold par; omega
    · rename_i h0
      obtain ⟨hk1, hk2⟩ := hkid_cases L i n h0
      have hl := hkid_lt L i n
      obtain ⟨k, hk⟩ : ∃ k, hkid L i n = k := ⟨_, rfl⟩
      rw [hk] at hk1 hk2 hl ⊢
      have hkn : k < n := by omega
      have hpk : par k = i := by unfold par; omega
      split
      · rename_i ha
        refine ih (n - k) (by omega) _ k n rfl (by rw [swp_len]; exact hn) ?_ ?_
        · intro j h1 h2 h3
          rw [swp_get _ _ _ _ (by omega) (by omega), swp_get _ _ _ _ (by omega) (by omega), if_neg h3]
          by_cases e1 : j = k
          · subst e1
            rw [if_pos rfl, if_pos hpk]
            exact ahd_asymm ha
          · rw [if_neg e1]
            by_cases e2 : par j = i
            · rw [if_pos e2, if_neg (by unfold par at e2; omega)]
              exact hk2 j h1 h2 e2
            · rw [if_neg e2]
              by_cases e3 : j = i
              · subst e3
                rw [if_pos rfl]
                exact hc h1 k hkn (by omega) hpk
              · rw [if_neg e3]
                exact hx j h1 h2 e2
        · intro h4 c h2 h1 e
          rw [hpk, swp_get _ _ _ _ (by omega) (by omega), swp_get _ _ _ _ (by omega) (by omega), if_neg (by omega), if_pos rfl]
          rw [if_neg (by unfold par at e; omega), if_neg (by unfold par at e; omega)]
          have := hx c h1 h2 (by omega)
          rw [e] at this
          exact this
      · rename_i ha
        intro j h1 h2
        by_cases e : par j = i
        · rw [e]
          have h5 := hk2 j h1 h2 e
          refine bhd_trans ?_ h5
          unfold bhd; simpa using ha
        · exact hx j h1 h2 e
/-- A heap's top is behind all. -/
theorem hp_top {L : List (Int × Int)} {n : Nat} (h : Hp L n) (j : Nat) : j < n → bhd (L.getD 0 (0, 0)) (L.getD j (0, 0)) := by
  induction j using Nat.strongRecOn with
  | _ j ih =>
    intro hj
    by_cases e : j = 0
    · subst e; exact bhd_refl _
    · have hp : par j < j := by unfold par; omega
      exact bhd_trans (ih (par j) hp (by omega)) (h j (by omega) hj)

end Go.Proofs.YtdfgmdmcdnnhfaaGreat

namespace Go.Proofs.YtdfgmdmcdnnhfaaGreat
set_option linter.unusedVariables false
set_option linter.unusedSimpArgs false
set_option maxRecDepth 100000

/-- All places. -/
def pl (xs : List Int) (n : Nat) : List (Int × Int) := (List.range n).map fun (j : Nat) => ((j : Int), wi (xs.getD j 0))
/-- T are the first ones of Y, in order. -/
def Tops (Y T : List (Int × Int)) : Prop := ∃ R, Y.Perm (T ++ R) ∧ T.Pairwise (fun p q => bhd q p) ∧ ∀ p ∈ T, ∀ q ∈ R, bhd q p
theorem tops_unique (T1 : List (Int × Int)) : ∀ (T2 Y1 Y2 : List (Int × Int)), Tops Y1 T1 → Tops Y2 T2 → Y1.Perm Y2 → T1.length = T2.length → T1 = T2 := by
  induction T1 with
  | nil => intro T2 Y1 Y2 _ _ _ h; exact (List.eq_nil_of_length_eq_zero h.symm).symm
  | cons p T1 ih =>
    intro T2 Y1 Y2 h1 h2 hY hl
    cases T2 with
    | nil => simp at hl
    | cons q T2 =>
      obtain ⟨R1, a1, b1, c1⟩ := h1
      obtain ⟨R2, a2, b2, c2⟩ := h2
      have all1 : ∀ r ∈ Y1, bhd r p := by
        intro r hr
        have := a1.mem_iff.1 hr
        rw [List.cons_append, List.mem_cons, List.mem_append] at this
        rcases this with rfl | h | h
        · exact bhd_refl _
        · exact (List.pairwise_cons.1 b1).1 r h
        · exact c1 p List.mem_cons_self r h
      have all2 : ∀ r ∈ Y2, bhd r q := by
        intro r hr
        have := a2.mem_iff.1 hr
        rw [List.cons_append, List.mem_cons, List.mem_append] at this
        rcases this with rfl | h | h
        · exact bhd_refl _
        · exact (List.pairwise_cons.1 b2).1 r h
        · exact c2 q List.mem_cons_self r h
      have hp : p ∈ Y1 := a1.mem_iff.2 (by simp)
      have hq : q ∈ Y2 := a2.mem_iff.2 (by simp)
      obtain rfl : p = q := bhd_antisymm (all2 p (hY.mem_iff.1 hp)) (all1 q (hY.mem_iff.2 hq))
      have hperm : (T1 ++ R1).Perm (T2 ++ R2) := by
        have := (a1.symm.trans hY).trans a2
        rw [List.cons_append, List.cons_append] at this
        exact this.cons_inv
      rw [ih T2 (T1 ++ R1) (T2 ++ R2) ⟨R1, List.Perm.refl _, (List.pairwise_cons.1 b1).2, fun x hx y hy => c1 x (List.mem_cons_of_mem _ hx) y hy⟩ ⟨R2, List.Perm.refl _, (List.pairwise_cons.1 b2).2, fun x hx y hy => c2 x (List.mem_cons_of_mem _ hx) y hy⟩ hperm (by simpa using hl)]

/-! Pop. -/
theorem hp_pop {L : List (Int × Int)} {n : Nat} (hl : L.length = n + 1) (h : Hp L (n + 1)) : L.Perm (hpv L :: hpr L) ∧ (∀ q ∈ L, bhd (hpv L) q) ∧ Hp (hpr L) n ∧ (hpr L).length = n := by
  have e1 : L.length - 1 = n := by omega
  have hs : (swp L 0 n).length = n + 1 := by rw [swp_len]; exact hl
  obtain ⟨p1, p2⟩ := hdown_perm n (swp L 0 n) 0 n (by omega) (by omega)
  have hlen : (hdown (swp L 0 n) 0 n).length = n + 1 := by rw [hdown_len _ _ _ _ rfl]; exact hs
  have hlast : (swp L 0 n).drop n = [L.getD 0 (0, 0)] := by
    rw [List.drop_eq_getElem_cons (by omega), List.drop_of_length_le (by omega)]
    congr 1
    have := swp_get L 0 n n (by omega) (by omega)
    rw [if_pos rfl, List.getD_eq_getElem?_getD, List.getElem?_eq_getElem (by omega)] at this
    simpa using this
  have hd2 : hdown (swp L 0 n) 0 n = hpr L ++ [L.getD 0 (0, 0)] := by
    unfold hpr
    rw [e1, ← hlast, ← p2, List.take_append_drop]
  have hv : hpv L = L.getD 0 (0, 0) := by
    unfold hpv
    rw [e1, hd2]
    have hr : (hpr L).length = n := by rw [hpr_len]; omega
    rw [List.getD_eq_getElem?_getD, List.getElem?_append_right (by omega), hr]; simp
  have hperm : L.Perm (hpv L :: hpr L) := by
    have h1 := p1.trans (swp_perm L 0 n (by omega) (by omega))
    rw [hd2] at h1
    rw [hv]
    exact h1.symm.trans (List.perm_append_singleton _ _)
  refine ⟨hperm, ?_, ?_, by rw [hpr_len]; omega⟩
  · intro q hq
    obtain ⟨j, hj, rfl⟩ := List.mem_iff_getElem.1 hq
    have := hp_top h j (by omega)
    rw [hv]
    rw [List.getD_eq_getElem?_getD (l := L) (i := j), List.getElem?_eq_getElem hj] at this
    exact this
  · have hh := hdown_hp n (swp L 0 n) 0 n (by omega) (by omega) (by
      intro j h1 h2 h3
      rw [swp_get _ _ _ _ (by omega) (by omega), swp_get _ _ _ _ (by omega) (by omega)]
      have hpj : par j < j := by unfold par; omega
      rw [if_neg (by omega), if_neg h3, if_neg (by omega), if_neg (by omega)]
      exact h j h1 (by omega)) (fun h => absurd h (Nat.lt_irrefl 0))
    intro j h1 h2
    have hpj : par j < j := by unfold par; omega
    have := hh j h1 h2
    have hr : (hpr L).length = n := by rw [hpr_len]; omega
    rw [hd2] at this
    simp only [List.getD_eq_getElem?_getD] at this ⊢
    rwa [List.getElem?_append_left (by omega), List.getElem?_append_left (by omega)] at this
/-! Push. -/
theorem hp_push {L : List (Int × Int)} (x : Int × Int) (h : Hp L L.length) : (hup (L ++ [x]) L.length).Perm (x :: L) ∧ Hp (hup (L ++ [x]) L.length) (L.length + 1) := by
  have hl : (L ++ [x]).length = L.length + 1 := by simp
  refine ⟨(hup_perm _ _ (by omega)).trans (List.perm_append_singleton _ _), ?_⟩
  rw [← hl]
  refine hup_hp _ _ (by omega) ?_ ?_
  · intro j h1 h2 h3
    have hpj : par j < j := by unfold par; omega
    have := h j h1 (by omega)
    simp only [List.getD_eq_getElem?_getD] at this ⊢
    rwa [List.getElem?_append_left (by omega), List.getElem?_append_left (by omega)]
  · intro h1 c h2 h3 h4
    exfalso
    unfold par at h4; omega

/-! The heap behind i places. -/
theorem topSt_inv (xs : List Int) (k : Int) (i : Nat) : Hp (topSt xs k i) (topSt xs k i).length ∧ (topSt xs k i).length = min i (max k 0).toNat ∧ ∃ R, (pl xs i).Perm (topSt xs k i ++ R) ∧ ∀ p ∈ topSt xs k i, ∀ q ∈ R, bhd q p := by
  induction i with
  | zero => exact ⟨fun j h1 h2 => absurd h2 (by simp [topSt]), by simp [topSt], [], by simp [pl, topSt], by simp⟩
  | succ i ih =>
    obtain ⟨h1, h2, R, h3, h4⟩ := ih
    obtain ⟨L, hL⟩ : ∃ L, topSt xs k i = L := ⟨_, rfl⟩
    rw [hL] at h1 h2 h3 h4
    obtain ⟨x, hx⟩ : ∃ x, ((i : Int), wi (xs.getD i 0)) = x := ⟨_, rfl⟩
    obtain ⟨q1, q2⟩ := hp_push x h1
    obtain ⟨L2, hL2⟩ : ∃ L2, hup (L ++ [x]) L.length = L2 := ⟨_, rfl⟩
    rw [hL2] at q1 q2
    have hl2 : L2.length = L.length + 1 := by rw [← hL2, hup_len]; simp
    have hpl : (pl xs (i + 1)).Perm (x :: (L ++ R)) := by
      have : pl xs (i + 1) = pl xs i ++ [x] := by simp [pl, List.range_succ, ← hx]
      rw [this]
      exact (List.perm_append_singleton _ _).trans (h3.cons x)
    have hT : topSt xs k (i + 1) = if max k 0 < (L2.length : Int) then hpr L2 else L2 := by simp only [topSt]; rw [hL, hx, hL2]
    rw [hT]
    by_cases hc : max k 0 < (L2.length : Int)
    · rw [if_pos hc]
      obtain ⟨r1, r2, r3, r4⟩ := hp_pop hl2 q2
      refine ⟨by rw [r4]; exact r3, by rw [r4]; omega, hpv L2 :: R, ?_, ?_⟩
      · refine hpl.trans ?_
        have h5 : (x :: L).Perm (hpv L2 :: hpr L2) := q1.symm.trans r1
        have h6 := h5.append_right R
        exact h6.trans List.perm_middle.symm
      · intro p hp q hq
        rcases List.mem_cons.1 hq with rfl | hq
        · exact r2 p (r1.mem_iff.2 (List.mem_cons_of_mem _ hp))
        · have h5 : (x :: L).Perm (hpv L2 :: hpr L2) := q1.symm.trans r1
          have hp2 : p ∈ x :: L := h5.mem_iff.2 (List.mem_cons_of_mem _ hp)
          have ht : hpv L2 ∈ x :: L := h5.mem_iff.2 List.mem_cons_self
          rcases List.mem_cons.1 hp2 with rfl | hp3
          · rcases List.mem_cons.1 ht with ht | ht
            · rw [ht] at h5
              exact h4 p (h5.cons_inv.mem_iff.2 hp) q hq
            · exact bhd_trans (h4 _ ht q hq) (r2 p (r1.mem_iff.2 (List.mem_cons_of_mem _ hp)))
          · exact h4 p hp3 q hq
    · rw [if_neg hc]
      have hR : R = [] := by
        have h5 := h3.length_eq
        simp [pl] at h5
        exact List.eq_nil_of_length_eq_zero (by omega)
      subst hR
      refine ⟨by rw [hl2]; exact q2, by omega, [], ?_, by simp⟩
      rw [List.append_nil] at hpl ⊢
      exact hpl.trans q1.symm
/-! What is taken of it. -/
def dr : Nat → List (Int × Int) → List (Int × Int)
  | 0, _ => []
  | n + 1, L => dr n (hpr L) ++ [hpv L]
theorem dr_ok (n : Nat) : ∀ L : List (Int × Int), L.length = n → Hp L n → (dr n L).Perm L ∧ (dr n L).Pairwise (fun p q => bhd q p) ∧ (dr n L).length = n := by
  induction n with
  | zero => intro L hl _; rw [List.eq_nil_of_length_eq_zero hl]; exact ⟨List.Perm.refl _, List.Pairwise.nil, rfl⟩
  | succ n ih =>
    intro L hl h
    obtain ⟨r1, r2, r3, r4⟩ := hp_pop hl h
    obtain ⟨i1, i2, i3⟩ := ih (hpr L) r4 r3
    refine ⟨?_, ?_, by simp [dr, i3]⟩
    · exact ((List.perm_append_singleton _ _).trans (i1.cons _)).trans r1.symm
    · simp only [dr]
      rw [List.pairwise_append]
      refine ⟨i2, List.pairwise_singleton _ _, fun p hp q hq => ?_⟩
      obtain rfl : q = hpv L := by simpa using hq
      exact r2 p (r1.mem_iff.2 (List.mem_cons_of_mem _ (i1.mem_iff.1 hp)))
theorem drain_is (n : Nat) : ∀ (L : List (Int × Int)) (out : List Int), n ≤ out.length → drain n L out = (dr n L).map (·.1) ++ out.drop n := by
  induction n with
  | zero => intro L out _; simp [drain, dr]
  | succ n ih =>
    intro L out h
    rw [drain_succ, ih _ _ (by simp; omega)]
    simp only [dr, List.map_append, List.map_cons, List.map_nil, List.append_assoc]
    congr 1
    rw [List.drop_set, if_neg (by omega), Nat.sub_self]
    rw [List.drop_eq_getElem_cons (show n < out.length by omega)]
    rfl
/-- What vec.Top hands back. -/
theorem vtop_tops (xs : List Int) (k : Int) : ∃ T, vtop xs k = T.map (·.1) ∧ T.length = min xs.length (max k 0).toNat ∧ Tops (pl xs xs.length) T := by
  obtain ⟨h1, h2, R, h3, h4⟩ := topSt_inv xs k xs.length
  obtain ⟨i1, i2, i3⟩ := dr_ok _ (topSt xs k xs.length) rfl h1
  refine ⟨dr (topSt xs k xs.length).length (topSt xs k xs.length), ?_, by rw [i3, h2], R, ?_, i2, fun p hp q hq => h4 p (i1.mem_iff.1 hp) q hq⟩
  · unfold vtop
    rw [drain_is _ _ _ (by simp)]
    simp
  · exact h3.trans (i1.symm.append_right R)

end Go.Proofs.YtdfgmdmcdnnhfaaGreat

namespace Go.Proofs.YtdfgmdmcdnnhfaaGreat
set_option linter.unusedVariables false
set_option linter.unusedSimpArgs false
set_option maxRecDepth 100000

/-- The greatest one that is left, among the first i. -/
def rbest (xs : List Int) (met : List Bool) : Nat → Int
  | 0 => -1
  | i + 1 => if met.getD i false = false ∧ (rbest xs met i < 0 ∨ wi (xs.getD (rbest xs met i).toNat 0) < wi (xs.getD i 0)) then (i : Int) else rbest xs met i
def rmet (xs : List Int) : Nat → List Bool
  | 0 => List.replicate xs.length false
  | j + 1 => (rmet xs j).set (rbest xs (rmet xs j) xs.length).toNat true
def rout (xs : List Int) (j : Nat) : List Int := tab j fun i => rbest xs (rmet xs i) xs.length
theorem rmet_len (xs : List Int) (j : Nat) : (rmet xs j).length = xs.length := by
  induction j with
  | zero => simp [rmet]
  | succ j ih => simp [rmet, ih]
def plc (xs : List Int) (j : Nat) : Int × Int := ((j : Int), wi (xs.getD j 0))
theorem rbest_spec (xs : List Int) (met : List Bool) (i : Nat) : (rbest xs met i = -1 ∧ ∀ j, j < i → met.getD j false = true) ∨ (∃ b : Nat, rbest xs met i = b ∧ b < i ∧ met.getD b false = false ∧ ∀ j, j < i → met.getD j false = false → bhd (plc xs j) (plc xs b)) := by
  induction i with
  | zero => exact .inl ⟨rfl, fun j hj => absurd hj (Nat.not_lt_zero _)⟩
  | succ i ih =>
    by_cases hm : met.getD i false = false
    · right
      rcases ih with ⟨h1, h2⟩ | ⟨b, h1, h2, h3, h4⟩
      · refine ⟨i, by unfold rbest; rw [if_pos ⟨hm, .inl (by omega)⟩], by omega, hm, fun j hj hj2 => ?_⟩
        by_cases e : j = i
        · subst e; exact bhd_refl _
        · have := h2 j (by omega); rw [hj2] at this; cases this
      · by_cases hc : wi (xs.getD b 0) < wi (xs.getD i 0)
        · refine ⟨i, by unfold rbest; rw [h1, if_pos ⟨hm, .inr (by simpa using hc)⟩], by omega, hm, fun j hj hj2 => ?_⟩
          by_cases e : j = i
          · subst e; exact bhd_refl _
          · refine bhd_trans (h4 j (by omega) hj2) (ahd_asymm ?_)
            rw [ahd_iff]; left; exact hc
        · refine ⟨b, ?_, by omega, h3, fun j hj hj2 => ?_⟩
          · unfold rbest
            rw [h1, if_neg]
            rintro ⟨-, h | h⟩
            · omega
            · exact hc (by simpa using h)
          · by_cases e : j = i
            · subst e
              unfold bhd
              rw [Bool.eq_false_iff]
              intro h
              rw [ahd_iff] at h
              unfold plc at h
              simp only at h
              omega
            · exact h4 j (by omega) hj2
    · have hm' : met.getD i false = true := by simpa using hm
      have he : rbest xs met (i + 1) = rbest xs met i := by
        conv => lhs; unfold rbest
        rw [if_neg (fun h => hm h.1)]
      rw [he]
      rcases ih with ⟨h1, h2⟩ | ⟨b, h1, h2, h3, h4⟩
      · refine .inl ⟨h1, fun j hj => ?_⟩
        by_cases e : j = i
        · subst e; exact hm'
        · exact h2 j (by omega)
      · refine .inr ⟨b, h1, by omega, h3, fun j hj hj2 => ?_⟩
        by_cases e : j = i
        · subst e; rw [hj2] at hm'; cases hm'
        · exact h4 j (by omega) hj2
/-- The places that are left behind j rounds. -/
def lft (xs : List Int) (j : Nat) : List (Int × Int) := ((List.range xs.length).filter fun i => (rmet xs j).getD i false == false).map (plc xs)
theorem getD_setB (L : List Bool) (i j : Nat) (hi : i < L.length) : (L.set i true).getD j false = if i = j then true else L.getD j false := by
  simp only [List.getD_eq_getElem?_getD, List.getElem?_set]
  by_cases h : i = j
  · subst h; simp [hi]
  · simp [h]
theorem filter_out {p q : Nat → Bool} (b : Nat) (hb : p b = true) (hqb : q b = false) (hq : ∀ i, i ≠ b → q i = p i) : ∀ l : List Nat, l.Nodup → b ∈ l → (l.filter p).Perm (b :: l.filter q) := by
  intro l
  induction l with
  | nil => intro _ h; cases h
  | cons a l ih =>
    intro hn hm
    obtain ⟨hn1, hn2⟩ := List.nodup_cons.1 hn
    by_cases e : a = b
    · subst e
      rw [List.filter_cons_of_pos hb, List.filter_cons_of_neg (by simp [hqb])]
      have : l.filter q = l.filter p := List.filter_congr fun i hi => hq i (fun e => hn1 (e ▸ hi))
      rw [this]
    · have hml : b ∈ l := by rcases List.mem_cons.1 hm with h | h; exact absurd h.symm e; exact h
      have := ih hn2 hml
      by_cases hpa : p a = true
      · rw [List.filter_cons_of_pos hpa, List.filter_cons_of_pos (by rw [hq a e]; exact hpa)]
        exact (this.cons a).trans (List.Perm.swap _ _ _)
      · rw [List.filter_cons_of_neg hpa, List.filter_cons_of_neg (by rw [hq a e]; exact hpa)]
        exact this
theorem lft_len_pos (xs : List Int) (j : Nat) (hj : j < xs.length) (hl : (lft xs j).length = xs.length - j) : ∃ b : Nat, rbest xs (rmet xs j) xs.length = b ∧ b < xs.length ∧ (rmet xs j).getD b false = false ∧ (∀ q ∈ lft xs j, bhd q (plc xs b)) ∧ (lft xs j).Perm (plc xs b :: lft xs (j + 1)) := by
  rcases rbest_spec xs (rmet xs j) xs.length with ⟨h1, h2⟩ | ⟨b, h1, h2, h3, h4⟩
  · exfalso
    have : lft xs j = [] := by
      unfold lft
      rw [List.map_eq_nil_iff, List.filter_eq_nil_iff]
      intro i hi
      rw [h2 i (List.mem_range.1 hi)]; simp
    rw [this] at hl
    simp at hl; omega
  · refine ⟨b, h1, h2, h3, ?_, ?_⟩
    · intro q hq
      unfold lft at hq
      obtain ⟨i, hi, rfl⟩ := List.mem_map.1 hq
      obtain ⟨hi1, hi2⟩ := List.mem_filter.1 hi
      exact h4 i (List.mem_range.1 hi1) (by simpa using hi2)
    · unfold lft
      rw [← List.map_cons]
      refine List.Perm.map _ ?_
      have e : rmet xs (j + 1) = (rmet xs j).set b true := by simp only [rmet]; rw [h1]; simp
      rw [e]
      have hb : b < (rmet xs j).length := by rw [rmet_len]; exact h2
      refine filter_out b ?_ ?_ ?_ _ List.nodup_range (List.mem_range.2 h2)
      · simp only [h3]; rfl
      · simp only [getD_setB _ _ _ hb, if_pos rfl]; rfl
      · intro i hi
        have hi2 : b ≠ i := fun e => hi e.symm
        simp only [getD_setB _ _ _ hb, if_neg hi2]
/-- What the document's Top hands back, behind j rounds. -/
theorem rout_inv (xs : List Int) (j : Nat) : j ≤ xs.length → (lft xs j).length = xs.length - j ∧ ∃ T, rout xs j = T.map (·.1) ∧ T.length = j ∧ (pl xs xs.length).Perm (T ++ lft xs j) ∧ T.Pairwise (fun p q => bhd q p) ∧ ∀ p ∈ T, ∀ q ∈ lft xs j, bhd q p := by
  induction j with
  | zero =>
    intro _
    have e : lft xs 0 = pl xs xs.length := by
      unfold lft pl
      rw [List.filter_eq_self.2 (fun i hi => by
        have := List.mem_range.1 hi
        simp [rmet, List.getD_eq_getElem?_getD, this])]
      rfl
    refine ⟨by rw [e]; simp [pl], [], by simp [rout, tab], rfl, by rw [e]; simp, List.Pairwise.nil, by simp⟩
  | succ j ih =>
    intro hj
    obtain ⟨h0, T, h1, h2, h3, h4, h5⟩ := ih (by omega)
    obtain ⟨b, b1, b2, b3, b4, b5⟩ := lft_len_pos xs j (by omega) h0
    refine ⟨by have := b5.length_eq; simp at this; omega, T ++ [plc xs b], ?_, by simp [h2], ?_, ?_, ?_⟩
    · unfold rout at h1 ⊢
      rw [tab_succ, h1, b1]; simp [plc]
    · rw [List.append_assoc]
      exact h3.trans (b5.append_left T)
    · rw [List.pairwise_append]
      refine ⟨h4, List.pairwise_singleton _ _, fun p hp q hq => ?_⟩
      obtain rfl : q = plc xs b := by simpa using hq
      exact h5 p hp _ (b5.mem_iff.2 List.mem_cons_self)
    · intro p hp q hq
      have hq2 : q ∈ lft xs j := b5.mem_iff.2 (List.mem_cons_of_mem _ hq)
      rcases List.mem_append.1 hp with hp | hp
      · exact h5 p hp q hq2
      · obtain rfl : p = plc xs b := by simpa using hp
        exact b4 q hq2
/-- The document's Top is the program's. -/
theorem rtop_vtop (xs : List Int) (k : Int) (j : Nat) (hj : j = min xs.length (max k 0).toNat) : rout xs j = vtop xs k := by
  obtain ⟨-, T, h1, h2, h3, h4, h5⟩ := rout_inv xs j (by omega)
  obtain ⟨T2, g1, g2, g3⟩ := vtop_tops xs k
  rw [h1, g1, tops_unique T T2 _ _ ⟨_, h3, h4, h5⟩ g3 (List.Perm.refl _) (by omega)]

end Go.Proofs.YtdfgmdmcdnnhfaaGreat
