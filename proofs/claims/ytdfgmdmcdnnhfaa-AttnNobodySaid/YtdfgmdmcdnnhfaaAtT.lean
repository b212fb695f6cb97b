/- Rows of one's own rows, two of them. -/
import Derived.Test.YtdfgmdmcdnnhfaaAtD
import Derived.Deep.RegionLawGrows
namespace Go.Proofs.Ytdfgmdmcdnnhfaa
open Go.RowKit Go.Shelf Go.Proofs.YtdfgmdmcdnnhfaaW.PrintWords Go.Proofs.YtdfgmdmcdnnhfaaW.PrintLast Go.Proofs.YtdfgmdmcdnnhfaaW.PrintMore
set_option linter.unusedVariables false
set_option linter.unusedSimpArgs false
set_option maxRecDepth 100000

def aThru (c : Cfg) (P : List Pl) (x : List Int) : Nat → List Int × Pl
  | 0 => (x, [], [])
  | n + 1 => (aX c n (aThru c P x n).1 (colK P n) (colV P n), (aThru c P x n).2.1 ++ [aK c n (aThru c P x n).1], (aThru c P x n).2.2 ++ [aV c n (aThru c P x n).1])

/-- Two rows of one's own rows; each may be added to. -/
structure TW (base : Nat) (w : World) (u v : Value) (ks vs : List (List Int)) : Prop where
  hu : KRow.R 25 w base (fun k => some k ≠ v.ownBlock) u ks
  hv : KRow.R 25 w base (fun k => some k ≠ u.ownBlock) v vs
theorem TW.nil (base : Nat) (w : World) : TW base w (.slice none 0 0) (.slice none 0 0) [] [] := ⟨Kd.R_nil _ _ _ _ _, Kd.R_nil _ _ _ _ _⟩
theorem TW.below {base : Nat} {w w1 : World} {u v : Value} {ks vs : List (List Int)} (h : TW base w u v ks vs) (hb : Below w.heap.size w w1) : TW base w1 u v ks vs := ⟨Kd.R_below h.hu hb, Kd.R_below h.hv hb⟩
theorem TW.ltu {base : Nat} {w : World} {u v : Value} {ks vs : List (List Int)} (h : TW base w u v ks vs) (k : Nat) (hk : u.ownBlock = some k) : k < w.heap.size := by
  obtain ⟨-, inner, ho, -⟩ := h.hu
  exact own_lt ho k hk
theorem TW.ltv {base : Nat} {w : World} {u v : Value} {ks vs : List (List Int)} (h : TW base w u v ks vs) (k : Nat) (hk : v.ownBlock = some k) : k < w.heap.size := by
  obtain ⟨-, inner, ho, -⟩ := h.hv
  exact own_lt ho k hk
theorem TW.put_u {base : Nat} {w w1 : World} {u v u1 : Value} {ks vs ks1 : List (List Int)} (h : TW base w u v ks vs) (h1 : KRow.R 25 w1 base (fun k => some k ≠ v.ownBlock) u1 ks1) (hg : w.grownBy w1 u.ownBlock) (hat : u1.ownBlock = u.ownBlock ∨ ∃ b, u1.ownBlock = some b ∧ w.heap.size ≤ b) : TW base w1 u1 v ks1 vs := by
  refine ⟨h1, Kd.R_mono (Kd.R_grown (Kd.R_bound h.hv) hg (fun k hk => hk.1)) (fun k hk he => ?_)⟩
  rcases hat with hat | ⟨b, hb, hle⟩
  · exact hk.1 (he.trans hat)
  · rw [hb] at he
    injection he with he
    have := hk.2.2.1
    omega
theorem TW.put_v {base : Nat} {w w1 : World} {u v v1 : Value} {ks vs vs1 : List (List Int)} (h : TW base w u v ks vs) (h1 : KRow.R 25 w1 base (fun k => some k ≠ u.ownBlock) v1 vs1) (hg : w.grownBy w1 v.ownBlock) (hat : v1.ownBlock = v.ownBlock ∨ ∃ b, v1.ownBlock = some b ∧ w.heap.size ≤ b) : TW base w1 u v1 ks vs1 := by
  refine ⟨Kd.R_mono (Kd.R_grown (Kd.R_bound h.hu) hg (fun k hk => hk.1)) (fun k hk he => ?_), h1⟩
  rcases hat with hat | ⟨b, hb, hle⟩
  · exact hk.1 (he.trans hat)
  · rw [hb] at he
    injection he with he
    have := hk.2.2.1
    omega
/-- What may be added: a row of one's own. -/
def NewRow (base : Nat) (w : World) (x : List Int) (cs : List Value) : Prop := KRow.M w base (fun k => base ≤ k ∧ k < w.heap.size ∧ ∃ cells, w.heap[k]? = some (.cells cells 2 (0, 0))) x cs
theorem NewRow.of {base : Nat} {w : World} {A : Option Addr} {c : Nat} {x : List Int} (h : Own w base 2 (.slice A x.length c) x) : NewRow base w x [.slice A x.length c] := by
  refine ⟨_, rfl, Kd.R_mono (Kd.R_bound h) (fun k hk => ⟨hk.2.1, hk.2.2.1, ?_⟩)⟩
  obtain ⟨q, hq, cells, hc⟩ := hk.2.2.2
  have h1 : q = 2 := by simpa [Kd.int, Kd.scalar] using hq
  subst h1
  exact ⟨cells, hc⟩
theorem NewRow.ne {base : Nat} {w : World} {u v : Value} {ks vs : List (List Int)} (h : TW base w u v ks vs) (k : Nat) (hk : base ≤ k ∧ k < w.heap.size ∧ ∃ cells, w.heap[k]? = some (.cells cells 2 (0, 0))) : some k ≠ u.ownBlock ∧ some k ≠ v.ownBlock := by
  obtain ⟨-, -, cells, hc⟩ := hk
  constructor
  · intro he
    obtain ⟨-, inner, ho, -⟩ := h.hu
    obtain ⟨cells', hc'⟩ := own_typed ho k he.symm
    rw [hc] at hc'
    simp at hc'
  · intro he
    obtain ⟨-, inner, ho, -⟩ := h.hv
    obtain ⟨cells', hc'⟩ := own_typed ho k he.symm
    rw [hc] at hc'
    simp at hc'

theorem NewRow.move {base : Nat} {w w1 : World} {x : List Int} {cs : List Value} (h : NewRow base w x cs) (hs : w.heap.size ≤ w1.heap.size) (hm : ∀ k, (base ≤ k ∧ k < w.heap.size ∧ ∃ cells, w.heap[k]? = some (.cells cells 2 (0, 0))) → w1.heap[k]? = w.heap[k]?) : NewRow base w1 x cs :=
  KRow.M_mono (fun k hk => ⟨hk.1, by omega, by obtain ⟨cells, hc⟩ := hk.2.2; exact ⟨cells, by rw [hm k hk]; exact hc⟩⟩) (KRow.M_move hm h)
theorem NewRow.below {base : Nat} {w w1 : World} {x : List Int} {cs : List Value} (h : NewRow base w x cs) (hb : Below w.heap.size w w1) : NewRow base w1 x cs := h.move hb.size (fun k hk => hb.block k hk.2.1)
theorem NewRow.grown {base : Nat} {w w1 : World} {x : List Int} {cs : List Value} {row : Option Nat} (h : NewRow base w x cs) (hg : w.grownBy w1 row) (hr : ∀ k, (base ≤ k ∧ k < w.heap.size ∧ ∃ cells, w.heap[k]? = some (.cells cells 2 (0, 0))) → some k ≠ row) : NewRow base w1 x cs := h.move hg.size (fun k hk => hg.block k hk.2.1 (hr k hk))
/-- A box of a new row. -/
def RB (base : Nat) (w : World) (a : Nat) (x : List Int) : Prop := ReadsRow (NewRow base w) 1 w (some ⟨a, 0, none⟩) 1 [x]
theorem RB.mk' {base : Nat} {w : World} {A : Option Addr} {c : Nat} {x : List Int} (h : NewRow base w x [.slice A x.length c]) (e : TypeId) : RB base (w.alloc (.cells #[.slice A x.length c] e)) w.heap.size x := by
  have h2 := heap_alloc_new w (.cells #[.slice A x.length c] e)
  refine ⟨rfl, by simp, fun _ => ⟨_, rfl, fun j p hj => ?_⟩⟩
  match j, hj with
  | 0, hj =>
    obtain rfl : x = p := by simpa using hj
    refine ⟨[.slice A x.length c], rfl, h.below (below_alloc (Below.refl _ _) _), fun i u hu => ?_⟩
    rw [add_plain, blk_cell h2]
    cases i with
    | zero => simpa using hu
    | succ i => simp at hu
  | j + 1, hj => simp at hj
theorem RB.below {base : Nat} {w w1 : World} {a : Nat} {x : List Int} (h : RB base w a x) (hb : Below w.heap.size w w1) : RB base w1 a x := ReadsRow.imp_ h hb (fun p cs hp => NewRow.below hp hb)
theorem RB.grown {base : Nat} {w w1 : World} {a : Nat} {x : List Int} {row : Option Nat} (h : RB base w a x) (hg : w.grownBy w1 row) (hne : some a ≠ row) (hlt : a < w.heap.size) (hr : ∀ k, (base ≤ k ∧ k < w.heap.size ∧ ∃ cells, w.heap[k]? = some (.cells cells 2 (0, 0))) → some k ≠ row) : RB base w1 a x := by
  refine ⟨h.1, h.2.1, fun hp => ?_⟩
  obtain ⟨ad, e, hc⟩ := h.2.2 hp
  injection e with e
  subst e
  refine ⟨_, rfl, fun j p hj => ?_⟩
  obtain ⟨c, h1, h2, h3⟩ := hc j p hj
  refine ⟨c, h1, NewRow.grown h2 hg hr, fun i u hu => ?_⟩
  have h4 := h3 i u hu
  rw [add_plain] at h4 ⊢
  simp only [World.cell?, hg.block a hlt hne] at h4 ⊢
  exact h4

/-- append(places[:n:n], own): it grows. -/
theorem step_grow_pl {ops : Array Oper} {o : Oper} {a : Act} {w : World} {K : Act → World → Prop} {Q : Exit → Act → World → Prop}
    (hg : o.guard = none) (s x : Operand) (hop : o.op = Op.call { callee := Callee.builtin Builtin.append, args := #[s, x], argTypes := #[106, 106] })
    (A : Option Addr) (P : List Pl) (hC : KPl.C w A P.length P) (hs : a.eval s = .slice A P.length P.length) (box : Addr) (u v : Value) (hx : a.eval x = .slice (some box) 1 1) (c0 : w.cell? (box.add 0) = some u) (c1 : w.cell? (box.add 1) = some v) (own : Pl) (hown : KPl.K w own [u, v]) (hlen : P.length ≤ 1000)
    (h : ∀ A' c' w', KPl.C w' A' (P ++ [own]).length (P ++ [own]) → (P ++ [own]).length ≤ c' → Below w.heap.size w w' → K (a.put o.dst (.slice A' (P ++ [own]).length c')) w') :
    if Region.wanted o (yielded ops a.tmps) = true then Oper.wp Try.prog o a w K Q else K (a.put o.dst undef) w := by
  obtain ⟨i0, hi, hz0, hz1, hz2⟩ := info_parts infoPl
  have hone := KPl.K_one hown
  have key : ∃ olds, Reps (KPl.K w) 2 P olds ∧ ∀ b, A = some b → ∀ j q, olds[j]? = some q → w.cell? (b.add j) = some q := by
    rcases A with _ | ad
    · have h0 : P = [] := by
        cases P with
        | nil => rfl
        | cons y l => obtain ⟨ad, e, _⟩ := hC.2.2 (by simp); cases e
      subst h0
      exact ⟨[], Reps.none _ _, fun b hb => by cases hb⟩
    · obtain ⟨inner, h1, h2⟩ := ReadsRow.inner_ hC
      exact ⟨inner, h1, fun b hb => by injection hb with hb; subst hb; exact h2⟩
  obtain ⟨olds, hr, hcell⟩ := key
  have hnone : A = none → P.length = 0 ∧ P.length = 0 := by
    intro hA
    subst hA
    have h0 : P.length = 0 := by
      rcases Nat.eq_zero_or_pos P.length with h0 | h0
      · exact h0
      · obtain ⟨ad, e, _⟩ := hC.2.2 h0; cases e
    exact ⟨h0, h0⟩
  refine step_append_grows hg s x 106 hop 110 i0 (.agg #[.slice none 0 0, .slice none 0 0]) 2 48 Try.underlying106 hi hz0 hz1 hz2 (by rfl) (by decide) A P.length P.length olds hs hnone hr.1 hcell box 1 1 [u, v] hx rfl (fun j q hj => ?_) hone (by omega) (by simp only [maxLen]; omega) (by omega) ?_
  · match j, hj with
    | 0, hj => obtain rfl : u = q := by simpa using hj
               exact c0
    | 1, hj => obtain rfl : v = q := by simpa using hj
               exact c1
    | j + 2, hj => simp at hj
  · intro v' w' hown' hg'
    have hb : Below w.heap.size w w' := (Below.refl w.heap.size w).grown hg' (Nat.le_refl _) (fun k hk => by cases hk)
    have hO : OwnRow (KPl.K w) 110 2 w' w.heap.size v' (P ++ [own]) := ⟨olds ++ [u, v], by rw [List.length_append]; exact hown', Reps.snoc hr hown rfl⟩
    obtain ⟨A', c', rfl, hl, hrd⟩ := hO.reads
    exact h A' c' w' (ReadsRow.imp_ hrd (Below.refl _ _) (fun _ _ hp => KPl.K_below hb hp)) hl hb

end Go.Proofs.Ytdfgmdmcdnnhfaa
