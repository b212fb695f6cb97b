/- Rows of one's own rows, two of them. -/
import Derived.Test.YtdfgmdmcdnnhfaaAtD
import Derived.Deep.RegionLawGrows
namespace Go.Proofs.Ytdfgmdmcdnnhfaa
open Go.RowKit Go.Shelf Go.Proofs.YtdfgmdmcdnnhfaaW.PrintWords Go.Proofs.YtdfgmdmcdnnhfaaW.PrintLast Go.Proofs.YtdfgmdmcdnnhfaaW.PrintMore
set_option linter.unusedVariables false
set_option linter.unusedSimpArgs false
set_option maxRecDepth 100000
attribute [local go_sem] gb_max2 gb_min2 gb_max_two gb_min_two gb_max_three gb_min_three

def aThru (c : Cfg) (P : List Pl) (x : List Int) : Nat → List Int × Pl
  | 0 => (x, [], [])
  | n + 1 => (aX c n (aThru c P x n).1 (colK P n) (colV P n), (aThru c P x n).2.1 ++ [aK c n (aThru c P x n).1], (aThru c P x n).2.2 ++ [aV c n (aThru c P x n).1])

/-- Two rows of one's own rows; each may be added to. -/
structure TW (base : Nat) (w : World) (u v : Value) (ks vs : List (List Int)) : Prop where
  hu : KRow.R 25 w base (fun k => some k ≠ v.ownBlock) u ks
  hv : KRow.R 25 w base (fun k => some k ≠ u.ownBlock) v vs
theorem TW.nil (base : Nat) (w : World) : TW base w (.slice none 0 0) (.slice none 0 0) [] [] := ⟨Kd.R_nil _ _ _ _ _, Kd.R_nil _ _ _ _ _⟩
theorem TW.below {base : Nat} {w w1 : World} {u v : Value} {ks vs : List (List Int)} (h : TW base w u v ks vs) (hb : Below w.heap.size w w1) : TW base w1 u v ks vs := ⟨Kd.R_below h.hu hb, Kd.R_below h.hv hb⟩
theorem TW.ltu {base : Nat} {w : World} {u v : Value} {ks vs : List (List Int)} (h : TW base w u v ks vs) (k : Nat) (hk : u.ownBlock = some k) : k < w.heap.size := by
  obtain ⟨-, inner, ho, -⟩ := h.hu
  exact own_lt ho k hk
theorem TW.ltv {base : Nat} {w : World} {u v : Value} {ks vs : List (List Int)} (h : TW base w u v ks vs) (k : Nat) (hk : v.ownBlock = some k) : k < w.heap.size := by
  obtain ⟨-, inner, ho, -⟩ := h.hv
  exact own_lt ho k hk
theorem TW.put_u {base : Nat} {w w1 : World} {u v u1 : Value} {ks vs ks1 : List (List Int)} (h : TW base w u v ks vs) (h1 : KRow.R 25 w1 base (fun k => some k ≠ v.ownBlock) u1 ks1) (hg : w.grownBy w1 u.ownBlock) (hat : u1.ownBlock = u.ownBlock ∨ ∃ b, u1.ownBlock = some b ∧ w.heap.size ≤ b) : TW base w1 u1 v ks1 vs := by
  refine ⟨h1, Kd.R_mono (Kd.R_grown (Kd.R_bound h.hv) hg (fun k hk => hk.1)) (fun k hk he => ?_)⟩
  rcases hat with hat | ⟨b, hb, hle⟩
  · exact hk.1 (he.trans hat)
  · rw [hb] at he
    injection he with he
    have := hk.2.2.1
    omega
theorem TW.put_v {base : Nat} {w w1 : World} {u v v1 : Value} {ks vs vs1 : List (List Int)} (h : TW base w u v ks vs) (h1 : KRow.R 25 w1 base (fun k => some k ≠ u.ownBlock) v1 vs1) (hg : w.grownBy w1 v.ownBlock) (hat : v1.ownBlock = v.ownBlock ∨ ∃ b, v1.ownBlock = some b ∧ w.heap.size ≤ b) : TW base w1 u v1 ks vs1 := by
  refine ⟨Kd.R_mono (Kd.R_grown (Kd.R_bound h.hu) hg (fun k hk => hk.1)) (fun k hk he => ?_), h1⟩
  rcases hat with hat | ⟨b, hb, hle⟩
  · exact hk.1 (he.trans hat)
  · rw [hb] at he
    injection he with he
    have := hk.2.2.1
    omega
/-- What may be added: a row of one's own. -/
def NewRow (base : Nat) (w : World) (x : List Int) (cs : List Value) : Prop := KRow.M w base (fun k => base ≤ k ∧ k < w.heap.size ∧ ∃ cells, w.heap[k]? = some (.cells cells 2 (0, 0))) x cs
theorem NewRow.of {base : Nat} {w : World} {A : Option Addr} {c : Nat} {x : List Int} (h : Own w base 2 (.slice A x.length c) x) : NewRow base w x [.slice A x.length c] := by
  refine ⟨_, rfl, Kd.R_mono (Kd.R_bound h) (fun k hk => ⟨hk.2.1, hk.2.2.1, ?_⟩)⟩
  obtain ⟨q, hq, cells, hc⟩ := hk.2.2.2
  have h1 : q = 2 := by simpa [Kd.int, Kd.scalar] using hq
  subst h1
  exact ⟨cells, hc⟩
theorem NewRow.ne {base : Nat} {w : World} {u v : Value} {ks vs : List (List Int)} (h : TW base w u v ks vs) (k : Nat) (hk : base ≤ k ∧ k < w.heap.size ∧ ∃ cells, w.heap[k]? = some (.cells cells 2 (0, 0))) : some k ≠ u.ownBlock ∧ some k ≠ v.ownBlock := by
  obtain ⟨-, -, cells, hc⟩ := hk
  constructor
  · intro he
    obtain ⟨-, inner, ho, -⟩ := h.hu
    obtain ⟨cells', hc'⟩ := own_typed ho k he.symm
    rw [hc] at hc'
    simp at hc'
  · intro he
    obtain ⟨-, inner, ho, -⟩ := h.hv
    obtain ⟨cells', hc'⟩ := own_typed ho k he.symm
    rw [hc] at hc'
    simp at hc'

theorem NewRow.move {base : Nat} {w w1 : World} {x : List Int} {cs : List Value} (h : NewRow base w x cs) (hs : w.heap.size ≤ w1.heap.size) (hm : ∀ k, (base ≤ k ∧ k < w.heap.size ∧ ∃ cells, w.heap[k]? = some (.cells cells 2 (0, 0))) → w1.heap[k]? = w.heap[k]?) : NewRow base w1 x cs :=
  KRow.M_mono (fun k hk => ⟨hk.1, by omega, by obtain ⟨cells, hc⟩ := hk.2.2; exact ⟨cells, by rw [hm k hk]; exact hc⟩⟩) (KRow.M_move hm h)
theorem NewRow.below {base : Nat} {w w1 : World} {x : List Int} {cs : List Value} (h : NewRow base w x cs) (hb : Below w.heap.size w w1) : NewRow base w1 x cs := h.move hb.size (fun k hk => hb.block k hk.2.1)
theorem NewRow.grown {base : Nat} {w w1 : World} {x : List Int} {cs : List Value} {row : Option Nat} (h : NewRow base w x cs) (hg : w.grownBy w1 row) (hr : ∀ k, (base ≤ k ∧ k < w.heap.size ∧ ∃ cells, w.heap[k]? = some (.cells cells 2 (0, 0))) → some k ≠ row) : NewRow base w1 x cs := h.move hg.size (fun k hk => hg.block k hk.2.1 (hr k hk))
/-- A box of a new row. -/
def RB (base : Nat) (w : World) (a : Nat) (x : List Int) : Prop := ReadsRow (NewRow base w) 1 w (some ⟨a, 0, none⟩) 1 [x]
theorem RB.mk' {base : Nat} {w : World} {A : Option Addr} {c : Nat} {x : List Int} (h : NewRow base w x [.slice A x.length c]) (e : TypeId) : RB base (w.alloc (.cells #[.slice A x.length c] e)) w.heap.size x := by
  have h2 := heap_alloc_new w (.cells #[.slice A x.length c] e)
  refine ⟨rfl, by simp, fun _ => ⟨_, rfl, fun j p hj => ?_⟩⟩
  match j, hj with
  | 0, hj =>
    obtain rfl : x = p := by simpa using hj
    refine ⟨[.slice A x.length c], rfl, h.below (below_alloc (Below.refl _ _) _), fun i u hu => ?_⟩
    rw [add_plain, blk_cell h2]
    cases i with
    | zero => simpa using hu
    | succ i => simp at hu
  | j + 1, hj => simp at hj
theorem RB.below {base : Nat} {w w1 : World} {a : Nat} {x : List Int} (h : RB base w a x) (hb : Below w.heap.size w w1) : RB base w1 a x := ReadsRow.imp_ h hb (fun p cs hp => NewRow.below hp hb)
theorem RB.grown {base : Nat} {w w1 : World} {a : Nat} {x : List Int} {row : Option Nat} (h : RB base w a x) (hg : w.grownBy w1 row) (hne : some a ≠ row) (hlt : a < w.heap.size) (hr : ∀ k, (base ≤ k ∧ k < w.heap.size ∧ ∃ cells, w.heap[k]? = some (.cells cells 2 (0, 0))) → some k ≠ row) : RB base w1 a x := by
  refine ⟨h.1, h.2.1, fun hp => ?_⟩
  obtain ⟨ad, e, hc⟩ := h.2.2 hp
  injection e with e
  subst e
  refine ⟨_, rfl, fun j p hj => ?_⟩
  obtain ⟨c, h1, h2, h3⟩ := hc j p hj
  refine ⟨c, h1, NewRow.grown h2 hg hr, fun i u hu => ?_⟩
  have h4 := h3 i u hu
  rw [add_plain] at h4 ⊢
  simp only [World.cell?, hg.block a hlt hne] at h4 ⊢
  exact h4

/-- append(places[:n:n], own): it grows. -/
theorem step_grow_pl {ops : Array Oper} {o : Oper} {a : Act} {w : World} {K : Act → World → Prop} {Q : Exit → Act → World → Prop}
    (hg : o.guard = none) (s x : Operand) (hop : o.op = Op.call { callee := Callee.builtin Builtin.append, args := #[s, x], argTypes := #[106, 106] })
    (A : Option Addr) (P : List Pl) (hC : KPl.C w A P.length P) (hs : a.eval s = .slice A P.length P.length) (box : Addr) (u v : Value) (hx : a.eval x = .slice (some box) 1 1) (c0 : w.cell? (box.add 0) = some u) (c1 : w.cell? (box.add 1) = some v) (own : Pl) (hown : KPl.K w own [u, v]) (hlen : P.length ≤ 1000)
    (h : ∀ A' c' w', KPl.C w' A' (P ++ [own]).length (P ++ [own]) → (P ++ [own]).length ≤ c' → Below w.heap.size w w' → K (a.put o.dst (.slice A' (P ++ [own]).length c')) w') :
    if Region.wanted o (yielded ops a.tmps) = true then Oper.wp Try.prog o a w K Q else K (a.put o.dst undef) w := by
  obtain ⟨i0, hi, hz0, hz1, hz2⟩ := info_parts infoPl
  have hone := KPl.K_one hown
  have key : ∃ olds, Reps (KPl.K w) 2 P olds ∧ ∀ b, A = some b → ∀ j q, olds[j]? = some q → w.cell? (b.add j) = some q := by
    rcases A with _ | ad
    · have h0 : P = [] := by
        cases P with
        | nil => rfl
        | cons y l => obtain ⟨ad, e, _⟩ := hC.2.2 (by simp); cases e
      subst h0
      exact ⟨[], Reps.none _ _, fun b hb => by cases hb⟩
    · obtain ⟨inner, h1, h2⟩ := ReadsRow.inner_ hC
      exact ⟨inner, h1, fun b hb => by injection hb with hb; subst hb; exact h2⟩
  obtain ⟨olds, hr, hcell⟩ := key
  have hnone : A = none → P.length = 0 ∧ P.length = 0 := by
    intro hA
    subst hA
    have h0 : P.length = 0 := by
      rcases Nat.eq_zero_or_pos P.length with h0 | h0
      · exact h0
      · obtain ⟨ad, e, _⟩ := hC.2.2 h0; cases e
    exact ⟨h0, h0⟩
  refine step_append_grows hg s x 106 hop 110 i0 (.agg #[.slice none 0 0, .slice none 0 0]) 2 48 Try.underlying106 hi hz0 hz1 hz2 (by rfl) (by decide) A P.length P.length olds hs hnone hr.1 hcell box 1 1 [u, v] hx rfl (fun j q hj => ?_) hone (by omega) (by simp only [maxLen]; omega) (by omega) ?_
  · match j, hj with
    | 0, hj => obtain rfl : u = q := by simpa using hj
               exact c0
    | 1, hj => obtain rfl : v = q := by simpa using hj
               exact c1
    | j + 2, hj => simp at hj
  · intro v' w' hown' hg'
    have hb : Below w.heap.size w w' := (Below.refl w.heap.size w).grown hg' (Nat.le_refl _) (fun k hk => by cases hk)
    have hO : OwnRow (KPl.K w) 110 2 w' w.heap.size v' (P ++ [own]) := ⟨olds ++ [u, v], by rw [List.length_append]; exact hown', Reps.snoc hr hown rfl⟩
    obtain ⟨A', c', rfl, hl, hrd⟩ := hO.reads
    exact h A' c' w' (ReadsRow.imp_ hrd (Below.refl _ _) (fun _ _ hp => KPl.K_below hb hp)) hl hb

/-! ### What holds at all worlds that agree on some blocks -/
def Ft (F : Nat → Prop) (w : World) (f : World → Prop) : Prop := ∀ W', (∀ k, F k → W'.heap[k]? = w.heap[k]?) → f W'
theorem Ft.self {F : Nat → Prop} {w : World} {f : World → Prop} (h : Ft F w f) : f w := h w (fun _ _ => rfl)
theorem Ft.mono {F F' : Nat → Prop} {w : World} {f : World → Prop} (h : Ft F w f) (hF : ∀ k, F k → F' k) : Ft F' w f := fun W' hW => h W' (fun k hk => hW k (hF k hk))
theorem Ft.move {F : Nat → Prop} {w w1 : World} {f : World → Prop} (h : Ft F w f) (hw : ∀ k, F k → w1.heap[k]? = w.heap[k]?) : Ft F w1 f := fun W' hW => h W' (fun k hk => (hW k hk).trans (hw k hk))
/-- The blocks from one number on, below another one. -/
def Bt (a b : Nat) (k : Nat) : Prop := a ≤ k ∧ k < b
def FU (F G : Nat → Prop) (k : Nat) : Prop := F k ∨ G k
/-- A memory, of which F are the blocks. -/
def MemF (F : Nat → Prop) (W : World) (p : Nat) (L : Int) (P : List Pl) : Prop := ∃ (A : Option Addr) (cap : Nat) (olds : List Value), P.length ≤ cap ∧ P.length ≤ 9223372036854775807 ∧ (A = none → P = []) ∧
  Ft F W (fun W' => W'.heap[p]? = some (.cells #[.int .i64 L, .slice A P.length cap] 108 (0, 0)) ∧ Reps (KPl.K W') 2 P olds ∧ ∀ b, A = some b → ∀ j u, olds[j]? = some u → W'.cell? (b.add j) = some u)
theorem reps_C {W : World} {A : Option Addr} {P : List Pl} {olds : List Value} (hl : P.length ≤ 9223372036854775807) (hA : A = none → P = []) (hr : Reps (KPl.K W) 2 P olds) (hc : ∀ b, A = some b → ∀ j u, olds[j]? = some u → W.cell? (b.add j) = some u) : KPl.C W A P.length P := by
  refine ⟨rfl, hl, fun h0 => ?_⟩
  cases A with
  | none => rw [hA rfl] at h0; simp at h0
  | some ad =>
    refine ⟨ad, rfl, fun j p hj => ⟨(olds.drop (j * 2)).take 2, by show _ = 2; rw [List.length_take, List.length_drop, hr.1]; have := (List.getElem?_eq_some_iff.1 hj).1; omega, hr.2 j p hj, fun i u hu => ?_⟩⟩
    rw [List.getElem?_take] at hu
    split at hu
    · rw [List.getElem?_drop] at hu
      exact hc ad rfl _ _ hu
    · cases hu
theorem MemF.mem {F : Nat → Prop} {W : World} {p : Nat} {L : Int} {P : List Pl} (h : MemF F W p L P) : MemP W p L P := by
  obtain ⟨A, cap, olds, h1, h2, h3, h4⟩ := h
  obtain ⟨h5, h6, h7⟩ := h4.self
  exact ⟨A, cap, h5, reps_C h2 h3 h6 h7, h1⟩
theorem MemF.mono {F F' : Nat → Prop} {W : World} {p : Nat} {L : Int} {P : List Pl} (h : MemF F W p L P) (hF : ∀ k, F k → F' k) : MemF F' W p L P := by
  obtain ⟨A, cap, olds, h1, h2, h3, h4⟩ := h
  exact ⟨A, cap, olds, h1, h2, h3, h4.mono hF⟩
theorem MemF.move {F : Nat → Prop} {W W1 : World} {p : Nat} {L : Int} {P : List Pl} (h : MemF F W p L P) (hw : ∀ k, F k → W1.heap[k]? = W.heap[k]?) : MemF F W1 p L P := by
  obtain ⟨A, cap, olds, h1, h2, h3, h4⟩ := h
  exact ⟨A, cap, olds, h1, h2, h3, h4.move hw⟩
theorem MemF.below {F : Nat → Prop} {W W1 : World} {p : Nat} {L : Int} {P : List Pl} (h : MemF F W p L P) (hF : ∀ k, F k → k < W.heap.size) (hb : Below W.heap.size W W1) : MemF F W1 p L P := h.move (fun k hk => hb.block k (hF k hk))
/-- An empty memory, newly made. -/
theorem MemF.empty (W : World) (L : Int) : MemF (Bt W.heap.size (W.heap.size + 1)) (W.alloc (.cells #[.int .i64 L, .slice none 0 0] 108)) W.heap.size L [] :=
  ⟨none, 0, [], by simp, by simp, fun _ => rfl, fun W' hW => ⟨by rw [hW _ ⟨Nat.le_refl _, Nat.lt_succ_self _⟩]; exact heap_alloc_new W _, Reps.none _ _, fun b hb => by cases hb⟩⟩

/-- append(places[:n:n], own), told by blocks. -/
theorem step_grow_plF {ops : Array Oper} {o : Oper} {a : Act} {w : World} {K : Act → World → Prop} {Q : Exit → Act → World → Prop}
    (hg : o.guard = none) (s x : Operand) (hop : o.op = Op.call { callee := Callee.builtin Builtin.append, args := #[s, x], argTypes := #[106, 106] })
    (A : Option Addr) (P : List Pl) (olds : List Value) (hA : A = none → P = []) (hr : Reps (KPl.K w) 2 P olds) (hcell : ∀ b, A = some b → ∀ j u, olds[j]? = some u → w.cell? (b.add j) = some u) (hs : a.eval s = .slice A P.length P.length) (box : Addr) (u v : Value) (hx : a.eval x = .slice (some box) 1 1) (c0 : w.cell? (box.add 0) = some u) (c1 : w.cell? (box.add 1) = some v) (own : Pl) (hown : KPl.K w own [u, v]) (hlen : P.length ≤ 1000)
    (h : ∀ A' c' w', w'.ownsRow w.heap.size 110 2 (.slice A' (P ++ [own]).length c') (P ++ [own]).length (olds ++ [u, v]) → Below w.heap.size w w' → K (a.put o.dst (.slice A' (P ++ [own]).length c')) w') :
    if Region.wanted o (yielded ops a.tmps) = true then Oper.wp Try.prog o a w K Q else K (a.put o.dst undef) w := by
  obtain ⟨i0, hi, hz0, hz1, hz2⟩ := info_parts infoPl
  have hone := KPl.K_one hown
  have hnone : A = none → P.length = 0 ∧ P.length = 0 := by
    intro hA'
    have h0 : P.length = 0 := by rw [hA hA']; rfl
    exact ⟨h0, h0⟩
  refine step_append_grows hg s x 106 hop 110 i0 (.agg #[.slice none 0 0, .slice none 0 0]) 2 48 Try.underlying106 hi hz0 hz1 hz2 (by rfl) (by decide) A P.length P.length olds hs hnone hr.1 hcell box 1 1 [u, v] hx rfl (fun j q hj => ?_) hone (by omega) (by simp only [maxLen]; omega) (by omega) ?_
  · match j, hj with
    | 0, hj => obtain rfl : u = q := by simpa using hj
               exact c0
    | 1, hj => obtain rfl : v = q := by simpa using hj
               exact c1
    | j + 2, hj => simp at hj
  · intro v' w' hown' hg'
    have hb : Below w.heap.size w w' := (Below.refl w.heap.size w).grown hg' (Nat.le_refl _) (fun k hk => by cases hk)
    have hO : OwnRow (KPl.K w) 110 2 w' w.heap.size v' (P ++ [own]) := ⟨olds ++ [u, v], by rw [List.length_append]; exact hown', Reps.snoc hr hown rfl⟩
    obtain ⟨A', c', rfl, hl, hrd⟩ := hO.reads
    have e9 : (P ++ [own]).length = P.length + 1 := by rw [List.length_append]; rfl
    rw [← e9] at hown'
    exact h A' c' w' hown' hb
/-- What an appended row of places, and its memory, are, told by blocks. -/
theorem memF_grown {F : Nat → Prop} {W w w' : World} {A' : Option Addr} {P : List Pl} {own : Pl} {olds : List Value} {u v : Value} {c' : Nat} {L : Int}
    (hF : ∀ k, F k → k < W.heap.size) (hold : Ft F W (fun W' => Reps (KPl.K W') 2 P olds)) (hWw : Below W.heap.size W w) (hlen : P.length ≤ 1000)
    (hnew : Ft (Bt W.heap.size w.heap.size) w (fun W' => KPl.K W' own [u, v]))
    (ho : w'.ownsRow w.heap.size 110 2 (.slice A' (P ++ [own]).length c') (P ++ [own]).length (olds ++ [u, v])) (hb : Below w.heap.size w w') :
    MemF (FU F (Bt W.heap.size (w'.heap.size + 1))) (w'.alloc (.cells #[.int .i64 L, .slice A' (P ++ [own]).length c'] 108)) w'.heap.size L (P ++ [own]) := by
  have hl1 : (P ++ [own]).length = P.length + 1 := by rw [List.length_append]; rfl
  have hA : A' = none → P ++ [own] = [] := by
    rintro rfl
    rcases ho.2 with ⟨-, h0⟩ | ⟨g, cap, cur, he, -⟩
    · exact List.eq_nil_of_length_eq_zero h0
    · injection he with he; cases he
  have hcap : (P ++ [own]).length ≤ c' := by
    rcases ho.2 with ⟨he, h0⟩ | ⟨g, cap, cur, he, h1, h2, h3, h4, h5⟩
    · injection he with _ h6 h7; omega
    · injection he with _ h6 h7; omega
  refine ⟨A', c', olds ++ [u, v], hcap, by omega, hA, fun W' hW => ?_⟩
  have hsz : w.heap.size ≤ w'.heap.size := hb.size
  have hal : ∀ k, k < w'.heap.size → (w'.alloc (.cells #[.int .i64 L, .slice A' (P ++ [own]).length c'] 108)).heap[k]? = w'.heap[k]? := fun k hk => Below.heap_alloc _ _ _ hk
  have hs1 := hWw.size
  refine ⟨by rw [hW _ (.inr ⟨by omega, Nat.lt_succ_self _⟩)]; exact heap_alloc_new w' _, ?_, ?_⟩
  · refine Reps.snoc (hold W' (fun k hk => ?_)) (hnew W' (fun k hk => ?_)) rfl
    · have h1 := hF k hk
      rw [hW k (.inl hk), hal k (by omega), hb.block k (by omega), hWw.block k h1]
    · rw [hW k (.inr ⟨hk.1, by have := hk.2; omega⟩), hal k (by have := hk.2; omega), hb.block k hk.2]
  · intro b hb' j q hj
    have ho' : W'.ownsRow w.heap.size 110 2 (.slice A' (P ++ [own]).length c') (P ++ [own]).length (olds ++ [u, v]) := own_move ho (fun k hk => by
      have h1 := own_base ho k hk
      have h2 := own_lt ho k hk
      rw [hW k (.inr ⟨by omega, by omega⟩), hal k h2])
    subst hb'
    rcases ho.2 with ⟨he, -⟩ | ⟨g, cap, cur, he, -⟩
    · injection he with he; cases he
    · injection he with he
      injection he with he
      subst he
      exact ho'.cells (g := g) rfl j _ hj

/-- .. all of them there. -/
def MemG (F : Nat → Prop) (W : World) (p : Nat) (L : Int) (P : List Pl) : Prop := MemF F W p L P ∧ ∀ k, F k → k < W.heap.size
theorem MemG.below {F : Nat → Prop} {W W1 : World} {p : Nat} {L : Int} {P : List Pl} (h : MemG F W p L P) (hb : Below W.heap.size W W1) : MemG F W1 p L P := ⟨h.1.below h.2 hb, fun k hk => Nat.lt_of_lt_of_le (h.2 k hk) hb.size⟩
theorem MemG.mem {F : Nat → Prop} {W : World} {p : Nat} {L : Int} {P : List Pl} (h : MemG F W p L P) : MemP W p L P := h.1.mem
theorem MemG.wide {F F' : Nat → Prop} {W : World} {p : Nat} {L : Int} {P : List Pl} (h : MemG F W p L P) (hF : ∀ k, F k → F' k) (hF' : ∀ k, F' k → k < W.heap.size) : MemG F' W p L P := ⟨h.1.mono hF, hF'⟩
/-- Another row has grown. -/
theorem MemG.grown {F : Nat → Prop} {W W1 : World} {row : Option Nat} {p : Nat} {L : Int} {P : List Pl} (h : MemG F W p L P) (hg : W.grownBy W1 row) (hr : ∀ k, F k → some k ≠ row) : MemG F W1 p L P := ⟨h.1.move (fun k hk => hg.block k (h.2 k hk) (hr k hk)), fun k hk => Nat.lt_of_lt_of_le (h.2 k hk) hg.size⟩
theorem memF_nil {W : World} {p : Nat} {L : Int} (h : MemP W p L []) : MemG (fun k => k = p) W p L [] := by
  obtain ⟨A, cap, h1, h2, h3⟩ := h
  refine ⟨⟨A, cap, [], by simp, by simp, fun _ => rfl, fun W' hW => ⟨by rw [hW p rfl]; exact h1, Reps.none _ _, fun b hb j u hu => by simp at hu⟩⟩, fun k hk => ?_⟩
  subst hk
  rcases Nat.lt_or_ge k W.heap.size with h | h
  · exact h
  · rw [Array.getElem?_eq_none h] at h1; cases h1
theorem anewG_any (n : Int) (W : World) : Calls Try.prog 24 #[.int .i64 n] W fun e w' => ∃ p, e = .returned (.pointer (some ⟨p, 0, none⟩)) ∧ MemG (Bt W.heap.size w'.heap.size) w' p (min (max n 0) 4) [] ∧ Below W.heap.size W w' := by
  have hm : MemG (Bt W.heap.size (W.alloc (.cells #[.int .i64 (min (max n 0) 4), .slice none 0 0] 108)).heap.size) (W.alloc (.cells #[.int .i64 (min (max n 0) 4), .slice none 0 0] 108)) W.heap.size (min (max n 0) 4) [] :=
    ⟨(MemF.empty W _).mono (fun k hk => ⟨hk.1, by have := hk.2; simpa using this⟩), fun k hk => hk.2⟩
  have hb : Below W.heap.size W (W.alloc (.cells #[.int .i64 (min (max n 0) 4), .slice none 0 0] 108)) := below_alloc (Below.refl _ W) _
  obtain ⟨L, hL⟩ : ∃ L, min (max n 0) 4 = L := ⟨_, rfl⟩
  rw [hL] at hm hb ⊢
  have HM := Lib.hid hm
  have HB := Lib.hid hb
  have hL' : (if (if n < 0 then (0:Int) else n) < 4 then (if n < 0 then (0:Int) else n) else 4) = L := by
    rw [← hL]; split <;> split <;> omega
  clear hm hb
  go_enter Try.func24, Try.ntmps24
  go_wp2_with fail
  go_ret
  exact ⟨_, rfl, HM.out, HB.out⟩
theorem own_Ft {wn wr w : World} {u v : Value} {KK VV : List (List Int)} (h : TW wn.heap.size wr u v KK VV) (hb : Below wr.heap.size wr w) : Ft (Bt wn.heap.size w.heap.size) w (fun W' => KPl.K W' (KK, VV) [u, v]) := by
  intro W' hW
  have key : ∀ k, wn.heap.size ≤ k ∧ k < wr.heap.size → W'.heap[k]? = wr.heap[k]? := fun k hk => (hW k ⟨hk.1, Nat.lt_of_lt_of_le hk.2 hb.size⟩).trans (hb.block k hk.2)
  have h1 := Kd.R_move (w1 := W') (Kd.R_bound h.hu) (fun k hk => key k ⟨hk.2.1, hk.2.2.1⟩)
  have h2 := Kd.R_move (w1 := W') (Kd.R_bound h.hv) (fun k hk => key k ⟨hk.2.1, hk.2.2.1⟩)
  obtain ⟨A1, c1, e1, l1, C1⟩ := Kd.R_reads h1
  obtain ⟨A2, c2, e2, l2, C2⟩ := Kd.R_reads h2
  exact ⟨[u], [v], rfl, ⟨A1, c1, by rw [e1], l1, C1⟩, ⟨A2, c2, by rw [e2], l2, C2⟩⟩

end Go.Proofs.Ytdfgmdmcdnnhfaa
