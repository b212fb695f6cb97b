/- A state of decode, told by blocks. -/
import Derived.Test.YtdfgmdmcdnnhfaaGreatAtX
namespace Go.Proofs.YtdfgmdmcdnnhfaaGreat
open Go.RowKit Go.Shelf Go.Proofs.YtdfgmdmcdnnhfaaGreatW.PrintWords Go.Proofs.YtdfgmdmcdnnhfaaGreatW.PrintLast Go.Proofs.YtdfgmdmcdnnhfaaGreatW.PrintMore
set_option linter.unusedVariables false
set_option linter.unusedSimpArgs false
set_option maxRecDepth 100000

/-- What came of a text: the last vectors, and the places. -/
def dX (c : Cfg) (t : Int) (n : Nat) : List Int := vadd (mtok c t) (mplc c n)
def dStep (c : Cfg) (s : List (List Int) × List Pl) (t : Int) : List (List Int) × List Pl := (s.1 ++ [ty c s.2 (dX c t s.2.length)], s.2 ++ [tp c s.2 (dX c t s.2.length)])
def dSt (c : Cfg) (toks : List Int) : List (List Int) × List Pl := toks.foldl (dStep c) ([], [])
def dO (c : Cfg) (toks : List Int) : List (List Int) := (dSt c toks).1
def dP (c : Cfg) (toks : List Int) : List Pl := (dSt c toks).2
theorem dSt_snoc (c : Cfg) (toks : List Int) (t : Int) : dSt c (toks ++ [t]) = dStep c (dSt c toks) t := by unfold dSt; rw [List.foldl_append]; rfl
theorem dSt_len (c : Cfg) (toks : List Int) : (dO c toks).length = toks.length ∧ (dP c toks).length = toks.length := by
  have key : ∀ (l : List Int) (s : List (List Int) × List Pl), (l.foldl (dStep c) s).1.length = s.1.length + l.length ∧ (l.foldl (dStep c) s).2.length = s.2.length + l.length := by
    intro l
    induction l with
    | nil => intro s; exact ⟨rfl, rfl⟩
    | cons t l ih =>
      intro s
      have h := ih (dStep c s t)
      rw [List.foldl_cons, h.1, h.2]
      unfold dStep
      simp only [List.length_append, List.length_cons, List.length_nil]
      omega
  have h := key toks ([], [])
  exact ⟨by unfold dO dSt; rw [h.1]; simp, by unfold dP dSt; rw [h.2]; simp⟩
theorem dO_snoc (c : Cfg) (toks : List Int) (t : Int) : dO c (toks ++ [t]) = dO c toks ++ [ty c (dP c toks) (dX c t toks.length)] := by
  have h := (dSt_len c toks).2
  unfold dO dP at *
  rw [dSt_snoc]; unfold dStep; rw [h]
theorem dP_snoc (c : Cfg) (toks : List Int) (t : Int) : dP c (toks ++ [t]) = dP c toks ++ [tp c (dP c toks) (dX c t toks.length)] := by
  have h := (dSt_len c toks).2
  unfold dP at *
  rw [dSt_snoc]; unfold dStep; rw [h]
theorem snoc_ind {α : Type} {p : List α → Prop} (h0 : p []) (h1 : ∀ l a, p l → p (l ++ [a])) (l : List α) : p l := by
  have key : ∀ n (l : List α), l.length = n → p l := by
    intro n
    induction n with
    | zero => intro l hl; rw [List.eq_nil_of_length_eq_zero hl]; exact h0
    | succ n ih =>
      intro l hl
      have hne : l ≠ [] := by intro h; rw [h] at hl; cases hl
      rw [← List.dropLast_concat_getLast hne]
      exact h1 _ _ (ih _ (by rw [List.length_dropLast]; omega))
  exact key _ l rfl
theorem dP_ok (c : Cfg) (hok : c.ok) (toks : List Int) : PlOk c.layers.toNat (dP c toks) :=
  snoc_ind (p := fun toks => PlOk c.layers.toNat (dP c toks)) (plok_nil _) (fun l a h => by rw [dP_snoc]; exact plok_tp c hok _ _ _ h) toks
theorem mplc_len' (c : Cfg) (hok : c.ok) (n : Int) : (mplc c n).length ≤ 16 := by
  unfold mplc; split
  · rw [mplace_len]; have := hok.2.1; omega
  · simp
theorem dX_len (c : Cfg) (hok : c.ok) (t : Int) (n : Nat) : (dX c t n).length ≤ 16 := Nat.le_trans (vadd_len _ _) (mtok_len c hok t)
theorem dO_short (c : Cfg) (hok : c.ok) (toks : List Int) : ∀ r ∈ dO c toks, r.length ≤ 16 :=
  snoc_ind (p := fun toks => ∀ r ∈ dO c toks, r.length ≤ 16) (fun r hr => by simp [dO, dSt] at hr) (fun l a h r hr => by
    rw [dO_snoc] at hr
    rcases List.mem_append.1 hr with hr | hr
    · exact h r hr
    · obtain rfl : r = ty c (dP c l) (dX c a l.length) := by simpa using hr
      exact Nat.le_trans (ty_le _ _ _) (dX_len c hok _ _)) toks

theorem int_cells {w : World} {A : Option Addr} {xs : List Int} (h : (Kd.int .i64).C w A xs.length xs) : (A = none → xs = []) ∧ ∀ b, A = some b → ∀ j u, (nums .i64 xs)[j]? = some u → w.cell? (b.add j) = some u := by
  constructor
  · intro hA
    cases xs with
    | nil => rfl
    | cons x l => obtain ⟨a, h, _⟩ := at_nat h 0 (by simp); rw [hA] at h; cases h
  · intro b hA j u hu
    have hj : j < xs.length := by
      have := (List.getElem?_eq_some_iff.1 hu).1
      simpa [nums] using this
    obtain ⟨a, ha, hc⟩ := at_nat h j hj
    rw [hA] at ha
    injection ha with ha
    subst ha
    rw [hc]
    rw [← hu, nums, List.getElem?_map, List.getElem?_eq_getElem hj, List.getD_eq_getElem?_getD, List.getElem?_eq_getElem hj]; rfl
/-- A row of rows, its cells told. -/
def RowsO (W : World) (A : Option Addr) (xss : List (List Int)) (olds : List Value) : Prop := Reps (KRow.K W) 1 xss olds ∧ ∀ b, A = some b → ∀ j u, olds[j]? = some u → W.cell? (b.add j) = some u
theorem RowsO.rows {W : World} {A : Option Addr} {xss : List (List Int)} {olds : List Value} (h : RowsO W A xss olds) (hA : A = none → xss = []) (hl : xss.length ≤ 9223372036854775807) : Rows_ W A xss := by
  refine ⟨rfl, hl, fun h0 => ?_⟩
  cases A with
  | none => rw [hA rfl] at h0; simp at h0
  | some ad =>
    refine ⟨ad, rfl, fun j p hj => ⟨(olds.drop (j * 1)).take 1, by show _ = 1; rw [List.length_take, List.length_drop, h.1.1]; have := (List.getElem?_eq_some_iff.1 hj).1; omega, h.1.2 j p hj, fun i u hu => ?_⟩⟩
    rw [List.getElem?_take] at hu
    split at hu
    · rw [List.getElem?_drop] at hu
      exact h.2 ad rfl _ _ hu
    · cases hu

/-- A state at s, of which F are the blocks. -/
def StF (F : Nat → Prop) (W : World) (s p : Nat) (c : Cfg) (toks : List Int) : Prop := ∃ (At : Option Addr) (ct : Nat) (Ao : Option Addr) (co q : Nat) (olds : List Value), toks.length ≤ ct ∧ toks.length ≤ co ∧ toks.length ≤ 9223372036854775807 ∧ (Ao = none → toks = []) ∧
  Ft F W (fun W' => W'.heap[s]? = some (.cells #[.pointer (some ⟨p, 0, none⟩), .slice At toks.length ct, .slice Ao toks.length co, .pointer (some ⟨q, 0, none⟩)] 66 (0, 0)) ∧ (Kd.int .i64).C W' At toks.length toks ∧ RowsO W' Ao (dO c toks) olds) ∧
  MemF F W q c.layers (dP c toks)
def StG (F : Nat → Prop) (W : World) (s p : Nat) (c : Cfg) (toks : List Int) : Prop := StF F W s p c toks ∧ ∀ k, F k → k < W.heap.size
theorem StF.mono {F F' : Nat → Prop} {W : World} {s p : Nat} {c : Cfg} {toks : List Int} (h : StF F W s p c toks) (hF : ∀ k, F k → F' k) : StF F' W s p c toks := by
  obtain ⟨At, ct, Ao, co, q, olds, h1, h2, h3, h4, h5, h6⟩ := h
  exact ⟨At, ct, Ao, co, q, olds, h1, h2, h3, h4, h5.mono hF, h6.mono hF⟩
theorem StF.move {F : Nat → Prop} {W W1 : World} {s p : Nat} {c : Cfg} {toks : List Int} (h : StF F W s p c toks) (hw : ∀ k, F k → W1.heap[k]? = W.heap[k]?) : StF F W1 s p c toks := by
  obtain ⟨At, ct, Ao, co, q, olds, h1, h2, h3, h4, h5, h6⟩ := h
  exact ⟨At, ct, Ao, co, q, olds, h1, h2, h3, h4, h5.move hw, h6.move hw⟩
theorem StG.below {F : Nat → Prop} {W W1 : World} {s p : Nat} {c : Cfg} {toks : List Int} (h : StG F W s p c toks) (hb : Below W.heap.size W W1) : StG F W1 s p c toks :=
  ⟨h.1.move (fun k hk => hb.block k (h.2 k hk)), fun k hk => Nat.lt_of_lt_of_le (h.2 k hk) hb.size⟩
theorem StG.wide {F F' : Nat → Prop} {W : World} {s p : Nat} {c : Cfg} {toks : List Int} (h : StG F W s p c toks) (hF : ∀ k, F k → F' k) (hF' : ∀ k, F' k → k < W.heap.size) : StG F' W s p c toks := ⟨h.1.mono hF, hF'⟩
theorem StG.grown {F : Nat → Prop} {W W1 : World} {row : Option Nat} {s p : Nat} {c : Cfg} {toks : List Int} (h : StG F W s p c toks) (hg : W.grownBy W1 row) (hr : ∀ k, F k → some k ≠ row) : StG F W1 s p c toks :=
  ⟨h.1.move (fun k hk => hg.block k (h.2 k hk) (hr k hk)), fun k hk => Nat.lt_of_lt_of_le (h.2 k hk) hg.size⟩
/-- What is there, to be read. -/
theorem StG.at_ {F : Nat → Prop} {W : World} {s p : Nat} {c : Cfg} {toks : List Int} (h : StG F W s p c toks) : ∃ (At : Option Addr) (ct : Nat) (Ao : Option Addr) (co q : Nat), toks.length ≤ ct ∧ toks.length ≤ co ∧
    W.heap[s]? = some (.cells #[.pointer (some ⟨p, 0, none⟩), .slice At toks.length ct, .slice Ao toks.length co, .pointer (some ⟨q, 0, none⟩)] 66 (0, 0)) ∧ (Kd.int .i64).C W At toks.length toks ∧ Rows_ W Ao (dO c toks) ∧ MemG F W q c.layers (dP c toks) := by
  obtain ⟨At, ct, Ao, co, q, olds, h1, h2, h3, h4, h5, h6⟩ := h.1
  obtain ⟨h7, h8, h9⟩ := h5.self
  refine ⟨At, ct, Ao, co, q, h1, h2, h7, h8, h9.rows (fun hA => ?_) (by rw [(dSt_len c toks).1]; exact h3), h6, h.2⟩
  rw [h4 hA]; rfl

/-- append to a whole slice of ints, and of rows: it grows. -/
theorem infoRowT : (Tryz.prog.info? 55).map (fun i => (i.zero, i.size, i.bytes)) = some (some (.slice none 0 0), 1, 24) := by kernel_rfl
theorem step_grow_int {ops : Array Oper} {o : Oper} {a : Act} {w : World} {K : Act → World → Prop} {Q : Exit → Act → World → Prop}
    (hg : o.guard = none) (s x : Operand) (hop : o.op = Op.call { callee := Callee.builtin Builtin.append, args := #[s, x], argTypes := #[25, 25] })
    (A : Option Addr) (xs : List Int) (y : Int) (n : Nat) (hn : xs.length = n) (hC : (Kd.int .i64).C w A xs.length xs) (hs : a.eval s = .slice A n n) (box : Addr) (hx : a.eval x = .slice (some box) 1 1) (c0 : w.cell? (box.add 0) = some (.int .i64 y)) (hlen : n ≤ 1000)
    (h : ∀ A' c' w', Own w' w.heap.size 3 (.slice A' (n + 1) c') (xs ++ [y]) → Below w.heap.size w w' → K (a.put o.dst (.slice A' (n + 1) c')) w') :
    if Region.wanted o (yielded ops a.tmps) = true then Oper.wp Tryz.prog o a w K Q else K (a.put o.dst undef) w := by
  subst hn
  obtain ⟨i0, hi, hz0, hz1, hz2⟩ := info_parts infoInt
  obtain ⟨hA, hcell⟩ := int_cells hC
  have hnone : A = none → xs.length = 0 ∧ xs.length = 0 := fun h0 => by rw [hA h0]; exact ⟨rfl, rfl⟩
  have hol : (nums .i64 xs).length = xs.length * 1 := by simp [nums]
  refine step_append_grows hg s x 25 hop 3 i0 (.int .i64 0) 1 8 Tryz.underlying25 hi hz0 hz1 hz2 (by rfl) (by decide) A xs.length xs.length (nums .i64 xs) hs hnone hol hcell box 1 1 [.int .i64 y] hx rfl (fun j q hj => ?_) (by simp [Value.oneCell']) (by omega) (by simp only [maxLen]; omega) (by omega) ?_
  · match j, hj with
    | 0, hj => obtain rfl : Value.int .i64 y = q := by simpa using hj
               exact c0
    | j + 1, hj => simp at hj
  · intro v' w' hown' hg'
    have hb : Below w.heap.size w w' := (Below.refl w.heap.size w).grown hg' (Nat.le_refl _) (fun k hk => by cases hk)
    have e1 : (xs ++ [y]).length = xs.length + 1 := by rw [List.length_append]; rfl
    have e2 : nums .i64 xs ++ [Value.int .i64 y] = encs (Value.int .i64) (xs ++ [y]) := by simp [nums, encs]
    have hO : Own w' w.heap.size 3 v' (xs ++ [y]) := Own.of_raw (by rw [← e2, e1]; exact hown')
    obtain ⟨A', c', hv, -, -⟩ := hO.reads
    rw [e1] at hv
    subst hv
    exact h A' c' w' hO hb
theorem step_grow_rows {ops : Array Oper} {o : Oper} {a : Act} {w : World} {K : Act → World → Prop} {Q : Exit → Act → World → Prop}
    (hg : o.guard = none) (s x : Operand) (hop : o.op = Op.call { callee := Callee.builtin Builtin.append, args := #[s, x], argTypes := #[54, 54] })
    (A : Option Addr) (n : Nat) (olds : List Value) (hA : A = none → n = 0) (hol : olds.length = n) (hcell : ∀ b, A = some b → ∀ j u, olds[j]? = some u → w.cell? (b.add j) = some u) (hs : a.eval s = .slice A n n) (box : Addr) (Ay : Option Addr) (ny cy : Nat) (hx : a.eval x = .slice (some box) 1 1) (c0 : w.cell? (box.add 0) = some (.slice Ay ny cy)) (hlen : n ≤ 1000)
    (h : ∀ A' c' w', w'.ownsRow w.heap.size 55 1 (.slice A' (n + 1) c') (n + 1) (olds ++ [.slice Ay ny cy]) → Below w.heap.size w w' → K (a.put o.dst (.slice A' (n + 1) c')) w') :
    if Region.wanted o (yielded ops a.tmps) = true then Oper.wp Tryz.prog o a w K Q else K (a.put o.dst undef) w := by
  obtain ⟨i0, hi, hz0, hz1, hz2⟩ := info_parts infoRowT
  have hnone : A = none → n = 0 ∧ n = 0 := fun h0 => ⟨hA h0, hA h0⟩
  refine step_append_grows hg s x 54 hop 55 i0 (.slice none 0 0) 1 24 Tryz.underlying54 hi hz0 hz1 hz2 (by rfl) (by decide) A n n olds hs hnone (by omega) hcell box 1 1 [.slice Ay ny cy] hx rfl (fun j q hj => ?_) (by simp [Value.oneCell']) (by omega) (by simp only [maxLen]; omega) (by omega) ?_
  · match j, hj with
    | 0, hj => obtain rfl : Value.slice Ay ny cy = q := by simpa using hj
               exact c0
    | j + 1, hj => simp at hj
  · intro v' w' hown' hg'
    have hb : Below w.heap.size w w' := (Below.refl w.heap.size w).grown hg' (Nat.le_refl _) (fun k hk => by cases hk)
    obtain ⟨A', c', rfl⟩ := own_slice hown'
    exact h A' c' w' hown' hb

theorem own_Ft1 {base e : Nat} {w : World} {v : Value} {xs : List Int} (h : Own w base e v xs) : Ft (Bt base w.heap.size) w (fun W' => Own W' base e v xs) := fun W' hW =>
  Kd.R_mono (Kd.R_move (w1 := W') (Kd.R_bound h) (fun k hk => hW k ⟨hk.2.1, hk.2.2.1⟩)) (fun _ _ => trivial)
/-- The state that is made. -/
theorem stF_new {F : Nat → Prop} {W w8 : World} {p : Nat} {c : Cfg} {toks : List Int} {t : Int} {At' Ao' Ay : Option Addr} {c1 c2 cy q' : Nat} {olds : List Value} {Y : List Int}
    (hF : ∀ k, F k → k < W.heap.size) (hold : Ft F W (fun W' => Reps (KRow.K W') 1 (dO c toks) olds)) (hb : Below W.heap.size W w8) (hlen : toks.length ≤ 1000)
    (ht : Own w8 W.heap.size 3 (.slice At' (toks ++ [t]).length c1) (toks ++ [t]))
    (ho : w8.ownsRow W.heap.size 55 1 (.slice Ao' (toks.length + 1) c2) (toks.length + 1) (olds ++ [.slice Ay Y.length cy]))
    (hy : Own w8 W.heap.size 2 (.slice Ay Y.length cy) Y) (hY : ty c (dP c toks) (dX c t toks.length) = Y)
    (hm : MemG (FU F (Bt W.heap.size w8.heap.size)) w8 q' c.layers (dP c (toks ++ [t]))) :
    StG (FU F (Bt W.heap.size (w8.heap.size + 1))) (w8.alloc (.cells #[.pointer (some ⟨p, 0, none⟩), .slice At' (toks ++ [t]).length c1, .slice Ao' (toks.length + 1) c2, .pointer (some ⟨q', 0, none⟩)] 66)) w8.heap.size p c (toks ++ [t]) := by
  have hl1 : (toks ++ [t]).length = toks.length + 1 := by rw [List.length_append]; rfl
  have hs := hb.size
  have hal : ∀ k, k < w8.heap.size → (w8.alloc (.cells #[.pointer (some ⟨p, 0, none⟩), .slice At' (toks ++ [t]).length c1, .slice Ao' (toks.length + 1) c2, .pointer (some ⟨q', 0, none⟩)] 66)).heap[k]? = w8.heap[k]? := fun k hk => Below.heap_alloc _ _ _ hk
  have hA : Ao' = none → toks ++ [t] = [] := by
    rintro rfl
    rcases ho.2 with ⟨-, h0⟩ | ⟨g, cap, cur, he, -⟩
    · omega
    · injection he with he; cases he
  have hc2 : toks.length + 1 ≤ c2 := by
    rcases ho.2 with ⟨he, h0⟩ | ⟨g, cap, cur, he, h1, h2, h3, h4, h5⟩
    · omega
    · injection he with _ h6 h7; omega
  refine ⟨⟨At', c1, Ao', c2, q', olds ++ [.slice Ay Y.length cy], ht.rd.1, by omega, by omega, hA, fun W' hW => ?_, ?_⟩, fun k hk => ?_⟩
  · have key : ∀ k, W.heap.size ≤ k → k < w8.heap.size → W'.heap[k]? = w8.heap[k]? := fun k h1 h2 => (hW k (.inr ⟨h1, by omega⟩)).trans (hal k h2)
    refine ⟨?_, ?_, ?_, ?_⟩
    · rw [hW _ (.inr ⟨hs, Nat.lt_succ_self _⟩), hl1]
      exact heap_alloc_new w8 _
    · exact (own_Ft1 ht W' (fun k hk => key k hk.1 hk.2)).rd.2
    · rw [dO_snoc, hY]
      refine Reps.snoc (hold W' (fun k hk => ?_)) ?_ rfl
      · have h1 := hF k hk
        rw [hW k (.inl hk), hal k (by omega), hb.block k h1]
      · have h2 := (own_Ft1 hy W' (fun k hk => key k hk.1 hk.2)).rd
        exact ⟨Ay, cy, rfl, h2.1, h2.2⟩
    · intro b hb' j u hj
      have ho' : W'.ownsRow W.heap.size 55 1 (.slice Ao' (toks.length + 1) c2) (toks.length + 1) (olds ++ [.slice Ay Y.length cy]) := own_move ho (fun k hk => key k (own_base ho k hk) (own_lt ho k hk))
      subst hb'
      rcases ho.2 with ⟨he, -⟩ | ⟨g, cap, cur, he, -⟩
      · injection he with he; cases he
      · injection he with he
        injection he with he
        subst he
        exact ho'.cells (g := g) rfl j _ hj
  · refine (hm.1.move (fun k hk => hal k (hm.2 k hk))).mono (fun k hk => ?_)
    rcases hk with hk | hk
    · exact .inl hk
    · exact .inr ⟨hk.1, by have := hk.2; omega⟩
  · rcases hk with hk | hk
    · have := hF k hk; simp; omega
    · have := hk.2; simp; omega
theorem stF_made {F : Nat → Prop} {W w8 : World} {p : Nat} {c : Cfg} {toks : List Int} {t : Int} {At' Ao' Ay : Option Addr} {c1 c2 cy q' n : Nat} {olds : List Value} {Y : List Int} (hn : toks.length = n)
    (hF : ∀ k, F k → k < W.heap.size) (hold : Ft F W (fun W' => Reps (KRow.K W') 1 (dO c toks) olds)) (hb : Below W.heap.size W w8) (hlen : toks.length ≤ 1000)
    (ht : Own w8 W.heap.size 3 (.slice At' (n + 1) c1) (toks ++ [t]))
    (ho : w8.ownsRow W.heap.size 55 1 (.slice Ao' (n + 1) c2) (n + 1) (olds ++ [.slice Ay Y.length cy]))
    (hy : Own w8 W.heap.size 2 (.slice Ay Y.length cy) Y) (hY : ty c (dP c toks) (dX c t toks.length) = Y)
    (hm : MemG (FU F (Bt W.heap.size w8.heap.size)) w8 q' c.layers (dP c (toks ++ [t]))) :
    StG (FU F (Bt W.heap.size (w8.heap.size + 1))) (w8.alloc (.cells #[.pointer (some ⟨p, 0, none⟩), .slice At' (n + 1) c1, .slice Ao' (n + 1) c2, .pointer (some ⟨q', 0, none⟩)] 66)) w8.heap.size p c (toks ++ [t]) := by
  subst hn
  have hl1 : (toks ++ [t]).length = toks.length + 1 := by rw [List.length_append]; rfl
  have h := stF_new (p := p) hF hold hb hlen (by rw [hl1]; exact ht) ho hy hY hm
  rw [hl1] at h
  exact h

end Go.Proofs.YtdfgmdmcdnnhfaaGreat
