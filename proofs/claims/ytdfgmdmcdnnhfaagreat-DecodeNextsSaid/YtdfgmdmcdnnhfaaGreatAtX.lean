/- Small helpers of the law 10; law 10's alive, and what Through makes, plainly; attn.Through from an empty memory; The document's Through. -/
import Derived.Test.YtdfgmdmcdnnhfaaGreatAtT
import Derived.Test.YtdfgmdmcdnnhfaaGreatMoS
import Derived.Test.YtdfgmdmcdnnhfaaGreatAtU
import Derived.Test.YtdfgmdmcdnnhfaaGreatMoN
namespace Go.Proofs.YtdfgmdmcdnnhfaaGreat
open Go.RowKit Go.Shelf Go.Proofs.YtdfgmdmcdnnhfaaGreatW.PrintWords Go.Proofs.YtdfgmdmcdnnhfaaGreatW.PrintLast Go.Proofs.YtdfgmdmcdnnhfaaGreatW.PrintMore
set_option linter.unusedVariables false
set_option linter.unusedSimpArgs false
set_option maxRecDepth 100000

/-- A slice of tables is read. -/
abbrev Tabs (w : World) (A : Option Addr) (ts : List (List (List Int))) : Prop := KTab.C w A ts.length ts
theorem tabs_at {w : World} {A : Option Addr} {ts : List (List (List Int))} (h : Tabs w A ts) (k : Nat) (hk : k < ts.length) :
    ∃ (ad : Addr) (A' : Option Addr) (c' : Nat), A = some ad ∧ w.cell? (ad.add k) = some (.slice A' (ts.getD k []).length c') ∧ (ts.getD k []).length ≤ c' ∧ Rows_ w A' (ts.getD k []) := by
  obtain ⟨ad, c, e, hl, hK, hcell⟩ := Kd.C_get h [] (k : Int) (by omega) (by omega)
  obtain ⟨A', c', rfl, h1, h2⟩ := hK
  refine ⟨ad, A', c', e, ?_, by simpa using h1, by have h3 : Rows_ w A' (ts.getD (k : Int).toNat []) := h2; rwa [Int.toNat_natCast] at h3⟩
  have := hcell 0 _ rfl
  simpa [show KTab.sz = 1 from rfl] using this
def NearTabs (ts : List (List (List Int))) : Prop := ∀ t ∈ ts, t.length ≤ 30 ∧ ∀ r ∈ t, r.length ≤ 40
theorem near_take {ts : List (List (List Int))} {i : Nat} (h : NearTabs (ts.take i)) (hi : i < ts.length) (h1 : (ts.getD i []).length ≤ 30) (h2 : ∀ r ∈ (ts.getD i []).take (ts.getD i []).length, r.length ≤ 40) : NearTabs (ts.take (i + 1)) := by
  intro t ht
  rw [List.take_succ_eq_append_getElem hi] at ht
  rcases List.mem_append.1 ht with ht | ht
  · exact h t ht
  · obtain rfl : t = ts[i] := by simpa using ht
    rw [List.getD_eq_getElem?_getD, List.getElem?_eq_getElem hi, List.take_length] at *
    exact ⟨h1, h2⟩
theorem near_row {t : List (List Int)} {j : Nat} (h : ∀ r ∈ t.take j, r.length ≤ 40) (hj : j < t.length) (h1 : (t.getD j []).length ≤ 40) : ∀ r ∈ t.take (j + 1), r.length ≤ 40 := by
  intro r hr
  rw [List.take_succ_eq_append_getElem hj] at hr
  rcases List.mem_append.1 hr with hr | hr
  · exact h r hr
  · obtain rfl : r = t[j] := by simpa using hr
    rwa [List.getD_eq_getElem?_getD, List.getElem?_eq_getElem hj] at h1

/-- Literals of two tables, of one. -/
theorem tabs2 (W : World) (e : TypeId) (A B : Option Addr) (c d : Nat) (xs ys : List (List Int)) (hx : Rows_ W A xs) (hy : Rows_ W B ys) (hc : xs.length ≤ c) (hd : ys.length ≤ d) :
    Tabs (W.alloc (.cells #[.slice A xs.length c, .slice B ys.length d] e)) (some ⟨W.heap.size, 0, none⟩) [xs, ys] := by
  have hb : Below W.heap.size W (W.alloc (.cells #[.slice A xs.length c, .slice B ys.length d] e)) := (Below.refl _ W).alloc (Nat.le_refl _) _
  refine ⟨rfl, by simp, fun _ => ⟨_, rfl, fun j p hj => ?_⟩⟩
  have h1 := heap_alloc_new W (.cells #[.slice A xs.length c, .slice B ys.length d] e)
  match j, hj with
  | 0, hj =>
    obtain rfl : xs = p := by simpa using hj
    refine ⟨[.slice A xs.length c], rfl, ⟨A, c, rfl, hc, hx.below hb⟩, fun i u hu => ?_⟩
    rw [show KTab.sz = 1 from rfl, add_plain, blk_cell h1]
    cases i with
    | zero => simpa using hu
    | succ i => simp at hu
  | 1, hj =>
    obtain rfl : ys = p := by simpa using hj
    refine ⟨[.slice B ys.length d], rfl, ⟨B, d, rfl, hd, hy.below hb⟩, fun i u hu => ?_⟩
    rw [show KTab.sz = 1 from rfl, add_plain, blk_cell h1]
    cases i with
    | zero => simpa using hu
    | succ i => simp at hu
  | j + 2, hj => simp at hj
theorem tabs1 (W : World) (e : TypeId) (A : Option Addr) (c : Nat) (xs : List (List Int)) (hx : Rows_ W A xs) (hc : xs.length ≤ c) :
    Tabs (W.alloc (.cells #[.slice A xs.length c] e)) (some ⟨W.heap.size, 0, none⟩) [xs] := by
  have hb : Below W.heap.size W (W.alloc (.cells #[.slice A xs.length c] e)) := (Below.refl _ W).alloc (Nat.le_refl _) _
  refine ⟨rfl, by simp, fun _ => ⟨_, rfl, fun j p hj => ?_⟩⟩
  have h1 := heap_alloc_new W (.cells #[.slice A xs.length c] e)
  match j, hj with
  | 0, hj =>
    obtain rfl : xs = p := by simpa using hj
    refine ⟨[.slice A xs.length c], rfl, ⟨A, c, rfl, hc, hx.below hb⟩, fun i u hu => ?_⟩
    rw [show KTab.sz = 1 from rfl, add_plain, blk_cell h1]
    cases i with
    | zero => simpa using hu
    | succ i => simp at hu
  | j + 1, hj => simp at hj
theorem near_short {t : List (List Int)} (h : ∀ r ∈ t, r.length ≤ 40) : Short t := by
  intro j
  rw [List.getD_eq_getElem?_getD]
  rcases Nat.lt_or_ge j t.length with hj | hj
  · rw [List.getElem?_eq_getElem hj]; exact Nat.le_trans (h _ (List.getElem_mem hj)) (by omega)
  · rw [List.getElem?_eq_none hj]; simp
def FarR (n : Nat) (ts : List (List (List Int))) (W : World) (e : Ending) (w' : World) : Prop := ∃ b, e = .returned (.bool b) ∧ (b = false → n ≤ 40 ∧ NearTabs ts) ∧ Drawn0 W w'
end Go.Proofs.YtdfgmdmcdnnhfaaGreat

namespace Go.Proofs.YtdfgmdmcdnnhfaaGreat
open Go.RowKit Go.Shelf Go.Proofs.YtdfgmdmcdnnhfaaGreatW.PrintWords Go.Proofs.YtdfgmdmcdnnhfaaGreatW.PrintLast Go.Proofs.YtdfgmdmcdnnhfaaGreatW.PrintMore
set_option linter.unusedVariables false
set_option linter.unusedSimpArgs false
set_option maxRecDepth 100000

theorem vadd_len' (xs ys : List Int) : (vadd xs ys).length = min xs.length ys.length := by unfold vadd; rw [tab_len]
theorem aX_dim (c : Cfg) (l : Int) (hl : c.in_ l) (x : List Int) (ks vs : List (List Int)) (hx : x.length = c.dim.toNat) : (aX c l x ks vs).length = c.dim.toNat := by
  unfold aX aH
  rw [vadd_len', vadd_len', vmul_len, vmul_len, mrows_in c l 3 hl (by omega) (by omega), mrows_in c l 5 hl (by omega) (by omega), hx]; omega
theorem aThru_dim (c : Cfg) (P : List Pl) (x : List Int) (hx : x.length = c.dim.toNat) (n : Nat) (hn : n ≤ c.layers.toNat) : (aThru c P x n).1.length = c.dim.toNat := by
  induction n with
  | zero => exact hx
  | succ n ih => exact aX_dim c n ⟨by omega, by omega⟩ _ _ _ (ih (by omega))
theorem mtok_dim (c : Cfg) (t : Int) (h0 : 0 ≤ t) (h1 : t < c.vocab) : (mtok c t).length = c.dim.toNat := by
  unfold mtok; rw [if_pos ⟨h0, h1⟩, mrow_len]
theorem aThru_short (c : Cfg) (hok : c.ok) (P : List Pl) (x : List Int) (n : Nat) : Short (aThru c P x n).2.1 ∧ Short (aThru c P x n).2.2 := by
  have key : ∀ (xss : List (List Int)) (y : List Int), Short xss → y.length ≤ 4096 → Short (xss ++ [y]) := fun xss y h hy => by
    have := short_snoc xss xss.length y h hy
    rwa [List.take_length] at this
  induction n with
  | zero => exact ⟨by intro j; show (([] : List (List Int)).getD j []).length ≤ 4096; simp, by intro j; show (([] : List (List Int)).getD j []).length ≤ 4096; simp⟩
  | succ n ih =>
    exact ⟨key _ _ ih.1 (Nat.le_trans (vmul_le c hok _ _ _) (by omega)), key _ _ ih.2 (Nat.le_trans (vmul_le c hok _ _ _) (by omega))⟩
theorem plok_snoc (c : Cfg) (hok : c.ok) (P Q : List Pl) (x : List Int) (h : PlOk c.layers.toNat Q) : PlOk c.layers.toNat (Q ++ [(aThru c P x c.layers.toNat).2]) := by
  intro p hp
  rcases List.mem_append.1 hp with hp | hp
  · exact h p hp
  · obtain rfl : p = (aThru c P x c.layers.toNat).2 := by simpa using hp
    have h1 := aThru_k c P x c.layers.toNat
    have h2 := aThru_short c hok P x c.layers.toNat
    exact ⟨h1.1, h1.2, h2.1, h2.2⟩
theorem plok_nil (L : Nat) : PlOk L [] := fun _ h => absurd h (by simp)

def c10 : Cfg := ⟨5, 4, 2, 2, 1, 0⟩
theorem c10_ok : c10.ok := by unfold Cfg.ok c10; decide
theorem c10_v : c10.v = .agg #[.int .u64 5, .int .i64 4, .int .i64 2, .int .i64 2, .int .i64 1, .int .i64 0] := rfl
end Go.Proofs.YtdfgmdmcdnnhfaaGreat

namespace Go.Proofs.YtdfgmdmcdnnhfaaGreat
open Go.RowKit Go.Shelf Go.Proofs.YtdfgmdmcdnnhfaaGreatW.PrintWords Go.Proofs.YtdfgmdmcdnnhfaaGreatW.PrintLast Go.Proofs.YtdfgmdmcdnnhfaaGreatW.PrintMore
set_option linter.unusedVariables false
set_option linter.unusedSimpArgs false
set_option maxRecDepth 100000
attribute [local go_sem] gb_max2 gb_min2 gb_max_two gb_min_two gb_max_three gb_min_three

def ty (c : Cfg) (P : List Pl) (xs : List Int) : List Int := (aThru c P xs c.layers.toNat).1
def tp (c : Cfg) (P : List Pl) (xs : List Int) : Pl := (aThru c P xs c.layers.toNat).2
theorem ty_le (c : Cfg) (P : List Pl) (xs : List Int) : (ty c P xs).length ≤ xs.length := aThru_le c P xs _
theorem thru_at (W : World) (p : Nat) (c : Cfg) (hok : c.ok) (hMo : Mo W p c) (F : Nat → Prop) (q : Nat) (P : List Pl) (hm : MemG F W q c.layers P) (hP : PlOk c.layers.toNat P) (hlP : P.length ≤ 900) (A : Option Addr) (px : Nat) (xs : List Int) (hx : (Kd.int .i64).C W A xs.length xs) (hcx : xs.length ≤ px) (hnx : xs.length ≤ 4096) :
    Calls Tryz.prog 43 #[.pointer (some ⟨p, 0, none⟩), .pointer (some ⟨q, 0, none⟩), .slice A xs.length px] W (ThruR F (ty c P xs) c.layers (P ++ [tp c P xs]) W) :=
  thru_same W p c hok hMo F q P hm hP hlP A px xs hx hcx hnx
/-- .. blocks aside. -/
def ThruP (X : List Int) (L : Int) (Q : List Pl) (W : World) (e : Ending) (w' : World) : Prop := ∃ A cp q, e = .returned (.tuple #[.slice A X.length cp, .pointer (some ⟨q, 0, none⟩)]) ∧ Own w' W.heap.size 2 (.slice A X.length cp) X ∧ MemP w' q L Q ∧ Below W.heap.size W w'
theorem ThruR.plain {F : Nat → Prop} {X : List Int} {L : Int} {Q : List Pl} {W w' : World} {e : Ending} (h : ThruR F X L Q W e w') : ThruP X L Q W e w' := by
  obtain ⟨A, cp, q, h1, h2, h3, h4⟩ := h
  exact ⟨A, cp, q, h1, h2, h3.mem, h4⟩
theorem thru_none (W : World) (p : Nat) (c : Cfg) (hok : c.ok) (hMo : Mo W p c) (A : Option Addr) (px : Nat) (xs : List Int) (hx : (Kd.int .i64).C W A xs.length xs) (hcx : xs.length ≤ px) (hnx : xs.length ≤ 4096) :
    Calls Tryz.prog 43 #[.pointer (some ⟨p, 0, none⟩), .pointer none, .slice A xs.length px] W (ThruP (ty c [] xs) c.layers [tp c [] xs] W) :=
  (thru_other W p c hok hMo (fun _ => False) (fun _ h => h.elim) [] rfl _ 0 (fun W' _ => alay_nil W') (by have := hok.2.2.1; omega) A px xs hx hcx hnx).mono (fun _ _ h => h.plain)
theorem thru_new (W : World) (p : Nat) (c : Cfg) (hok : c.ok) (hMo : Mo W p c) (q : Nat) (L : Int) (hm : MemP W q L []) (A : Option Addr) (px : Nat) (xs : List Int) (hx : (Kd.int .i64).C W A xs.length xs) (hcx : xs.length ≤ px) (hnx : xs.length ≤ 4096) :
    Calls Tryz.prog 43 #[.pointer (some ⟨p, 0, none⟩), .pointer (some ⟨q, 0, none⟩), .slice A xs.length px] W (ThruP (ty c [] xs) c.layers [tp c [] xs] W) := by
  by_cases h : L = c.layers
  · subst h
    exact (thru_same W p c hok hMo _ q [] (memF_nil hm) (plok_nil _) (by simp) A px xs hx hcx hnx).mono (fun _ _ h => h.plain)
  · exact (thru_other W p c hok hMo (fun _ => False) (fun _ h => h.elim) [] rfl _ L (fun W' hb => alay_any W' q L [] (hm.below hb)) h A px xs hx hcx hnx).mono (fun _ _ h => h.plain)
theorem plok_tp (c : Cfg) (hok : c.ok) (P Q : List Pl) (xs : List Int) (h : PlOk c.layers.toNat Q) : PlOk c.layers.toNat (Q ++ [tp c P xs]) := plok_snoc c hok P Q xs h

/-- What comes of vectors, one behind the other. -/
def aPs (c : Cfg) (l : List (List Int)) : Nat → List Pl
  | 0 => []
  | i + 1 => aPs c l i ++ [tp c (aPs c l i) (l.getD i [])]
def aYs (c : Cfg) (l : List (List Int)) : Nat → List (List Int)
  | 0 => []
  | i + 1 => aYs c l i ++ [ty c (aPs c l i) (l.getD i [])]
theorem aPs_len (c : Cfg) (l : List (List Int)) (i : Nat) : (aPs c l i).length = i := by
  induction i with
  | zero => rfl
  | succ i ih => show (aPs c l i ++ _).length = _; rw [List.length_append, ih]; rfl
theorem aYs_len (c : Cfg) (l : List (List Int)) (i : Nat) : (aYs c l i).length = i := by
  induction i with
  | zero => rfl
  | succ i ih => show (aYs c l i ++ _).length = _; rw [List.length_append, ih]; rfl
theorem aPs_take (c : Cfg) (l : List (List Int)) (n k : Nat) (h : k ≤ n) : (aPs c l n).take k = aPs c l k := by
  induction n with
  | zero => obtain rfl : k = 0 := by omega
            rfl
  | succ n ih =>
    rcases Nat.lt_or_ge n k with h1 | h1
    · obtain rfl : k = n + 1 := by omega
      exact List.take_of_length_le (by rw [aPs_len]; omega)
    · show (aPs c l n ++ _).take k = _
      rw [List.take_append_of_le_length (by rw [aPs_len]; omega), ih h1]
theorem aYs_get (c : Cfg) (l : List (List Int)) (n i : Nat) (h : i < n) : (aYs c l n).getD i [] = ty c (aPs c l i) (l.getD i []) := by
  induction n with
  | zero => omega
  | succ n ih =>
    show (aYs c l n ++ [ty c (aPs c l n) (l.getD n [])]).getD i [] = _
    rw [List.getD_eq_getElem?_getD]
    rcases Nat.lt_or_ge i n with h1 | h1
    · rw [List.getElem?_append_left (by rw [aYs_len]; exact h1), ← List.getD_eq_getElem?_getD, ih h1]
    · obtain rfl : i = n := by omega
      rw [List.getElem?_append_right (by rw [aYs_len]; omega), aYs_len, Nat.sub_self]; rfl
theorem aPs_ok (c : Cfg) (hok : c.ok) (l : List (List Int)) (i : Nat) : PlOk c.layers.toNat (aPs c l i) := by
  induction i with
  | zero => exact plok_nil _
  | succ i ih => exact plok_tp c hok _ _ _ ih

theorem Reps.take_ {α : Type} {R : α → List Value → Prop} {size : Nat} {ps : List α} {cs : List Value} (h : Reps R size ps cs) (k : Nat) (hk : k ≤ ps.length) : Reps R size (ps.take k) (cs.take (k * size)) := by
  have hle : k * size ≤ ps.length * size := Nat.mul_le_mul_right _ hk
  refine ⟨by rw [List.length_take, List.length_take, h.1, Nat.min_eq_left hle, Nat.min_eq_left hk], fun j p hj => ?_⟩
  rw [List.getElem?_take] at hj
  split at hj
  · rename_i hjk
    have h1 := h.2 j p hj
    have h2 : j * size + size ≤ k * size := by rw [← Nat.succ_mul]; exact Nat.mul_le_mul_right _ hjk
    rw [List.drop_take, List.take_take, Nat.min_eq_left (by omega)]
    exact h1
  · cases hj
/-- Cut, told by blocks. -/
def CutG (F : Nat → Prop) (L : Int) (P : List Pl) (W : World) (e : Ending) (w' : World) : Prop := ∃ q, e = .returned (.pointer (some ⟨q, 0, none⟩)) ∧ MemG (FU F (Bt W.heap.size w'.heap.size)) w' q L P ∧ Below W.heap.size W w'
end Go.Proofs.YtdfgmdmcdnnhfaaGreat

namespace Go.Proofs.YtdfgmdmcdnnhfaaGreat
open Go.RowKit Go.Shelf Go.Proofs.YtdfgmdmcdnnhfaaGreatW.PrintWords Go.Proofs.YtdfgmdmcdnnhfaaGreatW.PrintLast Go.Proofs.YtdfgmdmcdnnhfaaGreatW.PrintMore
set_option linter.unusedVariables false
set_option linter.unusedSimpArgs false
set_option maxRecDepth 100000

theorem row_neT (t : Nat) (h1 : 55 ≠ t) (h2 : 2 ≠ t) : ∀ q, q ∈ 55 :: KRow.E → q ≠ t := by
  intro q hq
  have h3 : q = 55 ∨ q = 2 := by simpa [KRow, Kd.slice, Kd.int, Kd.scalar] using hq
  rcases h3 with h3 | h3 <;> subst h3 <;> assumption
theorem int_neT (t : Nat) (h2 : 2 ≠ t) : ∀ q, q ∈ 2 :: (Kd.int .i64).E → q ≠ t := by
  intro q hq
  have h1 : q = 2 := by simpa [Kd.int, Kd.scalar] using hq
  subst h1; exact h2
theorem tw_setT {base g t : Nat} {w : World} {u v : Value} {K V : List (List Int)} {cells : Array Value} (h : TW base w u v K V) (hb : w.heap[g]? = some (.cells cells t (0, 0))) (h1 : 55 ≠ t) (h2 : 2 ≠ t) (i : Nat) (x : Value) : TW base (w.setCell ⟨g, i, none⟩ x) u v K V :=
  ⟨Kd.R_set h.hu hb (row_neT t h1 h2) i x, Kd.R_set h.hv hb (row_neT t h1 h2) i x⟩
def XG (W0 W w : World) (A : Option Addr) (X : List Int) : Prop := (Kd.int .i64).C W0 A X.length X ∨ ∃ c, Own w W.heap.size 2 (.slice A X.length c) X
theorem XG.rd {W0 W w : World} {A : Option Addr} {X : List Int} (h : XG W0 W w A X) (hb : Below W0.heap.size W0 w) : (Kd.int .i64).C w A X.length X := by
  rcases h with h | ⟨c, h⟩
  · exact Kd.C_below h hb
  · exact h.rd.2
theorem XG.below {W0 W w w1 : World} {A : Option Addr} {X : List Int} (h : XG W0 W w A X) (hb : Below w.heap.size w w1) : XG W0 W w1 A X := by
  rcases h with h | ⟨c, h⟩
  · exact .inl h
  · exact .inr ⟨c, h.below hb⟩
theorem XG.fin {W0 W w : World} {A : Option Addr} {X : List Int} {g t : Nat} {cells : Array Value} (h : XG W0 W w A X) (hb : w.heap[g]? = some (.cells cells t (0, 0))) (ht : 2 ≠ t) (i j : Nat) (x y : Value) (hB : Below W0.heap.size W0 ((w.setCell ⟨g, i, none⟩ x).setCell ⟨g, j, none⟩ y)) : (Kd.int .i64).C ((w.setCell ⟨g, i, none⟩ x).setCell ⟨g, j, none⟩ y) A X.length X := by
  rcases h with h | ⟨c, h⟩
  · exact Kd.C_below h hB
  · exact (show Own _ W.heap.size 2 (.slice A X.length c) X from Kd.R_set (Kd.R_set h hb (int_neT _ ht) i x) (blk_set hb i x) (int_neT _ ht) j y).rd.2
theorem TW.lower {base base' : Nat} {w : World} {u v : Value} {K V : List (List Int)} (h : TW base w u v K V) (hb : base' ≤ base) : TW base' w u v K V := ⟨Kd.R_lower h.hu hb, Kd.R_lower h.hv hb⟩
/-- Between the rounds. -/
structure LQ (W0 W : World) (A : Option Addr) (b : Nat) (X : List Int) (K V : List (List Int)) (u v : Value) (w : World) : Prop where
  x : XG W0 W w A X
  md : w.heap[b]? = some (.cells #[u, v] 72 (0, 0))
  tw : TW W.heap.size w u v K V
  bel : Below W.heap.size W w
theorem blk_lt {w : World} {b : Nat} {o : Obj} (h : w.heap[b]? = some o) : b < w.heap.size := by
  rcases Nat.lt_or_ge b w.heap.size with h1 | h1
  · exact h1
  · rw [Array.getElem?_eq_none h1] at h; cases h
theorem LQ.below {W0 W : World} {A : Option Addr} {b : Nat} {X : List Int} {K V : List (List Int)} {u v : Value} {w w1 : World} (h : LQ W0 W A b X K V u v w) (hb : Below w.heap.size w w1) : LQ W0 W A b X K V u v w1 :=
  ⟨h.x.below hb, blk_below h.md hb, h.tw.below hb, below_then h.bel h.bel.size hb⟩
/-- Within a round, behind Step. -/
structure LTr (W : World) (u v u0 v0 : Value) (b m : Nat) (K V : List (List Int)) (AX : Option Addr) (cX : Nat) (X' : List Int) (kv : Value) (K' : List Int) (vv : Value) (V' : List Int) (w : World) : Prop where
  tw : TW W.heap.size w u v K V
  bel : Below W.heap.size W w
  md : w.heap[b]? = some (.cells #[u0, v0] 72 (0, 0))
  bm : w.heap[m]? = some (.cells #[.slice AX X'.length cX, kv, vv] 94 (0, 0))
  oy : Own w W.heap.size 2 (.slice AX X'.length cX) X'
  nk : NewRow W.heap.size w K' [kv]
  nv : NewRow W.heap.size w V' [vv]
section
variable {W : World} {u v u0 v0 : Value} {b m : Nat} {K V : List (List Int)} {AX : Option Addr} {cX : Nat} {X' : List Int} {kv vv : Value} {K' V' : List Int} {w w1 : World}
theorem LTr.neb (h : LTr W u v u0 v0 b m K V AX cX X' kv K' vv V' w) : some b ≠ u.ownBlock ∧ some b ≠ v.ownBlock := by
  constructor
  · intro he
    obtain ⟨cells', hc'⟩ := tw_typu h.tw b he.symm
    rw [h.md] at hc'; simp at hc'
  · intro he
    obtain ⟨cells', hc'⟩ := tw_typv h.tw b he.symm
    rw [h.md] at hc'; simp at hc'
theorem LTr.nem (h : LTr W u v u0 v0 b m K V AX cX X' kv K' vv V' w) : some m ≠ u.ownBlock ∧ some m ≠ v.ownBlock := by
  constructor
  · intro he
    obtain ⟨cells', hc'⟩ := tw_typu h.tw m he.symm
    rw [h.bm] at hc'; simp at hc'
  · intro he
    obtain ⟨cells', hc'⟩ := tw_typv h.tw m he.symm
    rw [h.bm] at hc'; simp at hc'
theorem LTr.put_u {u1 : Value} {K1 : List (List Int)} (h : LTr W u v u0 v0 b m K V AX cX X' kv K' vv V' w) (h1 : KRow.R 55 w1 W.heap.size (fun k => some k ≠ v.ownBlock) u1 K1) (hb : Below W.heap.size W w1) (hg : w.grownBy w1 u.ownBlock) (hat : u1.ownBlock = u.ownBlock ∨ ∃ b, u1.ownBlock = some b ∧ w.heap.size ≤ b) : LTr W u1 v u0 v0 b m K1 V AX cX X' kv K' vv V' w1 :=
  ⟨TW.put_u h.tw h1 hg hat, hb, (hg.block b (blk_lt h.md) h.neb.1).trans h.md, (hg.block m (blk_lt h.bm) h.nem.1).trans h.bm, Kd.R_over' h.oy (tw_typu h.tw) int_ne hg, NewRow.grown h.nk hg (fun k hk => (NewRow.ne h.tw k hk).1), NewRow.grown h.nv hg (fun k hk => (NewRow.ne h.tw k hk).1)⟩
theorem LTr.put_v {v1 : Value} {V1 : List (List Int)} (h : LTr W u v u0 v0 b m K V AX cX X' kv K' vv V' w) (h1 : KRow.R 55 w1 W.heap.size (fun k => some k ≠ u.ownBlock) v1 V1) (hb : Below W.heap.size W w1) (hg : w.grownBy w1 v.ownBlock) (hat : v1.ownBlock = v.ownBlock ∨ ∃ b, v1.ownBlock = some b ∧ w.heap.size ≤ b) : LTr W u v1 u0 v0 b m K V1 AX cX X' kv K' vv V' w1 :=
  ⟨TW.put_v h.tw h1 hg hat, hb, (hg.block b (blk_lt h.md) h.neb.2).trans h.md, (hg.block m (blk_lt h.bm) h.nem.2).trans h.bm, Kd.R_over' h.oy (tw_typv h.tw) int_ne hg, NewRow.grown h.nk hg (fun k hk => (NewRow.ne h.tw k hk).2), NewRow.grown h.nv hg (fun k hk => (NewRow.ne h.tw k hk).2)⟩
theorem newrow_set {base g t : Nat} {x : List Int} {cs : List Value} {cells : Array Value} (h : NewRow base w x cs) (hb : w.heap[g]? = some (.cells cells t (0, 0))) (h2 : 2 ≠ t) (i : Nat) (z : Value) : NewRow base (w.setCell ⟨g, i, none⟩ z) x cs :=
  h.move (by simp [World.setCell]) (fun k hk => Below.heap_setCell w ⟨g, i, none⟩ z k (by
    rintro rfl
    obtain ⟨-, -, c', hc⟩ := hk
    rw [hb] at hc
    injection hc with hc
    injection hc with _ hc
    exact h2 hc.symm))
/-- A store into the box. -/
theorem LTr.set (h : LTr W u v u0 v0 b m K V AX cX X' kv K' vv V' w) (hge : W.heap.size ≤ b) (hne : m ≠ b) (i : Nat) (z u2 v2 : Value) (hz : (#[u0, v0] : Array Value).setIfInBounds i z = #[u2, v2]) : LTr W u v u2 v2 b m K V AX cX X' kv K' vv V' (w.setCell ⟨b, i, none⟩ z) :=
  ⟨tw_setT h.tw h.md (by decide) (by decide) i z, h.bel.setCell (p := ⟨b, i, none⟩) hge z, by rw [← hz]; exact blk_set h.md i z, (Below.heap_setCell w ⟨b, i, none⟩ z m hne).trans h.bm, Kd.R_set h.oy h.md (int_neT _ (by decide)) i z, newrow_set h.nk h.md (by decide) i z, newrow_set h.nv h.md (by decide) i z⟩
end
def RThruR (X : List Int) (own : Pl) (W : World) (e : Ending) (w' : World) : Prop := ∃ A cp u v, e = .returned (.tuple #[.slice A X.length cp, .agg #[u, v]]) ∧ X.length ≤ cp ∧ (Kd.int .i64).C w' A X.length X ∧ TW W.heap.size w' u v own.1 own.2 ∧ Below W.heap.size W w' ∧ ∃ c0, Own w' W.heap.size 2 (.slice A X.length c0) X

set_option maxHeartbeats 2000000 in
theorem rthru_any (W : World) (c : Cfg) (hok : c.ok) (P : List Pl) (PA : Option Addr) (pc : Nat) (hPC : KPl.C W PA P.length P) (hpc : P.length ≤ pc) (hP : PlOk c.layers.toNat P) (hlP : P.length ≤ 900) (A : Option Addr) (px : Nat) (xs : List Int) (hx : (Kd.int .i64).C W A xs.length xs) (hcx : xs.length ≤ px) (hnx : xs.length ≤ 4096) :
    Calls Tryz.prog 31 #[c.v, .slice PA P.length pc, .slice A xs.length px] W (RThruR (aThru c P xs c.layers.toNat).1 (aThru c P xs c.layers.toNat).2 W) := by
  obtain ⟨L, hL⟩ : ∃ L : Nat, c.layers = L := ⟨c.layers.toNat, by have := hok.2.2.1; omega⟩
  have hL4 : L ≤ 4 := by have := hok.2.2.1; omega
  have HLY := Lib.hid hL
  have hLL : c.layers.toNat = L := by omega
  have HCV := Lib.hid (show c.v = .agg #[.int .u64 c.seed, .int .i64 c.vocab, .int .i64 c.dim, .int .i64 L, .int .i64 c.top, .int .i64 c.heat] by rw [← hL]; rfl)
  have HOK := Lib.hid hok
  have HPC := Lib.hid hPC
  have HP := Lib.hid hP
  have HX := Lib.hid hx
  rw [hLL] at HP ⊢
  rw [HCV.out]
  obtain ⟨n, hn⟩ : ∃ n, P.length = n := ⟨_, rfl⟩
  have HN := Lib.hid hn
  obtain ⟨nx, hnx'⟩ : ∃ n, xs.length = n := ⟨_, rfl⟩
  have HNX := Lib.hid hnx'
  rw [hn] at hpc hlP
  rw [hnx'] at hcx hnx
  rw [hn, hnx']
  unfold RThruR
  obtain ⟨wm, hwm⟩ : ∃ wm, (W.alloc (.cells #[.int .u64 c.seed, .int .i64 c.vocab, .int .i64 c.dim, .int .i64 L, .int .i64 c.top, .int .i64 c.heat] 24)).alloc (.cells #[.slice none 0 0, .slice none 0 0] 72) = wm := ⟨_, rfl⟩
  obtain ⟨b3, hb3⟩ : ∃ b, W.heap.size = b := ⟨_, rfl⟩
  obtain ⟨b7, hb7⟩ : ∃ b, b3 + 1 = b := ⟨_, rfl⟩
  obtain ⟨b8, hb8⟩ : ∃ b, b7 + 1 = b := ⟨_, rfl⟩
  have hs8 : wm.heap.size = b8 := by rw [← hwm, ← hb8, ← hb7, ← hb3]; simp
  have hBm : Below W.heap.size W wm := by rw [← hwm]; exact below_alloc (below_alloc (Below.refl _ W) _) _
  have hk3 : wm.heap[b3]? = some (.cells #[.int .u64 c.seed, .int .i64 c.vocab, .int .i64 c.dim, .int .i64 L, .int .i64 c.top, .int .i64 c.heat] 24 (0, 0)) := by rw [← hwm, ← hb3]; exact blk_alloc (heap_alloc_new W _) _
  have hk7 : wm.heap[b7]? = some (.cells #[.slice none 0 0, .slice none 0 0] 72 (0, 0)) := by
    have h := heap_alloc_new (W.alloc (.cells #[.int .u64 c.seed, .int .i64 c.vocab, .int .i64 c.dim, .int .i64 L, .int .i64 c.top, .int .i64 c.heat] 24)) (.cells #[.slice none 0 0, .slice none 0 0] 72)
    rw [hwm] at h
    rw [show (W.alloc (.cells #[.int .u64 c.seed, .int .i64 c.vocab, .int .i64 c.dim, .int .i64 L, .int .i64 c.top, .int .i64 c.heat] 24)).heap.size = b7 by rw [← hb7, ← hb3]; simp] at h
    exact h
  have HLQ := Lib.hid (show LQ W wm A b8 (aThru c P xs 0).1 (aThru c P xs 0).2.1 (aThru c P xs 0).2.2 (.slice none 0 0) (.slice none 0 0) (wm.alloc (.cells #[.slice none 0 0, .slice none 0 0] 72)) from
    ⟨.inl hx, by rw [← hs8]; exact heap_alloc_new wm _, TW.nil _ _, below_alloc (Below.refl _ wm) _⟩)
  have HWM := Lib.hid hwm
  have HG3 := Lib.hid hb3
  have HG7 := Lib.hid hb7
  have HG8 := Lib.hid hb8
  have HS8 := Lib.hid hs8
  have HBM := Lib.hid hBm
  have HK3 := Lib.hid hk3
  have HK7 := Lib.hid hk7
  have hz0 : wm.heap.size ≤ b8 := by omega
  clear hok hPC hP hx hL hLL hn hnx' hwm hb3 hb7 hb8 hs8 hBm hk3 hk7
  go_enter Tryz.func31, Tryz.ntmps31
  go_wp2_with fail
  rw [HWM.out, HG3.out, HG7.out, HG8.out]
  go_loopw [2, 9] (fun x s wr => ∃ (i : Nat) (Ax : Option Addr) (cx : Nat) (u v : Value), x = .slice Ax (aThru c P xs i).1.length cx ∧ s = .int .i64 i ∧ i ≤ L ∧ (aThru c P xs i).1.length ≤ cx ∧ Hid (LQ W wm Ax b8 (aThru c P xs i).1 (aThru c P xs i).2.1 (aThru c P xs i).2.2 u v wr) ∧ Hid (1 ≤ i → ∃ c0, Own wr wm.heap.size 2 (.slice Ax (aThru c P xs i).1.length c0) (aThru c P xs i).1)) (fun _ s _ => L - (intOf s).toNat)
  case atStart => exact ⟨0, A, px, _, _, by show Value.slice A nx px = .slice A xs.length px; rw [HNX.out], rfl, by omega, by show xs.length ≤ px; rw [HNX.out]; exact hcx, HLQ, Lib.hid (fun h => absurd h (by omega))⟩
  case round =>
    obtain ⟨i, Ax, cx, u, v, rfl, rfl, hi, hcx2, HL, HOW⟩ := hrel
    have hX4 : (aThru c P xs i).1.length ≤ 4096 := Nat.le_trans (aThru_le c P xs i) (by rw [HNX.out]; exact hnx)
    have hkl := aThru_k c P xs i
    obtain ⟨T, hT⟩ : ∃ T, aThru c P xs i = T := ⟨_, rfl⟩
    have HT := Lib.hid hT
    rw [hT] at hX4 HL hcx2 hkl HOW
    try rw [hT]
    obtain ⟨X, KK, VV⟩ := T
    dsimp only at hX4 HL hcx2 hkl HOW
    try dsimp only
    obtain ⟨hkl1, hkl2⟩ := hkl
    have k3 := blk_cell (HL.out.bel.block b3 (blk_lt HK3.out) ▸ HK3.out) 3
    clear hT
    by_cases hiL : i < L
    · obtain ⟨wo, hwo⟩ : ∃ w, w = wr := ⟨_, rfl⟩
      subst hwo
      have HLr := Lib.hid HL.out
      have HBr := Lib.hid (below_then HBM.out HBM.out.size HL.out.bel)
      go_wp2_with fail
      go_loopw [10, 11, 12] (fun a b s wx => ∃ (j : Nat) (a' b' : Value), a' = a ∧ b' = b ∧ s = .int .i64 j ∧ j ≤ n ∧ Hid (TR W wo.heap.size wx a b (colK (P.take j) i) (colV (P.take j) i)) ∧ Hid (Below wo.heap.size wo wx)) (fun _ _ s _ => n - (intOf s).toNat)
      case atStart => exact ⟨0, _, _, rfl, rfl, rfl, by omega, Lib.hid ⟨Kd.R_nil _ _ _ _ _, Kd.R_nil _ _ _ _ _, fun k hk => by simp [Value.ownBlock] at hk⟩, Lib.hid (Below.refl _ _)⟩
      case round =>
        obtain ⟨j, a, b, rfl, rfl, rfl, hj, HTR, HB⟩ := hrel
        by_cases hjn : j < n
        · obtain ⟨ad, A1, A2, c1, c2, eA, q1, q2, hc1, hc2, hC1, hC2⟩ := pl_at HPC.out j (by rw [HN.out]; exact hjn)
          subst eA
          obtain ⟨hl1, hl2, -, -⟩ := col_len HP.out j (by rw [HN.out]; exact hjn)
          have HK := Lib.hid (colK_take P i j (by rw [HN.out]; exact hjn))
          have HV := Lib.hid (colV_take P i j (by rw [HN.out]; exact hjn))
          have HCIK := Lib.hid (show (colK (P.take j) i).length = j by rw [colK_len, List.length_take, HN.out]; omega)
          have HCIV := Lib.hid (show (colV (P.take j) i).length = j by rw [colV_len, List.length_take, HN.out]; omega)
          obtain ⟨K1, hK1⟩ : ∃ K, (P.getD j ([], [])).1 = K := ⟨_, rfl⟩
          obtain ⟨K2, hK2⟩ : ∃ K, (P.getD j ([], [])).2 = K := ⟨_, rfl⟩
          rw [hK1] at q1 hc1 hl1 hC1 HK
          rw [hK2] at q2 hc2 hl2 hC2 HV
          obtain ⟨d1, B1, e1, ed1, p1, he1, hD1⟩ := hC1.at_ i (by rw [hl1]; exact hiL)
          obtain ⟨d2, B2, e2, ed2, p2, he2, hD2⟩ := hC2.at_ i (by rw [hl2]; exact hiL)
          subst ed1 ed2
          rw [hl1] at q1 hc1
          rw [hl2] at q2 hc2
          obtain ⟨kk, hkk⟩ : ∃ k, K1.getD i [] = k := ⟨_, rfl⟩
          obtain ⟨vv, hvv⟩ : ∃ k, K2.getD i [] = k := ⟨_, rfl⟩
          rw [hkk] at HK p1 he1 hD1
          rw [hvv] at HV p2 he2 hD2
          have HE1 : Hid ((Kd.slice 2 (Kd.int .i64)).K W kk [.slice B1 kk.length e1]) := Lib.hid ⟨B1, e1, rfl, he1, hD1⟩
          have HE2 : Hid ((Kd.slice 2 (Kd.int .i64)).K W vv [.slice B2 vv.length e2]) := Lib.hid ⟨B2, e2, rfl, he2, hD2⟩
          have HWx := Lib.hid (below_then HBr.out HBr.out.size HB.out)
          have q1' := pw_cell_below HWx.out q1
          have p1' := pw_cell_below HWx.out p1
          have HQ2 := Lib.hid (And.intro q2 p2)
          have hsz := HB.out.size
          clear hK1 hK2 hC1 hC2 hkk hvv he1 he2 hD1 hD2 q1 q2 p1 p2
          go_wp2_with (first
            | (at_builtin; refine Kd.R_append (KFix W) (w0 := wo) (W := w5) wo.heap.size rfl _ _ 54 55 (.slice none 0 0) 24 rfl Tryz.underlying54 infoRow rfl Nat.zero_lt_one (by decide) b (colV (P.take j) i) vv [.slice B2 vv.length e2] (fun _ => True) (fun _ => False) (by rfl) (by rfl) HE2.out (fun _ h => h.elim) (fun _ _ => trivial) HTR5.out.hv HB5.out HB5.out.size (by rw [HCIV.out]; omega) ?_; intro v6 w6 hr6 hb6 hg6 hat6; have HTR6 := Lib.hid (TR.put_v HTR5.out hr6 hg6 hat6); have HB6 := Lib.hid hb6; clear hr6 hb6 hg6 hat6)
            | (at_builtin; refine Kd.R_append (KFix W) (w0 := wo) (W := wr) wo.heap.size rfl _ _ 54 55 (.slice none 0 0) 24 rfl Tryz.underlying54 infoRow rfl Nat.zero_lt_one (by decide) a (colK (P.take j) i) kk [.slice B1 kk.length e1] (fun _ => True) (fun _ => False) (by rfl) (by rfl) HE1.out (fun _ h => h.elim) (fun _ _ => trivial) HTR.out.hu HB.out HB.out.size (by rw [HCIK.out]; omega) ?_; intro v5 w5 hr5 hb5 hg5 hat5; have HTR5 := Lib.hid (TR.put_u HTR.out hr5 hg5 hat5); have HB5 := Lib.hid hb5; have q2' := pw_cell_below (below_then HBr.out HBr.out.size hb5) HQ2.out.1; have p2' := pw_cell_below (below_then HBr.out HBr.out.size hb5) HQ2.out.2; clear hr5 hb5 hg5 hat5 q1' p1'))
          go_roundw
          case rel => exact ⟨j + 1, _, _, rfl, rfl, by go_num, by omega, by rw [HK.out, HV.out]; exact HTR6, HB6⟩
          case measure => simp [intOf]; omega
        · have hjn' : j = n := by omega
          subst hjn'
          have hpt : P.take j = P := List.take_of_length_le (by rw [HN.out]; omega)
          rw [hpt] at HTR
          obtain ⟨AK, cK, ek, hck, hCK⟩ := Kd.R_reads HTR.out.hu
          obtain ⟨AV, cV, ev, hcv, hCV⟩ := Kd.R_reads HTR.out.hv
          subst ek ev
          have HWx := Lib.hid (below_then HBr.out HBr.out.size HB.out)
          have HRK := Lib.hid (fix_rows hCK HWx.out)
          have HRV := Lib.hid (fix_rows hCV HWx.out)
          have HLx := Lib.hid (HLr.out.below HB.out)
          have hkp := colK_len P i
          have hvp := colV_len P i
          have hsh := col_short HP.out i
          have HST := Lib.hid (rstep_in wr c HOK.out i Ax AK AV cx cK cV X (colK P i) (colV P i) (HLx.out.x.rd HWx.out) hcx2 hX4 HRK.out hck (by rw [hkp, HN.out]; omega) hsh.1 HRV.out hcv (by rw [hvp, HN.out]; omega) hsh.2)
          have HE := Lib.hid (show aThru c P xs (i + 1) = (aX c i X (colK P i) (colV P i), KK ++ [aK c i X], VV ++ [aV c i X]) by
            show (aX c i (aThru c P xs i).1 (colK P i) (colV P i), (aThru c P xs i).2.1 ++ [aK c i (aThru c P xs i).1], (aThru c P xs i).2.2 ++ [aV c i (aThru c P xs i).1]) = _
            rw [HT.out])
          rw [HCV.out] at HST
          have hxl := aX_le c i X (colK P i) (colV P i)
          obtain ⟨X', hX'⟩ : ∃ Y, aX c i X (colK P i) (colV P i) = Y := ⟨_, rfl⟩
          obtain ⟨K', hK'⟩ : ∃ Y, aK c i X = Y := ⟨_, rfl⟩
          obtain ⟨V', hV'⟩ : ∃ Y, aV c i X = Y := ⟨_, rfl⟩
          rw [hX'] at HST HE hxl
          rw [hK', hV'] at HST HE
          have k3' := blk_cell (HLx.out.bel.block b3 (blk_lt HK3.out) ▸ HK3.out)
          have y0 := k3' 0
          have y1 := k3' 1
          have y2 := k3' 2
          have y3 := k3' 3
          have y4 := k3' 4
          have y5 := k3' 5
          obtain ⟨kn, hkn⟩ : ∃ m, (colK P i).length = m := ⟨_, rfl⟩
          obtain ⟨vn, hvn⟩ : ∃ m, (colV P i).length = m := ⟨_, rfl⟩
          rw [hkn] at HST ⊢
          rw [hvn] at HST ⊢
          unfold RStepR at HST
          clear hpt hCK hCV hck hcv hkp hvp hsh hX' hK' hV' k3' hkn hvn HTR
          go_wp2_with fail
          refine HST.out.mono ?_
          rintro e w2 ⟨Y1, d1, Y2, d2, Y3, d3, rfl, o1, o2, o3, hb⟩
          have HL2 := HLx.out.below hb
          have hm := heap_alloc_new w2 (.cells #[.slice Y1 X'.length d1, .slice Y2 K'.length d2, .slice Y3 V'.length d3] 94)
          have bm := below_alloc (Below.refl w2.heap.size w2) (.cells #[.slice Y1 X'.length d1, .slice Y2 K'.length d2, .slice Y3 V'.length d3] 94)
          have hle := HLx.out.bel.size
          have HLT := Lib.hid (show LTr wm u v u v b8 w2.heap.size KK VV Y1 d1 X' (.slice Y2 K'.length d2) K' (.slice Y3 V'.length d3) V' (w2.alloc (.cells #[.slice Y1 X'.length d1, .slice Y2 K'.length d2, .slice Y3 V'.length d3] 94)) from
            ⟨HL2.tw.below bm, below_then HL2.bel HL2.bel.size bm, blk_below HL2.md bm, hm, (o1.lower hle).below bm, (NewRow.of (o2.lower hle)).below bm, (NewRow.of (o3.lower hle)).below bm⟩)
          have HMB := Lib.hid (show w2.heap.size ≠ b8 by have := blk_lt HL2.md; omega)
          obtain ⟨KE, hKE⟩ : ∃ Q, KK ++ [K'] = Q := ⟨_, rfl⟩
          obtain ⟨VE, hVE⟩ : ∃ Q, VV ++ [V'] = Q := ⟨_, rfl⟩
          have HKE := Lib.hid hKE
          have HVE := Lib.hid hVE
          clear hKE hVE
          have HSZ := Lib.hid (show (w2.alloc (.cells #[.slice Y1 X'.length d1, .slice Y2 K'.length d2, .slice Y3 V'.length d3] 94)).heap.size = w2.heap.size + 1 by simp)
          have t0 := blk_cell HLT.out.md 0
          have t1 := blk_cell HLT.out.bm 0
          have t2 := blk_cell HLT.out.bm 1
          clear HL2 hm bm hle o1 o2 o3 hb HST HLr HLx HRK HRV y0 y1 y2 y3 y4 y5
          go_wp2_with (first
            | (at_builtin; refine Kd.R_append KRow (w0 := wm) (W := w6.setCell ⟨b8, 0, none⟩ (.slice A6 KE.length c6)) wm.heap.size rfl _ _ 54 55 (.slice none 0 0) 24 rfl Tryz.underlying54 infoRow rfl Nat.zero_lt_one (by decide) v VV V' [.slice Y3 V'.length d3] (fun k => some k ≠ (Value.slice A6 KE.length c6).ownBlock) _ (by rfl) (by rw [HS6.out]; rfl) HL7.out.nv (fun k hk => ⟨(NewRow.ne HL7.out.tw k hk).1, (NewRow.ne HL7.out.tw k hk).2⟩) (fun k hk he => absurd (HL7.out.tw.ltu k he.symm) (by omega)) HL7.out.tw.hv HL7.out.bel HL7.out.bel.size (by omega) ?_; intro v8 w8 hr8 hb8 hg8 hat8; rw [HVE.out] at hr8; obtain ⟨A8, c8, hv8, -, -⟩ := Kd.R_reads hr8; subst hv8; have HL8 := Lib.hid (LTr.put_v HL7.out hr8 hb8 hg8 hat8); have HL9 := Lib.hid (HL8.out.set hz0 HMB.out 1 (.slice A8 VE.length c8) (.slice A6 KE.length c6) (.slice A8 VE.length c8) rfl); have s0 := blk_cell HL8.out.md 1; have f0 := blk_frozen HL8.out.md 1; clear hr8 hb8 hg8 hat8 t3 t4)
            | (at_builtin; refine Kd.R_append KRow (w0 := wm) (W := w2.alloc (.cells #[.slice Y1 X'.length d1, .slice Y2 K'.length d2, .slice Y3 V'.length d3] 94)) wm.heap.size rfl _ _ 54 55 (.slice none 0 0) 24 rfl Tryz.underlying54 infoRow rfl Nat.zero_lt_one (by decide) u KK K' [.slice Y2 K'.length d2] (fun k => some k ≠ v.ownBlock) _ (by rfl) (by first | rfl | (rw [HSZ.out]; rfl)) HLT.out.nk (fun k hk => ⟨(NewRow.ne HLT.out.tw k hk).2, (NewRow.ne HLT.out.tw k hk).1⟩) (fun k hk he => absurd (HLT.out.tw.ltv k he.symm) (by omega)) HLT.out.tw.hu HLT.out.bel HLT.out.bel.size (by omega) ?_; intro v6 w6 hr6 hb6 hg6 hat6; rw [HKE.out] at hr6; obtain ⟨A6, c6, hv6, -, -⟩ := Kd.R_reads hr6; subst hv6; have HL6 := Lib.hid (LTr.put_u HLT.out hr6 hb6 hg6 hat6); have HL7 := Lib.hid (HL6.out.set hz0 HMB.out 0 (.slice A6 KE.length c6) (.slice A6 KE.length c6) v rfl); have HS6 := Lib.hid (show (w6.setCell ⟨b8, 0, none⟩ (.slice A6 KE.length c6)).heap.size = w6.heap.size by simp [World.setCell]); have s0 := blk_cell HL6.out.md 0; have f0 := blk_frozen HL6.out.md 0; have t3 := blk_cell HL7.out.md 1; have t4 := blk_cell HL7.out.bm 2; clear hr6 hb6 hg6 hat6 t0 t1 t2))
          go_roundw
          case rel => exact ⟨i + 1, Y1, d1, _, _, by rw [HE.out], by go_num, by omega, by rw [HE.out]; exact HL9.out.oy.rd.1, by rw [HE.out]; show Hid (LQ W wm Y1 b8 X' (KK ++ [K']) (VV ++ [V']) _ _ _); rw [HKE.out, HVE.out]; exact Lib.hid ⟨.inr ⟨d1, HL9.out.oy⟩, HL9.out.md, HL9.out.tw, HL9.out.bel⟩, by rw [HE.out]; exact Lib.hid (fun _ => ⟨d1, HL9.out.oy⟩)⟩
          case measure => simp [intOf]; omega
    · have hin : i = L := by omega
      subst hin
      have HTT := Lib.hid (show (aThru c P xs i).1 = X ∧ (aThru c P xs i).2 = (KK, VV) by rw [HT.out]; exact ⟨rfl, rfl⟩)
      obtain ⟨Au, cu, hu, -, -⟩ := Kd.R_reads HL.out.tw.hu
      obtain ⟨Av, cv, hv, -, -⟩ := Kd.R_reads HL.out.tw.hv
      rw [hkl1] at hu
      rw [hkl2] at hv
      subst hu hv
      have h7 : wr.heap[b7]? = some (.cells #[.slice none 0 0, .slice none 0 0] 72 (0, 0)) := (HL.out.bel.block b7 (blk_lt HK7.out)).trans HK7.out
      have H7 := Lib.hid h7
      have hne : b7 ≠ b8 := by have := HG8.out; omega
      have hle7 : W.heap.size ≤ b7 := by rw [HG3.out]; have := HG7.out; omega
      have m0 := blk_cell HL.out.md 0
      have m1 := blk_cell HL.out.md 1
      have r0 := blk_cell h7 0
      have r1 := blk_cell h7 1
      have g0 := blk_frozen h7 0
      have g1 := blk_frozen h7 1
      have hxg := HL.out.x
      obtain ⟨c0, how⟩ := HOW.out (by have h1 := HOK.out.2.2.1; have h2 := HLY.out; omega)
      have HOX := Lib.hid (show Own ((wr.setCell ⟨b7, 0, none⟩ (.slice Au i cu)).setCell ⟨b7, 1, none⟩ (.slice Av i cv)) wm.heap.size 2 (.slice Ax X.length c0) X from Kd.R_set (Kd.R_set how h7 (int_neT _ (by decide)) 0 (.slice Au i cu)) (blk_set h7 0 (.slice Au i cu)) (int_neT _ (by decide)) 1 (.slice Av i cv))
      have HTW := Lib.hid (tw_setT (tw_setT HL.out.tw h7 (by decide) (by decide) 0 (.slice Au i cu)) (blk_set h7 0 _) (by decide) (by decide) 1 (.slice Av i cv))
      have HBE := Lib.hid (((below_then HBM.out HBM.out.size HL.out.bel).setCell (p := ⟨b7, 0, none⟩) hle7 (.slice Au i cu)).setCell (p := ⟨b7, 1, none⟩) hle7 (.slice Av i cv))
      have HXR := Lib.hid (hxg.fin h7 (by decide) 0 1 (.slice Au i cu) (.slice Av i cv) HBE.out)
      have hcl : X.length ≤ cx := hcx2
      have hwb := HBM.out.size
      clear h7 HL hxg how
      go_wp2_with fail
      go_region
      all_goals
        go_wp2_with fail
        refine bodyPost_ret (results_tc rfl _ _ b7 72 #[.slice Au i cu, .slice Av i cv] (0, 0) _ rfl (blk_set (blk_set H7.out 0 _) 1 _) Tryz.underlying72 rfl (by kernel_rfl)) rfl ?_
        rw [HTT.out.1, HTT.out.2]
        exact ⟨_, _, _, _, rfl, hcl, Kd.C_below HXR.out (below_drew (Below.refl _ _)), (HTW.out.lower hwb).below (below_drew (Below.refl _ _)), below_drew HBE.out, c0, (HOX.out.lower hwb).below (below_drew (Below.refl _ _))⟩

end Go.Proofs.YtdfgmdmcdnnhfaaGreat
