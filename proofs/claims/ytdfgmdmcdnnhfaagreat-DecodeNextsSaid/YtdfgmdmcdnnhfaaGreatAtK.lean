/- Plain functions of the layer attn; Contracts of the layer attn: rows shared, the closure of Step. -/
import Derived.Test.YtdfgmdmcdnnhfaaGreatMoS
import Derived.Test.YtdfgmdmcdnnhfaaGreatGbMx
import Derived.Test.YtdfgmdmcdnnhfaaGreatGbSx
namespace Go.Proofs.YtdfgmdmcdnnhfaaGreat
open Go.RowKit Go.Proofs.YtdfgmdmcdnnhfaaGreatW.PrintWords Go.Proofs.YtdfgmdmcdnnhfaaGreatW.PrintLast Go.Proofs.YtdfgmdmcdnnhfaaGreatW.PrintMore
set_option linter.unusedVariables false
set_option linter.unusedSimpArgs false

def aroot (c : Cfg) : Int := froot (fint c.dim)
def aQ (c : Cfg) (l : Int) (x : List Int) : List Int := vmul (mrows c l 0) (vnorm x)
def aK (c : Cfg) (l : Int) (x : List Int) : List Int := vmul (mrows c l 1) (vnorm x)
def aV (c : Cfg) (l : Int) (x : List Int) : List Int := vmul (mrows c l 2) (vnorm x)
def amk (rt : Int) (q : List Int) (ks : List (List Int)) : List Int := ks.map fun k => fdiv (vdot q k) rt
def aKs (c : Cfg) (l : Int) (x : List Int) (ks vs : List (List Int)) : List (List Int) := ks.take (min ks.length vs.length) ++ [aK c l x]
def aVs (c : Cfg) (l : Int) (x : List Int) (ks vs : List (List Int)) : List (List Int) := vs.take (min ks.length vs.length) ++ [aV c l x]
def aSn (c : Cfg) (l : Int) (x : List Int) (ks vs : List (List Int)) : List Int := vmix (vsoft (amk (aroot c) (aQ c l x) (aKs c l x ks vs))) (aVs c l x ks vs)
def aH (c : Cfg) (l : Int) (x : List Int) (ks vs : List (List Int)) : List Int := vadd x (vmul (mrows c l 3) (aSn c l x ks vs))
def aX (c : Cfg) (l : Int) (x : List Int) (ks vs : List (List Int)) : List Int := vadd (aH c l x ks vs) (vmul (mrows c l 5) (vrelu (vmul (mrows c l 4) (vnorm (aH c l x ks vs)))))
def Cfg.in_ (c : Cfg) (l : Int) : Prop := 0 ≤ l ∧ l < c.layers
instance (c : Cfg) (l : Int) : Decidable (c.in_ l) := by unfold Cfg.in_; infer_instance

theorem mrows_in (c : Cfg) (l k : Int) (hl : c.in_ l) (h0 : 0 ≤ k) (h1 : k ≤ 5) : (mrows c l k).length = c.dim.toNat := by
  unfold mrows; rw [if_pos ⟨hl.1, hl.2, h0, h1⟩, mtab_len]
theorem mrows_out (c : Cfg) (l k : Int) (hl : ¬ c.in_ l) : mrows c l k = [] := by
  unfold mrows; rw [if_neg (fun h => hl ⟨h.1, h.2.1⟩)]
theorem mrows_le (c : Cfg) (hok : c.ok) (l k : Int) : (mrows c l k).length ≤ 16 := by
  have h := mrows_len c l k; have := hok.2.1; omega
theorem mrows_short (c : Cfg) (hok : c.ok) (l k : Int) : Short (mrows c l k) := by
  unfold mrows; split
  · exact short_tab c hok _ _
  · intro j; simp
theorem vnorm_len' (xs : List Int) : (vnorm xs).length = xs.length := by unfold vnorm vmap; rw [tab_len]
theorem vrelu_len (xs : List Int) : (vrelu xs).length = xs.length := by unfold vrelu vmap; rw [tab_len]
theorem vsoft_len' (xs : List Int) : (vsoft xs).length = xs.length := by unfold vsoft; rw [tab_len]
theorem vmul_le (c : Cfg) (hok : c.ok) (l k : Int) (ys : List Int) : (vmul (mrows c l k) ys).length ≤ 16 := by rw [vmul_len]; exact mrows_le c hok l k
theorem short_snoc (xss : List (List Int)) (n : Nat) (y : List Int) (h : Short xss) (hy : y.length ≤ 4096) : Short (xss.take n ++ [y]) := by
  intro j
  rw [List.getD_eq_getElem?_getD]
  rcases Nat.lt_or_ge j (xss.take n).length with hlt | hge
  · rw [List.getElem?_append_left hlt, List.getElem?_take]
    split
    · have := h j; rwa [List.getD_eq_getElem?_getD] at this
    · simp
  · rw [List.getElem?_append_right hge]
    cases hq : j - (xss.take n).length with
    | zero => simpa using hy
    | succ q => simp
theorem vmix_le (ws : List Int) (xss : List (List Int)) (h : Short xss) : (vmix ws xss).length ≤ 4096 := Nat.le_trans (vmix_len ws xss) (h 0)

end Go.Proofs.YtdfgmdmcdnnhfaaGreat

namespace Go.Proofs.YtdfgmdmcdnnhfaaGreat
open Go.RowKit Go.Shelf Go.Proofs.YtdfgmdmcdnnhfaaGreatW.PrintWords Go.Proofs.YtdfgmdmcdnnhfaaGreatW.PrintLast Go.Proofs.YtdfgmdmcdnnhfaaGreatW.PrintMore
set_option linter.unusedVariables false
set_option linter.unusedSimpArgs false
set_option maxRecDepth 100000
attribute [local go_sem] gb_max2 gb_min2 gb_max_two gb_min_two gb_max_three gb_min_three run_cfg1 run_cfg2 run_cfg3

/-- A row is handed back, and read. -/
def RowC (xs : List Int) (w : World) (e : Ending) (w' : World) : Prop := ∃ A c, e = .returned (.slice A xs.length c) ∧ xs.length ≤ c ∧ (Kd.int .i64).C w' A xs.length xs ∧ Below w.heap.size w w'
def TabC (xss : List (List Int)) (w : World) (e : Ending) (w' : World) : Prop := ∃ A c, e = .returned (.slice A xss.length c) ∧ xss.length ≤ c ∧ Rows_ w' A xss ∧ Below w.heap.size w w'
theorem toC {P : Program} {f : FuncId} {args : Array Value} {w : World} {e : Nat} {xs : List Int} (h : Calls P f args w fun en w' => ∃ v, en = .returned v ∧ Own w' w.heap.size e v xs ∧ Below w.heap.size w w') : Calls P f args w (RowC xs w) :=
  h.mono fun en w' ⟨v, h1, h2, h3⟩ => by obtain ⟨A, c, rfl, h4, h5⟩ := h2.reads; exact ⟨A, c, h1, h4, h5, h3⟩
/-- A row is handed back, one's own. -/
def RowO (xs : List Int) (w : World) (e : Ending) (w' : World) : Prop := ∃ A c, e = .returned (.slice A xs.length c) ∧ Own w' w.heap.size 2 (.slice A xs.length c) xs ∧ Below w.heap.size w w'
theorem toO {P : Program} {f : FuncId} {args : Array Value} {w : World} {xs : List Int} (h : Calls P f args w fun en w' => ∃ v, en = .returned v ∧ Own w' w.heap.size 2 v xs ∧ Below w.heap.size w w') : Calls P f args w (RowO xs w) :=
  h.mono fun en w' ⟨v, h1, h2, h3⟩ => by obtain ⟨A, c, rfl, h4, h5⟩ := h2.reads; exact ⟨A, c, h1, h2, h3⟩
theorem Own.rd {w : World} {b e c : Nat} {A : Option Addr} {xs : List Int} (h : Own w b e (.slice A xs.length c) xs) : xs.length ≤ c ∧ (Kd.int .i64).C w A xs.length xs := by
  obtain ⟨-, h2, h3⟩ := Kd.R_reads' h
  exact ⟨h2, h3⟩
theorem toTC {P : Program} {f : FuncId} {args : Array Value} {w : World} {xss : List (List Int)} (h : Calls P f args w (TabO xss w)) : Calls P f args w (TabC xss w) :=
  h.mono fun en w' ⟨v, h1, h2, h3⟩ => by obtain ⟨A, c, rfl, h4, h5⟩ := Kd.R_reads h2; exact ⟨A, c, h1, h4, h5, h3⟩

/-- Rows that are read at wc, whatever happens since. -/
abbrev KFix (wc : World) : Kd (List Int) := Kd.fixed (Kd.slice 2 (Kd.int .i64)) wc
theorem fix_rows {wc w : World} {A : Option Addr} {xss : List (List Int)} (h : (KFix wc).C w A xss.length xss) (hb : Below wc.heap.size wc w) : Rows_ w A xss :=
  Kd.C_read (d := Kd.slice 2 (Kd.int .i64)) (dm := KFix wc) rfl (fun x cs hx => (Kd.slice 2 (Kd.int .i64)).K_below hb hx) h
theorem R_emptyT (W : World) (wc : World) (base : Nat) (hb : base ≤ W.heap.size) : (KFix wc).R 55 (W.alloc (.cells #[] 55)) base (fun _ => True) (.slice (some ⟨W.heap.size, 0, none⟩) 0 0) [] := by
  have h := OwnRow.lit (R := (KFix wc).M (W.alloc (.cells #[] 55)) base (fun k => True ∧ some k ≠ (Value.slice (some ⟨W.heap.size, 0, none⟩) 0 0).ownBlock)) (e := 55) (size := 1) (ps := []) (inner := []) W base (Reps.none _ _) hb (by simp)
  exact ⟨fun _ _ => trivial, h⟩
def CloneF (wc : World) (xss : List (List Int)) (w : World) (e : Ending) (w' : World) : Prop := ∃ A c, e = .returned (.slice A xss.length c) ∧ (KFix wc).R 55 w' w.heap.size (fun _ => True) (.slice A xss.length c) xss ∧ Below w.heap.size w w'
/-- slices.Clone at [][]int64. -/
theorem clone2_any (wc : World) (A : Option Addr) (c : Nat) (xss : List (List Int)) (w : World) (hx : Rows_ wc A xss) (hw : Below wc.heap.size wc w) (hc : xss.length ≤ c) (hn : xss.length ≤ 1000000) :
    Calls Tryz.prog 98 #[.slice A xss.length c] w (CloneF wc xss w) := by
  unfold CloneF
  cases A with
  | none =>
    have h0 : xss = [] := by
      cases xss with
      | nil => rfl
      | cons x l => obtain ⟨a, _, _, h, _⟩ := hx.at_ 0 (by simp); simp at h
    subst h0
    have he := fun W : World => Lib.run_eql_slice_nil (P := Tryz.prog) W 54 55 none 0 c 0 0 Tryz.underlying54
    clear hx hw
    go_enter Tryz.func98, Tryz.ntmps98
    go_wp2_with fail
    go_ret
    exact ⟨_, _, rfl, Kd.R_nil _ _ _ _ _, Below.refl _ _⟩
  | some a =>
    have hb := (Below.refl w.heap.size w).alloc (Nat.le_refl _) (.cells #[] 55)
    have HX := Lib.hid (ReadsRow.imp_ (R' := (KFix wc).K (w.alloc (.cells #[] 55))) hx (below_then hw hw.size hb) (fun _ _ h => h))
    have HO := Lib.hid (R_emptyT w wc w.heap.size (Nat.le_refl _))
    have HB := Lib.hid hb
    clear hx hb hw
    have he := fun W : World => Lib.run_eql_slice_nil (P := Tryz.prog) W 54 55 (some a) xss.length c 0 0 Tryz.underlying54
    go_enter Tryz.func98, Tryz.ntmps98
    go_wp2_with (at_builtin; go_loud (refine Kd.R_append_rows (KFix wc) (Rr := (KFix wc).K (w.alloc (.cells #[] 55))) (w0 := w) w.heap.size rfl _ _ 54 55 (.slice none 0 0) 24 rfl Tryz.underlying54 infoRow rfl Nat.zero_lt_one (by decide) (.slice (some ⟨w.heap.size, 0, none⟩) 0 0) [] xss (some a) xss.length c (fun _ => True) (fun _ => False) (by rfl) (by rfl) HO.out HX.out (fun _ _ h => h) (fun _ h => h.elim) (fun _ _ => trivial) HB.out (by simp) (by simp; omega) ?_); intro v1 w1 hr hb hg hat; obtain ⟨A1, c1, hv1, -, -⟩ := Kd.R_reads hr; rw [List.nil_append] at hv1; subst hv1; have HR := Lib.hid hr; have HB1 := Lib.hid hb; clear hr hb hg hat)
    go_ret
    exact ⟨_, _, rfl, HR.out, HB1.out⟩

/-- A box of one row, read. -/
theorem boxed_row {wc w : World} {A : Option Addr} {c : Nat} {y : List Int} (h : (Kd.slice 2 (Kd.int .i64)).K wc y [.slice A y.length c]) (e : TypeId) :
    ReadsRow ((KFix wc).K wc) 1 (w.alloc (.cells #[.slice A y.length c] e)) (some ⟨w.heap.size, 0, none⟩) 1 [y] := by
  have h2 := heap_alloc_new w (.cells #[.slice A y.length c] e)
  refine ⟨rfl, by simp, fun _ => ⟨_, rfl, fun j p hj => ?_⟩⟩
  match j, hj with
  | 0, hj =>
    obtain rfl : y = p := by simpa using hj
    refine ⟨[.slice A y.length c], rfl, h, fun i u hu => ?_⟩
    rw [add_plain, blk_cell h2]
    cases i with
    | zero => simpa using hu
    | succ i => simp at hu
  | j + 1, hj => simp at hj

/-- The closure of Step: the rows of a layer. -/
theorem rowsc_any (W : World) (p b5 b6 : Nat) (c : Cfg) (hok : c.ok) (h : Mo W p c) (l k : Int) (h5 : W.cell? ⟨b5, 0, none⟩ = some (.pointer (some ⟨p, 0, none⟩))) (h6 : W.cell? ⟨b6, 0, none⟩ = some (.int .i64 l)) :
    Calls Tryz.prog 94 #[.int .i64 k, .pointer (some ⟨b5, 0, none⟩), .pointer (some ⟨b6, 0, none⟩)] W (TabC (mrows c l k) W) := by
  have HC := Lib.hid (toTC (mrows_any W p c hok h l k))
  unfold TabC at HC ⊢
  obtain ⟨T, hT⟩ : ∃ T, mrows c l k = T := ⟨_, rfl⟩
  rw [hT] at HC ⊢
  clear h hok hT
  go_enter Tryz.func94, Tryz.ntmps94
  go_wp2_with fail
  refine HC.out.mono ?_
  rintro e w2 ⟨A2, c2, rfl, hc2, hR2, hb2⟩
  have HR2 := Lib.hid hR2
  have HB2 := Lib.hid hb2
  clear hR2 hb2
  go_wp2_with fail
  go_ret
  exact ⟨A2, c2, rfl, hc2, HR2.out, HB2.out⟩

end Go.Proofs.YtdfgmdmcdnnhfaaGreat
