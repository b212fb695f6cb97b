/- A fair queue told by its flows alone. -/
import Derived.Test.YtcelhendfjiicaaFqQ
namespace Go.Proofs.Ytcelhendfjiicaa
open Go.RowKit Go.Shelf Go.Proofs.YtcelhendfjiicaaW.PrintWords Go.Proofs.YtcelhendfjiicaaW.PrintLast Go.Proofs.YtcelhendfjiicaaW.PrintMore
set_option linter.unusedVariables false
set_option linter.unusedSimpArgs false
set_option maxRecDepth 100000
attribute [local go_sem] gb_max2 gb_min2 gb_max_two gb_min_two gb_max_three gb_min_three
def totF (l : List Fl) : Nat := (l.map (fun f => f.2.2.length)).sum
def ofE (l : List Fl) (n : Int) : Nat := match mlook l n with | none => 0 | some f => f.2.length
def QV (W : World) (base : Nat) (F : Nat → Prop) (p : Nat) (room quant : Int) (b : Bool) (l : List Fl) (wt : WtV) : Prop := ∃ L, L.map FlV.er = l ∧ FqV W base F p room quant b L wt
section
variable {W W' w1 : World} {base : Nat} {F F' : Nat → Prop} {p : Nat} {room quant : Int} {b : Bool} {l : List Fl} {wt : WtV}
theorem tot_er (L : List FlV) : totF (L.map FlV.er) = (L.map (fun f => f.xs.length)).sum := by unfold totF; rw [List.map_map]; rfl
theorem of_er (L : List FlV) (n : Int) : ofE (L.map FlV.er) n = ofF L n := by
  unfold ofE ofF
  rw [er_look]
  cases mlook (keyed L) n <;> rfl
theorem QV.move (h : QV W base F p room quant b l wt) (hs : W.heap.size ≤ W'.heap.size) (hm : ∀ k, F k → W'.heap[k]? = W.heap[k]?) : QV W' base F p room quant b l wt := by
  obtain ⟨L, e, mf, mw, rv, M, h⟩ := h
  exact ⟨L, e, mf, mw, rv, M, h.move hs hm⟩
theorem QV.flt (h : QV W base F p room quant b l wt) : ∀ k, F k → base ≤ k ∧ k < W.heap.size := by
  obtain ⟨L, e, mf, mw, rv, M, h⟩ := h
  exact h.flt
theorem QV.fp (h : QV W base F p room quant b l wt) : F p := by
  obtain ⟨L, e, mf, mw, rv, M, h⟩ := h
  exact h.fp
theorem QV.below (h : QV W base F p room quant b l wt) (hb : Below W.heap.size W W') : QV W' base F p room quant b l wt := h.move hb.size (fun k hk => hb.block k (h.flt k hk).2)
theorem QV.keep {G : Nat → Prop} (h : QV W base F p room quant b l wt) (hT : Tn G W W') (hd : ∀ k, F k → ¬ G k) : QV W' base F p room quant b l wt := h.move hT.size (fun k hk => hT.block k (h.flt k hk).2 (hd k hk))
/-- What a call leaves: the queue, and which blocks may have turned. -/
def QR (W : World) (base : Nat) (F : Nat → Prop) (p : Nat) (room quant : Int) (b : Bool) (l : List Fl) (wt : WtV) (w' : World) : Prop :=
  ∃ F', QV w' base F' p room quant b l wt ∧ (∀ k, F' k → F k ∨ W.heap.size ≤ k) ∧ Tn F W w'
theorem qlen_any (h : QV W base F p room quant b l wt) (m : Nat) (hm : totF l = m) : Calls Try.prog 28 #[.pointer (some ⟨p, 0, none⟩)] W fun e w' => e = .returned (.int .i64 m) ∧ W = w' := by
  obtain ⟨L, rfl, mf, mw, rv, M, h⟩ := h
  rw [tot_er] at hm
  rw [hm] at h
  exact fqlen_in h
theorem qof_any (h : QV W base F p room quant b l wt) (n : Int) (m : Nat) (hm : ofE l n = m) : Calls Try.prog 19 #[.pointer (some ⟨p, 0, none⟩), .int .u64 n] W fun e w' => e = .returned (.int .i64 m) ∧ W = w' := by
  obtain ⟨L, rfl, mf, mw, rv, M, h⟩ := h
  rw [of_er] at hm
  exact fqof_in h n m hm
theorem qflows_any (h : QV W base F p room quant b l wt) (hl : l.length ≤ 1000000) (m : Nat) (hm : l.length = m) : Calls Try.prog 29 #[.pointer (some ⟨p, 0, none⟩)] W fun e w' => ∃ A c, e = .returned (.slice A m c) ∧ Below W.heap.size W w' := by
  obtain ⟨L, rfl, h⟩ := h
  subst hm
  rw [List.length_map] at *
  exact fqflows_in h hl
theorem qweight_ok (h : QV W base F p room quant b l wt) (n x : Int) (hk : WtOk wt n x) : Calls Try.prog 17 #[.pointer (some ⟨p, 0, none⟩), .int .u64 n, .int .i64 x] W fun e w' => e = .returned (.int .i64 0) ∧ QV w' base F p room quant b l (mput wt n x) ∧ Tn F W w' := by
  obtain ⟨L, rfl, h⟩ := h
  refine (fqweight_ok h n x hk).mono ?_
  rintro e w' ⟨rfl, h1, h2⟩
  exact ⟨rfl, ⟨L, rfl, h1⟩, h2⟩
theorem qweight_bad (h : QV W base F p room quant b l wt) (n x : Int) (hk : ¬ WtOk wt n x) : Calls Try.prog 17 #[.pointer (some ⟨p, 0, none⟩), .int .u64 n, .int .i64 x] W fun e w' => e = .returned (.int .i64 1) ∧ W = w' := by
  obtain ⟨L, rfl, h⟩ := h
  exact fqweight_bad h n x hk
theorem qpush_ok (h : QV W base F p room quant b l wt) (x : ItemV) (h1 : 1 ≤ x.2.1) (h2 : x.2.1 ≤ 1048576) (hf : (totF l : Int) ≠ room) (hm9 : totF l ≤ 1000000) (hl9 : l.length ≤ 1000000) : Calls Try.prog 18 #[.pointer (some ⟨p, 0, none⟩), .agg #[.int .u64 x.1, .int .i64 x.2.1, .int .u64 x.2.2]] W fun e w' => e = .returned (.int .i64 0) ∧ QR W base F p room quant b (pushE l x) wt w' := by
  obtain ⟨L, rfl, h⟩ := h
  rw [tot_er] at hf hm9
  rw [List.length_map] at hl9
  refine (fqpush_ok h x h1 h2 hf hm9 hl9).mono ?_
  rintro e w' ⟨rfl, L', F', e1, h3, h4, h5⟩
  exact ⟨rfl, F', ⟨L', e1, h3⟩, h4, h5⟩
theorem qpush_bad (h : QV W base F p room quant b l wt) (x : ItemV) (hx : x.2.1 < 1 ∨ 1048576 < x.2.1) : Calls Try.prog 18 #[.pointer (some ⟨p, 0, none⟩), .agg #[.int .u64 x.1, .int .i64 x.2.1, .int .u64 x.2.2]] W fun e w' => e = .returned (.int .i64 1) ∧ Below W.heap.size W w' := by
  obtain ⟨L, rfl, h⟩ := h
  exact fqpush_bad h x hx
theorem qpop_none (h : QV W base F p room quant b [] wt) : Calls Try.prog 20 #[.pointer (some ⟨p, 0, none⟩)] W fun e w' => e = .returned (.tuple #[.agg #[.int .u64 0, .int .i64 0, .int .u64 0], .int .i64 6]) ∧ Below W.heap.size W w' := by
  obtain ⟨L, e, h⟩ := h
  have : L = [] := by simpa using e
  subst this
  exact fqpop_none h
theorem qpop_ok (h : QV W base F p room quant b l wt) (hw : WtJ wt) (h1 : 1 ≤ quant) (h2 : quant ≤ 1048576) (hj : FqJ b l) (hl9 : l.length ≤ 10000) (hm9 : totF l ≤ 1000000) (y : ItemV × Bool × List Fl) (hy : popRun wt quant (l.length + l.length) 0 b l = some y) :
    Calls Try.prog 20 #[.pointer (some ⟨p, 0, none⟩)] W fun e w' => e = popAns y.1 ∧ QR W base F p room quant y.2.1 y.2.2 wt w' := by
  obtain ⟨L, rfl, h⟩ := h
  rw [tot_er] at hm9
  rw [List.length_map] at hl9 hy
  refine (fqpop_ok h hw h1 h2 hj hl9 hm9 y hy).mono ?_
  rintro e w' ⟨rfl, L', F', e1, h3, h4, h5⟩
  exact ⟨rfl, F', ⟨L', e1, h3⟩, h4, h5⟩
def QNew (W : World) (base : Nat) (room quant : Int) (e : Ending) (w' : World) : Prop := ∃ p F, e = .returned (.tuple #[.pointer (some ⟨p, 0, none⟩), .int .i64 0]) ∧ QV w' base F p room quant false [] [] ∧ (∀ k, F k → W.heap.size ≤ k) ∧ Below W.heap.size W w'
theorem qnew_any (W : World) (base : Nat) (hb : base ≤ W.heap.size) (room quant : Int) (h1 : 1 ≤ room) (h2 : room ≤ 4096) (h3 : 1 ≤ quant) (h4 : quant ≤ 1048576) : Calls Try.prog 16 #[.int .i64 room, .int .i64 quant] W (QNew W base room quant) := by
  refine (fqnew_any W base hb room quant h1 h2 h3 h4).mono ?_
  rintro e w' ⟨p, F, rfl, h5, h6, h7⟩
  exact ⟨p, F, rfl, ⟨[], rfl, h5⟩, h6, h7⟩
end
/-- The flows of alive, push by push. -/
def alvL : Nat → List Fl
  | 0 => []
  | 1 => [(0, 0, [(0, 1, 0)])]
  | 2 => [(0, 0, [(0, 1, 0), (0, 1, 1)])]
  | 3 => [(0, 0, [(0, 1, 0), (0, 1, 1)]), (1, 0, [(1, 1, 2)])]
  | _ => [(0, 0, [(0, 1, 0), (0, 1, 1)]), (1, 0, [(1, 1, 2), (1, 1, 3)])]
theorem alv_push (i : Nat) (hi : i < 4) : pushE (alvL i) (((i / 2 : Nat) : Int), 1, (i : Int)) = alvL (i + 1) := by
  have : i = 0 ∨ i = 1 ∨ i = 2 ∨ i = 3 := by omega
  rcases this with rfl | rfl | rfl | rfl <;> decide
end Go.Proofs.Ytcelhendfjiicaa
