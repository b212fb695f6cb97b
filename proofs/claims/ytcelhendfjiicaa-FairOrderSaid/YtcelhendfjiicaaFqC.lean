/- A fair queue, as it lies. -/
import Derived.Test.YtcelhendfjiicaaFqB
import Derived.Test.YtcelhendfjiicaaTnA
import Derived.Test.YtcelhendfjiicaaGbB
import Derived.BigQuiet
import Derived.Deep.QuietTactic
import Derived.Deep.RegionLaw
import Derived.Deep.RegionHeld3
import Derived.Deep.LoopGhost
import Derived.Deep.DeepCutAuto
import Derived.Lib.SliceRun
import Derived.Outline
import Derived.WalkSpells
namespace Go.Proofs.Ytcelhendfjiicaa
open Go.RowKit Go.Shelf Go.Proofs.YtcelhendfjiicaaW.PrintWords Go.Proofs.YtcelhendfjiicaaW.PrintLast Go.Proofs.YtcelhendfjiicaaW.PrintMore
set_option linter.unusedVariables false
set_option linter.unusedSimpArgs false
set_option maxRecDepth 100000
theorem results_ct {P : Program} {fn : Func} {p u : Tmp} {ty : TypeId} (h : fn.results = #[.cell p ty, .tmp u]) (tmps : Array Value) (w : World) (g : Nat) (t : TypeId) (cs : Array Value) (fr : Nat × Nat) (d : TypeDesc)
    (hp : tmps.getD p undef = .pointer (some ⟨g, 0, none⟩)) (hg : w.heap[g]? = some (.cells cs t fr))
    (hu : P.underlying ty = some d) (hd : (match d with | .struct _ | .array _ _ => true | _ => false) = true) (hi : (P.info? ty).map (·.size) = some cs.size) :
    (results fn tmps).run P w = .ok (.tuple #[.agg cs, tmps.getD u undef]) w := by
  have hp' : tmps[p]?.getD undef = .pointer (some ⟨g, 0, none⟩) := by simpa using hp
  simp [results, h, hp', asAddr, run_loadVar_row w g t ty cs fr d hg hu hd hi]
/-- A flow as it lies: its number, box, credit, list's value, items. -/
structure FlV where
  n : Int
  b : Nat
  c : Int
  v : Value
  xs : List ItemV
def FlV.put (f : FlV) (v : Value) (xs : List ItemV) : FlV := ⟨f.n, f.b, f.c, v, xs⟩
def FlV.putC (f : FlV) (c : Int) : FlV := ⟨f.n, f.b, c, f.v, f.xs⟩
def FlV.er (f : FlV) : Fl := (f.n, f.c, f.xs)
abbrev KIt : Kd ItemV := Kd.pair (Kd.int .u64) (Kd.pair (Kd.int .i64) (Kd.int .u64))
abbrev KU : Kd Int := Kd.int .u64
def ptrF (f : FlV) : Value := .pointer (some ⟨f.b, 0, none⟩)
def keyed (L : List FlV) : List (Int × FlV) := L.map (fun f => (f.n, f))
def flC (f : FlV) : Array Value := #[.int .i64 f.c, f.v]
def fqC (room quant many : Int) (mf : Nat) (rv : Value) (began : Bool) (mw : Nat) : Array Value := #[.int .i64 room, .int .i64 quant, .int .i64 many, .map (some mf), rv, .bool began, .map (some mw)]
def wtM (wt : WtV) : List (Int × Value) := wt.map (fun e => (e.1, .int .i64 e.2))
structure FlOk (W : World) (base : Nat) (F : Nat → Prop) (f : FlV) : Prop where
  fp : F f.b
  box : W.heap[f.b]? = some (.cells (flC f) 99 (0, 0))
  row : KIt.Q 43 W base F f.v f.xs
/-- The flows and the maps of a queue. -/
structure FqM (W : World) (base : Nat) (F : Nat → Prop) (p mf mw : Nat) (L : List FlV) (M : List (Int × Value)) (wt : WtV) : Prop where
  flt : ∀ k, F k → base ≤ k ∧ k < W.heap.size
  fp : F p
  fmf : F mf
  fmw : F mw
  mp : IsMp (.int .u64) W mf M
  look : ∀ n, mlook M n = (mlook (keyed L) n).map ptrF
  mnd : (mkeys M).Nodup
  wm : IsMp (.int .u64) W mw (wtM wt)
  mne : mf ≠ mw
  fl : ∀ f ∈ L, FlOk W base F f
  nd : (L.map FlV.n).Nodup
  ndb : (L.map FlV.b).Nodup
  own : L.Pairwise (fun f g => ∀ k, f.v.ownBlock = some k → g.v.ownBlock ≠ some k)
structure Fq (W : World) (base : Nat) (F : Nat → Prop) (p mf mw : Nat) (rv : Value) (R : List Int) (room quant : Int) (began : Bool) (L : List FlV) (M : List (Int × Value)) (wt : WtV) (many : Int) : Prop extends FqM W base F p mf mw L M wt where
  box : W.heap[p]? = some (.cells (fqC room quant many mf rv began mw) 89 (0, 0))
  ring : KU.Q 40 W base F rv R
section
variable {W W' : World} {base : Nat} {F F' : Nat → Prop} {p mf mw : Nat} {rv rv' : Value} {R R' : List Int} {room quant many : Int} {began : Bool} {L L' : List FlV} {M M' : List (Int × Value)} {wt : WtV} {f g : FlV}
theorem Q_own {α : Type} {d : Kd α} {e : Nat} {v : Value} {xs : List α} (hE : d.E = []) (h : d.Q e W base F v xs) (hv : ∀ k, v.ownBlock = some k → W'.heap[k]? = W.heap[k]?) : d.Q e W' base F v xs :=
  Kd.Q_mono (Kd.Q_move (Kd.Q_tight hE h) (fun k hk => hv k hk.symm)) (fun k hk => h.1 k hk.symm)
theorem FlOk.move (h : FlOk W base F f) (hb : W'.heap[f.b]? = W.heap[f.b]?) (hv : ∀ k, f.v.ownBlock = some k → W'.heap[k]? = W.heap[k]?) : FlOk W' base F f :=
  ⟨h.fp, hb.trans h.box, Q_own rfl h.row hv⟩
theorem FlOk.wide (h : FlOk W base F f) (hF : ∀ k, F k → F' k) : FlOk W base F' f := ⟨hF _ h.fp, h.box, Kd.Q_mono h.row hF⟩
theorem FlOk.typed (h : FlOk W base F f) (k : Nat) (hk : f.v.ownBlock = some k) : ∃ cells, W.heap[k]? = some (.cells cells 43 (0, 0)) := Kd.Q_typed h.row k hk
theorem keyed_look (L : List FlV) (n : Int) : mlook (keyed L) n = L.find? (fun f => f.n == n) := by
  induction L with
  | nil => rfl
  | cons f r ih =>
    show mlook ((f.n, f) :: keyed r) n = _
    unfold mlook
    by_cases h : f.n = n
    · rw [if_pos h, List.find?_cons_of_pos (by simpa using h)]
    · rw [if_neg h, ih, List.find?_cons_of_neg (by simpa using h)]
theorem keyed_keys (L : List FlV) : mkeys (keyed L) = L.map FlV.n := by unfold mkeys keyed; rw [List.map_map]; rfl
/-- The maps, the flows' boxes and the rows of items read as they did. -/
theorem FqM.step (h : FqM W base F p mf mw L M wt) (hF : ∀ k, F k → F' k) (hl : ∀ k, F' k → base ≤ k ∧ k < W'.heap.size) (hm : ∀ k, F k → (∀ (cs : Array Value) (t : TypeId) (fr : Nat × Nat), W.heap[k]? = some (.cells cs t fr) → t = 99 ∨ t = 43) → W'.heap[k]? = W.heap[k]?) : FqM W' base F' p mf mw L M wt := by
  have hmap : ∀ (k : Nat) (N : List (Int × Value)), F k → IsMp (.int .u64) W k N → IsMp (.int .u64) W' k N := fun k N hk hN => hN.move (hm k hk (fun cs t fr hc => by
    obtain ⟨es, cl, hb, -⟩ := hN
    exact absurd rfl (ne_map hc hb)))
  refine ⟨hl, hF _ h.fp, hF _ h.fmf, hF _ h.fmw, hmap _ _ h.fmf h.mp, h.look, h.mnd, hmap _ _ h.fmw h.wm, h.mne, fun f hf => ?_, h.nd, h.ndb, h.own⟩
  have h1 := h.fl f hf
  refine (h1.move (hm _ h1.fp (fun cs t fr hc => ?_)) (fun k hk => hm k (h1.row.1 k hk) (fun cs t fr hc => ?_))).wide hF
  · rw [h1.box] at hc; injection hc with hc; injection hc with _ hc; exact .inl hc.symm
  · obtain ⟨cells, h2⟩ := h1.typed k hk
    rw [h2] at hc; injection hc with hc; injection hc with _ hc; exact .inr hc.symm
/-- All its blocks read as they did. -/
theorem Fq.move (h : Fq W base F p mf mw rv R room quant began L M wt many) (hs : W.heap.size ≤ W'.heap.size) (hm : ∀ k, F k → W'.heap[k]? = W.heap[k]?) : Fq W' base F p mf mw rv R room quant began L M wt many where
  flt := fun k hk => ⟨(h.flt k hk).1, Nat.lt_of_lt_of_le (h.flt k hk).2 hs⟩
  fp := h.fp
  fmf := h.fmf
  fmw := h.fmw
  box := (hm p h.fp).trans h.box
  ring := Q_own rfl h.ring (fun k hk => hm k (h.ring.1 k hk))
  mp := h.mp.move (hm _ h.fmf)
  look := h.look
  mnd := h.mnd
  wm := h.wm.move (hm _ h.fmw)
  mne := h.mne
  fl := fun f hf => (h.fl f hf).move (hm _ (h.fl f hf).fp) (fun k hk => hm k ((h.fl f hf).row.1 k hk))
  nd := h.nd
  ndb := h.ndb
  own := h.own
theorem Fq.below (h : Fq W base F p mf mw rv R room quant began L M wt many) (hb : Below W.heap.size W W') : Fq W' base F p mf mw rv R room quant began L M wt many := h.move hb.size (fun k hk => hb.block k (h.flt k hk).2)
theorem Fq.keep {G : Nat → Prop} (h : Fq W base F p mf mw rv R room quant began L M wt many) (hT : Tn G W W') (hd : ∀ k, F k → ¬ G k) : Fq W' base F p mf mw rv R room quant began L M wt many := h.move hT.size (fun k hk => hT.block k (h.flt k hk).2 (hd k hk))
theorem Fq.wide (h : Fq W base F p mf mw rv R room quant began L M wt many) (hF : ∀ k, F k → F' k) (hl : ∀ k, F' k → base ≤ k ∧ k < W.heap.size) : Fq W base F' p mf mw rv R room quant began L M wt many where
  flt := hl
  fp := hF _ h.fp
  fmf := hF _ h.fmf
  fmw := hF _ h.fmw
  box := h.box
  ring := Kd.Q_mono h.ring hF
  mp := h.mp
  look := h.look
  mnd := h.mnd
  wm := h.wm
  mne := h.mne
  fl := fun f hf => (h.fl f hf).wide hF
  nd := h.nd
  ndb := h.ndb
  own := h.own
theorem Fq.at_ (h : Fq W base F p mf mw rv R room quant began L M wt many) : p < W.heap.size ∧ W.cell? ⟨p, 0, none⟩ = some (.int .i64 room) ∧ W.cell? ⟨p, 1, none⟩ = some (.int .i64 quant) ∧ W.cell? ⟨p, 2, none⟩ = some (.int .i64 many) ∧ W.cell? ⟨p, 3, none⟩ = some (.map (some mf)) ∧ W.cell? ⟨p, 4, none⟩ = some rv ∧ W.cell? ⟨p, 5, none⟩ = some (.bool began) ∧ W.cell? ⟨p, 6, none⟩ = some (.map (some mw)) :=
  ⟨blk_lt h.box, blk_cell h.box 0, blk_cell h.box 1, blk_cell h.box 2, blk_cell h.box 3, blk_cell h.box 4, blk_cell h.box 5, blk_cell h.box 6⟩
theorem FlOk.at_ (h : FlOk W base F f) : f.b < W.heap.size ∧ W.cell? ⟨f.b, 0, none⟩ = some (.int .i64 f.c) ∧ W.cell? ⟨f.b, 1, none⟩ = some f.v ∧ ∀ j, W.frozen? ⟨f.b, j, none⟩ = false :=
  ⟨blk_lt h.box, blk_cell h.box 0, blk_cell h.box 1, fun j => blk_frozen h.box j⟩
/-- A store into the queue's own box that leaves the rest. -/
theorem Fq.put (h : Fq W base F p mf mw rv R room quant began L M wt many) (j : Nat) (u : Value) {many' : Int} {began' : Bool} (hc : (fqC room quant many mf rv began mw).setIfInBounds j u = fqC room quant many' mf rv' began' mw) (hr : KU.Q 40 W base F rv' R') : Fq (W.setCell ⟨p, j, none⟩ u) base F p mf mw rv' R' room quant began' L M wt many' where
  flt := fun k hk => ⟨(h.flt k hk).1, by have := (h.flt k hk).2; simpa [World.setCell] using this⟩
  fp := h.fp
  fmf := h.fmf
  fmw := h.fmw
  box := by rw [← hc]; exact blk_set h.box j u
  ring := Kd.Q_set hr h.box (by decide) j u
  mp := by
    obtain ⟨es, cl, hb, -⟩ := id h.mp
    exact h.mp.set (a := ⟨p, j, none⟩) (fun e => ne_map h.box hb e.symm) u
  look := h.look
  mnd := h.mnd
  wm := by
    obtain ⟨es, cl, hb, -⟩ := id h.wm
    exact h.wm.set (a := ⟨p, j, none⟩) (fun e => ne_map h.box hb e.symm) u
  mne := h.mne
  fl := fun f hf => (h.fl f hf).move (Below.heap_setCell W ⟨p, j, none⟩ u f.b (fun e => by
      have h1 := (h.fl f hf).box; rw [e, h.box] at h1; injection h1 with h1; injection h1 with _ h1; exact absurd h1 (by decide))) (fun k hk => Below.heap_setCell W ⟨p, j, none⟩ u k (fun e => by
      obtain ⟨cells, h1⟩ := (h.fl f hf).typed k hk; rw [e, h.box] at h1; injection h1 with h1; injection h1 with _ h1; exact absurd h1 (by decide)))
  nd := h.nd
  ndb := h.ndb
  own := h.own
/-- A map of the queue grows: the rest stays. -/
theorem Fq.rowG (h : Fq W base F p mf mw rv R room quant began L M wt many) {w1 : World} {m : Nat} (hm : ∃ es cl, W.heap[m]? = some (.map es cl)) (hg : W.grownBy w1 (some m)) :
    w1.heap[p]? = some (.cells (fqC room quant many mf rv began mw) 89 (0, 0)) ∧ KU.Q 40 w1 base F rv R ∧ ∀ f ∈ L, FlOk w1 base F f := by
  obtain ⟨es, cl, hm⟩ := hm
  have hne : ∀ (k : Nat) (cs : Array Value) (t : TypeId) (fr : Nat × Nat), W.heap[k]? = some (.cells cs t fr) → w1.heap[k]? = W.heap[k]? := fun k cs t fr hk => hg.block k (blk_lt hk) (fun e => ne_map hk hm (by injection e))
  refine ⟨(hne _ _ _ _ h.box).trans h.box, Q_own rfl h.ring (fun k hk => ?_), fun f hf => (h.fl f hf).move (hne _ _ _ _ (h.fl f hf).box) (fun k hk => ?_)⟩
  · obtain ⟨cells, hc⟩ := Kd.Q_typed h.ring k hk
    exact hne _ _ _ _ hc
  · obtain ⟨cells, hc⟩ := (h.fl f hf).typed k hk
    exact hne _ _ _ _ hc
theorem Fq.putW (h : Fq W base F p mf mw rv R room quant began L M wt many) {w1 : World} {wt' : WtV} (hm : IsMp (.int .u64) w1 mw (wtM wt')) (hg : W.grownBy w1 (some mw)) : Fq w1 base F p mf mw rv R room quant began L M wt' many := by
  obtain ⟨es, cl, hb, -⟩ := id h.wm
  obtain ⟨h1, h2, h3⟩ := h.rowG ⟨es, cl, hb⟩ hg
  exact { h with
    flt := fun k hk => ⟨(h.flt k hk).1, Nat.lt_of_lt_of_le (h.flt k hk).2 hg.size⟩
    box := h1
    ring := h2
    mp := h.mp.grown hg (fun e => h.mne (by injection e))
    wm := hm
    fl := h3 }
theorem Fq.drewN (h : Fq W base F p mf mw rv R room quant began L M wt many) (u : Nat) : Fq (W.drewN u) base F p mf mw rv R room quant began L M wt many := h.below (pw_below_drewN (Below.refl _ _) u)
theorem Fq.drew (h : Fq W base F p mf mw rv R room quant began L M wt many) : Fq W.drew base F p mf mw rv R room quant began L M wt many := h.below (below_drew (Below.refl _ _))
theorem Fq.find (h : Fq W base F p mf mw rv R room quant began L M wt many) {i : Nat} (hi : i < L.length) : mlook (keyed L) L[i].n = some L[i] :=
  mlook_of_mem (by rw [keyed_keys]; exact h.nd) (by unfold keyed; exact List.mem_map.2 ⟨L[i], List.getElem_mem hi, rfl⟩)
theorem Fq.head (h : Fq W base F p mf mw rv R room quant began (f :: L) M wt many) : mlook (keyed (f :: L)) f.n = some f := h.find (i := 0) (by simp)
theorem keyed_some {n : Int} (h : mlook (keyed L) n = some f) : f ∈ L ∧ f.n = n := by
  obtain ⟨g, hg, e⟩ := List.mem_map.1 (mlook_mem h)
  simp only [Prod.mk.injEq] at e
  obtain ⟨rfl, rfl⟩ := e
  exact ⟨hg, rfl⟩
end
end Go.Proofs.Ytcelhendfjiicaa
