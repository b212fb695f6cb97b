/- FairShares: what its loops lay. -/
import Derived.Test.YtcelhendfjiicaaFqY
import Derived.Test.YtcelhendfjiicaaFqS
import Derived.Test.YtcelhendfjiicaaOpn
namespace Go.Proofs.Ytcelhendfjiicaa
open Go.RowKit Go.Shelf Go.Proofs.YtcelhendfjiicaaW.PrintWords Go.Proofs.YtcelhendfjiicaaW.PrintLast Go.Proofs.YtcelhendfjiicaaW.PrintMore
set_option linter.unusedVariables false
set_option linter.unusedSimpArgs false
set_option maxRecDepth 100000
theorem slice_came' {α : Type} {e : Nat} {d : Kd α} {w : World} {a : Option Addr} {len cap : Nat} {xs : List α} (h : (Kd.slice e d).K w xs [.slice a len cap]) : len = xs.length ∧ xs.length ≤ cap ∧ d.C w a xs.length xs := by
  obtain ⟨A, c, he, hl, hC⟩ := h
  simp only [List.cons.injEq, Value.slice.injEq, and_true] at he
  obtain ⟨rfl, rfl, rfl⟩ := he
  exact ⟨rfl, hl, hC⟩
/-- A box that the queue has no part in. -/
def BxK (W : World) (F : Nat → Prop) (b : Nat) (o : Obj) : Prop := W.heap[b]? = some o ∧ ¬ F b
theorem BxK.qr {W W' : World} {F F' : Nat → Prop} {b : Nat} {o : Obj} (h : BxK W F b o) (hT : Tn F W W') (hF : ∀ k, F' k → F k ∨ W.heap.size ≤ k) : BxK W' F' b o := by
  have hlt : b < W.heap.size := (Array.getElem?_eq_some_iff.1 h.1).1
  refine ⟨(hT.block b hlt h.2).trans h.1, fun hf => ?_⟩
  rcases hF b hf with h1 | h1
  · exact h.2 h1
  · omega
theorem BxK.below {W W' : World} {F : Nat → Prop} {b : Nat} {o : Obj} (h : BxK W F b o) (hb : Below W.heap.size W W') : BxK W' F b o :=
  ⟨(hb.block b (Array.getElem?_eq_some_iff.1 h.1).1).trans h.1, h.2⟩
theorem BxK.new {W : World} {F : Nat → Prop} (hF : ∀ k, F k → k < W.heap.size) (o : Obj) (hn : (W.alloc o).heap[W.heap.size]? = some o) : BxK (W.alloc o) F W.heap.size o := ⟨hn, fun h => by have := hF _ h; omega⟩
def shItem (k i : Nat) (c : Int) : ItemV := ((k : Int), c + 1 + ((k * i : Nat) : Int) % 7, (i : Int))
def shT (cs : List Int) (k i : Nat) : List ItemV := (List.range i).map (fun j => shItem k j (cs.getD j 0))
def shL (cs : List Int) (k i : Nat) : List Fl :=
  (if k = 0 then [] else [(0, 0, shT cs 0 cs.length)]) ++ (if i = 0 then [] else [((k : Int), 0, shT cs k i)])
theorem shT_succ (cs : List Int) (k i : Nat) : shT cs k (i + 1) = shT cs k i ++ [shItem k i (cs.getD i 0)] := by
  unfold shT
  rw [List.range_succ, List.map_append]
  rfl
theorem shT_len (cs : List Int) (k i : Nat) : (shT cs k i).length = i := by unfold shT; simp
theorem shL_push (cs : List Int) (k i : Nat) (hk : k < 2) : pushE (shL cs k i) (shItem k i (cs.getD i 0)) = shL cs k (i + 1) := by
  have hk' : k = 0 ∨ k = 1 := by omega
  unfold shL
  rw [if_neg (show ¬ i + 1 = 0 by omega), shT_succ]
  rcases hk' with rfl | rfl
  · by_cases hi : i = 0
    · subst hi
      simp [pushE, mlook, shT, shItem]
    · simp [pushE, mlook, hi, shItem]
  · by_cases hi : i = 0
    · subst hi
      simp [pushE, mlook, shT, shItem]
    · simp [pushE, mlook, hi, shItem]
theorem shL_next (cs : List Int) (hn : 0 < cs.length) : shL cs 0 cs.length = shL cs 1 0 := by
  unfold shL
  simp [show cs.length ≠ 0 by omega]
theorem shL_all (cs : List Int) (hn : 0 < cs.length) : shL cs 1 cs.length = [(0, 0, shT cs 0 cs.length), (1, 0, shT cs 1 cs.length)] := by
  unfold shL
  simp [show cs.length ≠ 0 by omega]
theorem shL_tot (cs : List Int) (k i : Nat) (hk : k < 2) : totF (shL cs k i) = k * cs.length + i ∧ (shL cs k i).length ≤ 2 := by
  have hk' : k = 0 ∨ k = 1 := by omega
  unfold shL totF
  rcases hk' with rfl | rfl
  · by_cases hi : i = 0
    · subst hi; simp
    · simp [hi, shT_len]
  · by_cases hi : i = 0
    · subst hi; simp [shT_len]
    · simp [hi, shT_len]
theorem shT_mem {cs : List Int} {k i : Nat} (hb : ∀ x ∈ cs, 0 ≤ x ∧ x ≤ 255) {x : ItemV} (hx : x ∈ shT cs k i) : x.1 = k ∧ 1 ≤ x.2.1 ∧ x.2.1 ≤ 262 := by
  unfold shT at hx
  obtain ⟨j, hj, rfl⟩ := List.mem_map.1 hx
  have hc : 0 ≤ cs.getD j 0 ∧ cs.getD j 0 ≤ 255 := by
    by_cases h : j < cs.length
    · rw [List.getD_eq_getElem?_getD, List.getElem?_eq_getElem h]
      exact hb _ (List.getElem_mem h)
    · rw [List.getD_eq_getElem?_getD, List.getElem?_eq_none (by omega)]
      simp
  unfold shItem
  refine ⟨rfl, ?_, ?_⟩
  · show 1 ≤ cs.getD j 0 + 1 + ((k * j : Nat) : Int) % 7
    omega
  · show cs.getD j 0 + 1 + ((k * j : Nat) : Int) % 7 ≤ 262
    omega
/-- What stands when all is pushed. -/
theorem shL_start (cs : List Int) (hn : 0 < cs.length) (hb : ∀ x ∈ cs, 0 ≤ x ∧ x ≤ 255) (w0 w1 q : Int) :
    FqJ false (shL cs 1 cs.length) ∧ ShI w0 w1 q 0 false (shL cs 1 cs.length) ∧ ShC (shL cs 1 cs.length) := by
  rw [shL_all cs hn]
  have hne : ∀ k, shT cs k cs.length ≠ [] := fun k e => by
    have := shT_len cs k cs.length
    rw [e] at this
    simp at this
    omega
  have hh : ∀ k, ∃ x xs, shT cs k cs.length = x :: xs := fun k => by
    cases h : shT cs k cs.length with
    | nil => exact absurd h (hne k)
    | cons x xs => exact ⟨x, xs, rfl⟩
  refine ⟨FqJ.of_all (fun f hf => ?_), .inl ⟨0, _, 0, _, rfl, by simp, fun e => by cases e⟩, fun f hf x hx => ?_⟩
  · have h : f = (0, 0, shT cs 0 cs.length) ∨ f = (1, 0, shT cs 1 cs.length) := by simpa using hf
    rcases h with rfl | rfl
    · refine ⟨⟨hne 0, fun x hx => by have h := shT_mem hb hx; exact ⟨h.1, h.2.1, by omega⟩, Int.le_refl _⟩, ?_⟩
      obtain ⟨x, xs, e⟩ := hh 0
      have h := shT_mem hb (x := x) (show x ∈ shT cs 0 cs.length by rw [e]; exact List.mem_cons_self)
      unfold hcF
      rw [show ((0 : Int), (0 : Int), shT cs 0 cs.length).2.2 = x :: xs from e]
      show (0 : Int) < x.2.1
      omega
    · refine ⟨⟨hne 1, fun x hx => by have h := shT_mem hb hx; exact ⟨h.1, h.2.1, by omega⟩, Int.le_refl _⟩, ?_⟩
      obtain ⟨x, xs, e⟩ := hh 1
      have h := shT_mem hb (x := x) (show x ∈ shT cs 1 cs.length by rw [e]; exact List.mem_cons_self)
      unfold hcF
      rw [show ((1 : Int), (0 : Int), shT cs 1 cs.length).2.2 = x :: xs from e]
      show (0 : Int) < x.2.1
      omega
  · have h : f = (0, 0, shT cs 0 cs.length) ∨ f = (1, 0, shT cs 1 cs.length) := by simpa using hf
    rcases h with rfl | rfl
    · exact (shT_mem hb hx).2.2
    · exact (shT_mem hb hx).2.2
def wtL (w0 w1 : Int) (k : Nat) : WtV := if k = 0 then [] else if k = 1 then [(0, w0)] else [(0, w0), (1, w1)]
theorem wtL_put (w0 w1 : Int) (k : Nat) (hk : k < 2) : mput (wtL w0 w1 k) (k : Int) (if k = 0 then w0 else w1) = wtL w0 w1 (k + 1) := by
  have hk' : k = 0 ∨ k = 1 := by omega
  rcases hk' with rfl | rfl
  · simp [wtL, mput]
  · simp [wtL, mput]
theorem wtL_J (w0 w1 : Int) (h0 : 1 ≤ w0) (h1 : w0 ≤ 1000) (h2 : 1 ≤ w1) (h3 : w1 ≤ 1000) (k : Nat) : WtJ (wtL w0 w1 k) := by
  intro e he
  unfold wtL at he
  split at he
  · cases he
  · split at he
    · have : e = (0, w0) := by simpa using he
      subst this; exact ⟨h0, h1⟩
    · have : e = (0, w0) ∨ e = (1, w1) := by simpa using he
      rcases this with rfl | rfl
      · exact ⟨h0, h1⟩
      · exact ⟨h2, h3⟩
theorem wtL_len (w0 w1 : Int) (k : Nat) : (wtL w0 w1 k).length ≤ 2 := by
  unfold wtL
  split
  · simp
  · split <;> simp
theorem wtL_of (w0 w1 : Int) (h0 : 1 ≤ w0) (h2 : 1 ≤ w1) : wof (wtL w0 w1 2) 0 = w0 ∧ wof (wtL w0 w1 2) 1 = w1 := by
  unfold wof wtL
  simp [mlook]
  omega
theorem two_of {l : List Fl} {w0 w1 q D : Int} {b : Bool} (h : ShI w0 w1 q D b l) (h0 : 1 < ofE l 0) (h1 : 1 < ofE l 1) : TwoI l := by
  rcases h with ⟨c0, x0, c1, x1, rfl, -, -⟩ | ⟨c0, x0, c1, x1, rfl, -, -⟩
  · have e0 : ofE [(0, c0, x0), (1, c1, x1)] 0 = x0.length := by simp [ofE, mlook]
    have e1 : ofE [(0, c0, x0), (1, c1, x1)] 1 = x1.length := by simp [ofE, mlook]
    intro f hf
    have h : f = (0, c0, x0) ∨ f = (1, c1, x1) := by simpa using hf
    rcases h with rfl | rfl
    · show 2 ≤ x0.length; omega
    · show 2 ≤ x1.length; omega
  · have e0 : ofE [(1, c1, x1), (0, c0, x0)] 0 = x0.length := by simp [ofE, mlook]
    have e1 : ofE [(1, c1, x1), (0, c0, x0)] 1 = x1.length := by simp [ofE, mlook]
    intro f hf
    have h : f = (1, c1, x1) ∨ f = (0, c0, x0) := by simpa using hf
    rcases h with rfl | rfl
    · show 2 ≤ x1.length; omega
    · show 2 ≤ x0.length; omega
/-- What stands while two flows wait. -/
structure ShQ (w wr : World) (F : Nat → Prop) (p b10 b14 : Nat) (q c0 c1 tk0 tk1 : Int) (wt : WtV) (b : Bool) (l : List Fl) : Prop where
  Q : QV wr w.heap.size F p 4096 q b l wt
  J : FqJ b l
  S : ShI c0 c1 q (tk0 * c1 - tk1 * c0) b l
  C : ShC l
  len : l.length = 2
  x10 : BxK wr F b10 (.cells #[.int .i64 c0, .int .i64 c1] 38 (0, 0))
  x14 : BxK wr F b14 (.cells #[.int .i64 tk0, .int .i64 tk1] 38 (0, 0))
  ne : b10 ≠ b14
  lo : w.heap.size ≤ b14
  bel : Below w.heap.size w wr
  tk : 0 ≤ tk0 ∧ 0 ≤ tk1 ∧ tk0 + 262 * (totF l : Int) ≤ 104800 ∧ tk1 + 262 * (totF l : Int) ≤ 104800
/-- One is taken, and told. -/
theorem ShQ.step {w wr w5 W6 : World} {F F5 : Nat → Prop} {p b10 b14 : Nat} {q c0 c1 tk0 tk1 : Int} {wt : WtV} {b : Bool} {l l' : List Fl} {x : ItemV} (h : ShQ w wr F p b10 b14 q c0 c1 tk0 tk1 wt b l) (hT : TwoI l) (hy : popRun wt q (l.length + l.length) 0 b l = some (x, true, l')) (hw : WtJ wt) (hwo : wof wt 0 = c0 ∧ wof wt 1 = c1) (h1 : 1 ≤ q) (h2 : q ≤ 1048576) (d0 : 1 ≤ c0) (d1 : 1 ≤ c1)
    (hq5 : QV w5 w.heap.size F5 p 4096 q true l' wt) (hF5 : ∀ k, F5 k → F k ∨ wr.heap.size ≤ k) (hT5 : Tn F wr w5) (hb6 : Below w5.heap.size w5 W6) (j : Nat) (v tk0' tk1' : Int) (hj : j = 0 ∧ x.1 = 0 ∧ tk0' = tk0 + x.2.1 ∧ tk1' = tk1 ∧ v = tk0' ∨ j = 1 ∧ x.1 = 1 ∧ tk0' = tk0 ∧ tk1' = tk1 + x.2.1 ∧ v = tk1') :
    ShQ w (W6.setCell ⟨b14, j, none⟩ (.int .i64 v)).drew F5 p b10 b14 q c0 c1 tk0' tk1' wt true l' ∧ totF l' + 1 = totF l ∧ 0 ≤ x.2.1 ∧ x.2.1 ≤ 262 ∧ -(3 * c0 * c1 * q + 270 * (c0 + c1)) ≤ tk0' * c1 - tk1' * c0 ∧ tk0' * c1 - tk1' * c0 ≤ 3 * c0 * c1 * q + 270 * (c0 + c1) := by
  obtain ⟨-, -, s1, s2, s3, s4, s5, s6, s7, s8, s9⟩ := sh_step hw h1 h2 hwo.1 hwo.2 d0 d1 h.J h.S h.C hT _ hy
  dsimp only at s1 s2 s3 s4 s5 s6 s7 s8 s9
  have hD : shD c0 c1 (tk0 * c1 - tk1 * c0) x = tk0' * c1 - tk1' * c0 := by
    rcases hj with ⟨-, e1, e2, e3, -⟩ | ⟨-, e1, e2, e3, -⟩
    · unfold shD
      rw [if_pos e1, e2, e3, Int.add_mul]
      omega
    · unfold shD
      rw [if_neg (by omega), e2, e3, Int.add_mul]
      omega
  rw [hD] at s3 s8 s9
  have hx10 := (h.x10.qr hT5 hF5).below hb6
  have hx14 := (h.x14.qr hT5 hF5).below hb6
  have hk : Tn (fun k => k = b14) W6 (W6.setCell ⟨b14, j, none⟩ (.int .i64 v)).drew := ((Tn.refl (fun k => k = b14) W6).put b14 j _ (.inl rfl)).drew
  have htot : totF l' + 1 = totF l := s6
  have htk := h.tk
  refine ⟨⟨(hq5.below hb6).keep hk (fun k hk e => hx14.2 (e ▸ hk)), s5, s3, s4, s7, ⟨(hk.block b10 (blk_lt hx10.1) h.ne).trans hx10.1, hx10.2⟩, ⟨?_, hx14.2⟩, h.ne, h.lo, ?_, ?_⟩, htot, by omega, s2, s8, s9⟩
  · rcases hj with ⟨rfl, e1, e2, e3, e4⟩ | ⟨rfl, e1, e2, e3, e4⟩
    · rw [e3, e4]; exact blk_below (blk_set hx14.1 0 _) (below_drew (Below.refl _ _))
    · rw [e2, e4]; exact blk_below (blk_set hx14.1 1 _) (below_drew (Below.refl _ _))
  · have hb5 : Below w.heap.size w w5 := h.bel.trans (hT5.below (fun k hk => (h.Q.flt k hk).1) h.bel.size)
    have hb7 := below_then hb5 hb5.size hb6
    exact hb7.trans (hk.below (fun k hk => by rw [hk]; exact h.lo) hb7.size)
  · rcases hj with ⟨-, e1, e2, e3, e4⟩ | ⟨-, e1, e2, e3, e4⟩
    · omega
    · omega
theorem okWide_array {P : Program} {w : World} {r : Reach} {base : Nat} {t e : TypeId} {k : Nat} {v : Value} (ht : P.underlying t = some (.array k e)) (h : Value.okWide P w r base t v) : ∃ cs, v = .agg cs ∧ cs.size = P.cellsOf t := by
  simp only [Value.okWide, ht] at h
  obtain ⟨cs, h1, h2, _⟩ := h
  exact ⟨cs, h1, h2⟩
abbrev KTw8 : Kd (List Int) := Kd.arr 2 (Kd.int .u8) (by decide)
theorem op_tw8 : Opens Try.prog 34 KTw8 (fun xs => ∀ x ∈ xs, (Lit.int .u8 x).wf = true) := Opens.array (by decide) Try.underlying34 (by kernel_rfl) (by kernel_rfl) (Opens.int Try.underlying5)
theorem tw8_cells {w : World} {xs : List Int} {cs : Array Value} (h : KTw8.K w xs cs.toList) : ∃ a b, xs = [a, b] ∧ cs = #[.int .u8 a, .int .u8 b] := by
  obtain ⟨hl, hc, hf⟩ := h
  match xs, hl with
  | [a, b], _ =>
    have h0 : (cs.toList.drop 0).take 1 = [.int .u8 a] := hf 0 a rfl
    have h1 : (cs.toList.drop 1).take 1 = [.int .u8 b] := hf 1 b rfl
    have hc' : cs.toList.length = 2 := hc
    refine ⟨a, b, rfl, Array.toList_inj.1 ?_⟩
    match hcs : cs.toList, hc' with
    | [u, v], _ =>
      rw [hcs] at h0 h1
      simp at h0 h1
      rw [h0, h1]
abbrev KB : Kd (List Int) := Kd.slice 5 (Kd.int .u8)
theorem op_b8 : Opens Try.prog 28 KB (fun xs => (∀ x ∈ xs, (Lit.int .u8 x).wf = true) ∧ xs.length ≤ maxLen) := Opens.slice Try.underlying28 (by kernel_rfl) (Opens.int Try.underlying5)
theorem u8wf {a : Int} (h : (Lit.int .u8 a).wf = true) : 0 ≤ a ∧ a ≤ 255 := by
  change (decide ((0 : Int) ≤ a) && decide (a ≤ (255 : Int))) = true at h
  simpa using h
end Go.Proofs.Ytcelhendfjiicaa
