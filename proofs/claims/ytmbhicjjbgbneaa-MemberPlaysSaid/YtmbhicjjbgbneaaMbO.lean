/- The document's member list, as it lies: later, place. -/
import Derived.Test.YtmbhicjjbgbneaaMbN
namespace Go.Proofs.Ytmbhicjjbgbneaa
open Go.RowKit Go.Shelf Go.Proofs.YtmbhicjjbgbneaaW.PrintWords Go.Proofs.YtmbhicjjbgbneaaW.PrintLast Go.Proofs.YtmbhicjjbgbneaaW.PrintMore
set_option linter.unusedVariables false
set_option linter.unusedSimpArgs false
set_option maxRecDepth 100000
attribute [local go_sem] gb_max2 gb_min2 gb_max_two gb_min_two gb_max_three gb_min_three
def flat (V : List Rp) : List Value := V.flatMap rpL
theorem flat_len (V : List Rp) : (flat V).length = V.length * 5 := by
  induction V with
  | nil => rfl
  | cons x l ih => show (rpL x ++ flat l).length = _; rw [List.length_append, ih, List.length_cons]; show 5 + _ = _; omega
theorem flat_get (V : List Rp) (i j : Nat) (hi : i < V.length) (hj : j < 5) : (flat V)[i * 5 + j]? = (rpL V[i])[j]? := by
  induction V generalizing i with
  | nil => simp at hi
  | cons x l ih =>
    show (rpL x ++ flat l)[i * 5 + j]? = _
    cases i with
    | zero => rw [List.getElem?_append_left (by show 0 * 5 + j < 5; omega), Nat.zero_mul, Nat.zero_add]; rfl
    | succ i =>
      rw [List.getElem?_append_right (by show 5 ≤ (i + 1) * 5 + j; omega), show (i + 1) * 5 + j - (rpL x).length = i * 5 + j by show (i + 1) * 5 + j - 5 = _; omega]
      exact ih i (by simpa using hi)
theorem flat_set (V : List Rp) (i j : Nat) (hi : i < V.length) (hj : j < 5) (u : Value) (y : Rp) (hy : (rpL V[i]).set j u = rpL y) : (flat V).set (i * 5 + j) u = flat (V.set i y) := by
  induction V generalizing i with
  | nil => simp at hi
  | cons x l ih =>
    cases i with
    | zero =>
      show (rpL x ++ flat l).set (0 * 5 + j) u = rpL y ++ flat l
      rw [List.set_append_left _ _ (by show 0 * 5 + j < 5; omega), Nat.zero_mul, Nat.zero_add]
      congr 1
    | succ i =>
      show (rpL x ++ flat l).set ((i + 1) * 5 + j) u = rpL x ++ flat (l.set i y)
      rw [List.set_append_right _ _ (by show 5 ≤ (i + 1) * 5 + j; omega), show (i + 1) * 5 + j - (rpL x).length = i * 5 + j by show (i + 1) * 5 + j - 5 = _; omega]
      congr 1
      exact ih i (by simpa using hi) hy
theorem own_setAt {w : World} {base : Nat} {e : TypeId} {size n cap g : Nat} {xs : List Value} (h : w.ownsRow base e size (.slice (some ⟨g, 0, none⟩) n cap) n xs) (k : Nat) (u : Value) : (w.setCell ⟨g, k, none⟩ u).ownsRow base e size (.slice (some ⟨g, 0, none⟩) n cap) n (xs.set k u) := by
  obtain ⟨h1, h2⟩ := h
  refine ⟨by rw [List.length_set]; exact h1, ?_⟩
  rcases h2 with ⟨h2, -⟩ | ⟨g', cap', cur, h2, hg, hh, hn, hcm, hsz, ht⟩
  · cases h2
  · cases h2
    exact .inr ⟨g, cap, _, rfl, hg, blk_set hh k u, hn, hcm, by rw [Array.size_setIfInBounds]; exact hsz, by rw [Array.toList_setIfInBounds, List.take_set, ht]⟩
theorem own_get {w : World} {base : Nat} {e : TypeId} {size n c : Nat} {A : Option Addr} {xs : List Value} (h : w.ownsRow base e size (.slice A n c) n xs) (k : Nat) (hk : k < n * size) : ∃ g : Nat, A = some ⟨g, 0, none⟩ ∧ base ≤ g ∧ w.cell? ⟨g, k, none⟩ = xs[k]? ∧ w.frozen? ⟨g, k, none⟩ = false := by
  obtain ⟨h1, h2⟩ := h
  rcases h2 with ⟨h2, h0⟩ | ⟨g, cap, cur, h2, hg, hh, hn, hcm, hsz, ht⟩
  · rw [h0] at hk; omega
  · injection h2 with h2 h3 h4
    subst h2
    refine ⟨g, rfl, hg, ?_, ?_⟩
    · have h5 : (cur.toList.take (n * size))[k]? = xs[k]? := by rw [ht]
      rw [List.getElem?_take_of_lt hk] at h5
      simp only [World.cell?, hh]
      simp only [Option.isSome_none, Bool.false_eq_true, if_false]
      rw [← Array.getElem?_toList, h5]
    · simp [World.frozen?, hh]
/-- The document's list at q; its blocks within G; its row at A, with room for c. -/
def RLx (W : World) (G : Nat → Prop) (q : Nat) (T last : Int) (V : List Rp) (A : Option Addr) (c : Nat) : Prop := W.heap[q]? = some (.cells #[.int .i64 T, .int .u64 last, .slice A V.length c] 83 (0, 0)) ∧ W.ownsRow 0 124 5 (.slice A V.length c) V.length (flat V) ∧ G q ∧ (∀ k, (Value.slice A V.length c).ownBlock = some k → G k) ∧ (∀ k, G k → k < W.heap.size)
def RL (W : World) (G : Nat → Prop) (q : Nat) (T last : Int) (V : List Rp) : Prop := ∃ A c, RLx W G q T last V A c
section
variable {W W' : World} {G : Nat → Prop} {q : Nat} {T last : Int} {V : List Rp} {A : Option Addr} {c : Nat}
theorem rtype_ne : 124 ≠ 83 := by decide
theorem rl_ne {W : World} {q : Nat} {A : Option Addr} {n c : Nat} {base : Nat} {xs : List Value} {b : Array Value} (h1 : W.heap[q]? = some (.cells b 83 (0, 0))) (h2 : W.ownsRow base 124 5 (.slice A n c) n xs) : some q ≠ (Value.slice A n c).ownBlock := by
  intro he
  obtain ⟨cells, hc⟩ := own_typed h2 q he.symm
  rw [h1] at hc
  injection hc with hc
  injection hc with _ hc
  exact rtype_ne hc.symm
theorem RLx.keep (h : RLx W G q T last V A c) {F : Nat → Prop} (ht : Tn F W W') (hd : ∀ k, G k → ¬ F k) : RLx W' G q T last V A c := by
  obtain ⟨h1, h2, h3, h4, h5⟩ := h
  exact ⟨(ht.block q (h5 q h3) (hd q h3)).trans h1, own_move h2 (fun k hk => ht.block k (h5 k (h4 k hk)) (hd k (h4 k hk))), h3, h4, fun k hk => Nat.lt_of_lt_of_le (h5 k hk) ht.size⟩
theorem RL.keep (h : RL W G q T last V) {F : Nat → Prop} (ht : Tn F W W') (hd : ∀ k, G k → ¬ F k) : RL W' G q T last V := by
  obtain ⟨A, c, h⟩ := h
  exact ⟨A, c, h.keep ht hd⟩
theorem RLx.below (h : RLx W G q T last V A c) (hb : Below W.heap.size W W') : RLx W' G q T last V A c := by
  obtain ⟨h1, h2, h3, h4, h5⟩ := h
  exact ⟨(hb.block q (h5 q h3)).trans h1, own_move h2 (fun k hk => hb.block k (h5 k (h4 k hk))), h3, h4, fun k hk => Nat.lt_of_lt_of_le (h5 k hk) hb.size⟩
theorem RL.below (h : RL W G q T last V) (hb : Below W.heap.size W W') : RL W' G q T last V := by
  obtain ⟨A, c, h⟩ := h
  exact ⟨A, c, h.below hb⟩
theorem RLx.at_ (h : RLx W G q T last V A c) : (W.cell? ⟨q, 0, none⟩ = some (.int .i64 T) ∧ W.cell? ⟨q, 1, none⟩ = some (.int .u64 last) ∧ W.cell? ⟨q, 2, none⟩ = some (.slice A V.length c)) ∧ (W.frozen? ⟨q, 0, none⟩ = false ∧ W.frozen? ⟨q, 1, none⟩ = false ∧ W.frozen? ⟨q, 2, none⟩ = false) := by
  obtain ⟨h1, h2, h3, h4, h5⟩ := h
  exact ⟨⟨blk_cell h1 0, blk_cell h1 1, blk_cell h1 2⟩, blk_frozen h1 0, blk_frozen h1 1, blk_frozen h1 2⟩
theorem RLx.el (h : RLx W G q T last V A c) (i : Nat) (hi : i < V.length) (x : Rp) (hx : V[i]? = some x) : ∃ g : Nat, A = some ⟨g, 0, none⟩ ∧ G g ∧ g ≠ q ∧ (W.cell? ⟨g, i * 5, none⟩ = some (.int .u64 x.1) ∧ W.cell? ⟨g, i * 5 + 1, none⟩ = some (.int .i64 x.2.1) ∧ W.cell? ⟨g, i * 5 + 2, none⟩ = some (.int .u64 x.2.2.1) ∧ W.cell? ⟨g, i * 5 + 3, none⟩ = some (.int .i64 x.2.2.2.1) ∧ W.cell? ⟨g, i * 5 + 4, none⟩ = some (.int .i64 x.2.2.2.2)) ∧
      (W.frozen? ⟨g, i * 5 + 1, none⟩ = false ∧ W.frozen? ⟨g, i * 5 + 2, none⟩ = false ∧ W.frozen? ⟨g, i * 5 + 3, none⟩ = false ∧ W.frozen? ⟨g, i * 5 + 4, none⟩ = false) := by
  obtain ⟨h1, h2, h3, h4, h5⟩ := h
  have hxe : V[i] = x := by rw [List.getElem?_eq_getElem hi] at hx; injection hx
  subst hxe
  obtain ⟨g, rfl, hg, c0, -⟩ := own_get h2 (i * 5 + 0) (by omega)
  obtain ⟨g1, e1, -, c1, f1⟩ := own_get h2 (i * 5 + 1) (by omega)
  obtain ⟨g2, e2, -, c2, f2⟩ := own_get h2 (i * 5 + 2) (by omega)
  obtain ⟨g3, e3, -, c3, f3⟩ := own_get h2 (i * 5 + 3) (by omega)
  obtain ⟨g4, e4, -, c4, f4⟩ := own_get h2 (i * 5 + 4) (by omega)
  cases e1; cases e2; cases e3; cases e4
  have hne := rl_ne h1 h2
  have hgq : g ≠ q := fun e => hne (by rw [e]; rfl)
  refine ⟨g, rfl, h4 g rfl, hgq, ⟨?_, ?_, ?_, ?_, ?_⟩, f1, f2, f3, f4⟩
  · rw [show i * 5 = i * 5 + 0 from rfl, c0, flat_get V i 0 hi (by omega)]; rfl
  · rw [c1, flat_get V i 1 hi (by omega)]; rfl
  · rw [c2, flat_get V i 2 hi (by omega)]; rfl
  · rw [c3, flat_get V i 3 hi (by omega)]; rfl
  · rw [c4, flat_get V i 4 hi (by omega)]; rfl
theorem RLx.put {g : Nat} (h : RLx W G q T last V (some ⟨g, 0, none⟩) c) (i j : Nat) (x y : Rp) (u : Value) (hx : V[i]? = some x) (hj : j < 5) (hy : (rpL x).set j u = rpL y) : RLx (W.setCell ⟨g, i * 5 + j, none⟩ u) G q T last (V.set i y) (some ⟨g, 0, none⟩) c := by
  obtain ⟨h1, h2, h3, h4, h5⟩ := h
  have hi : i < V.length := (List.getElem?_eq_some_iff.1 hx).1
  have hxe : V[i] = x := by rw [List.getElem?_eq_getElem hi] at hx; injection hx
  have hne := rl_ne h1 h2
  have hgq : g ≠ q := fun e => hne (by rw [e]; rfl)
  have hl : (V.set i y).length = V.length := List.length_set
  refine ⟨?_, ?_, h3, by rw [hl]; exact h4, fun k hk => by simpa [World.setCell] using h5 k hk⟩
  · rw [hl]; exact (Below.heap_setCell W ⟨g, i * 5 + j, none⟩ u q (Ne.symm hgq)).trans h1
  · rw [hl, ← flat_set V i j hi hj u y (by rw [hxe]; exact hy)]
    exact own_setAt h2 _ u
theorem RLx.put0 (h : RLx W G q T last V A c) (x : Int) : RLx (W.setCell ⟨q, 0, none⟩ (.int .i64 x)) G q x last V A c := by
  obtain ⟨h1, h2, h3, h4, h5⟩ := h
  exact ⟨blk_set h1 0 _, own_setCell h2 (rl_ne h1 h2) _, h3, h4, fun k hk => by simpa [World.setCell] using h5 k hk⟩
theorem RLx.put1 (h : RLx W G q T last V A c) (x : Int) : RLx (W.setCell ⟨q, 1, none⟩ (.int .u64 x)) G q T x V A c := by
  obtain ⟨h1, h2, h3, h4, h5⟩ := h
  exact ⟨blk_set h1 1 _, own_setCell h2 (rl_ne h1 h2) _, h3, h4, fun k hk => by simpa [World.setCell] using h5 k hk⟩
theorem RLx.q_ (h : RLx W G q T last V A c) : G q := h.2.2.1
theorem rllater (hr : RL W G q T last V) (t : Int) : Calls Try.prog 67 #[.pointer (some ⟨q, 0, none⟩), .int .i64 t] W fun e w' => e = .returned (.tuple #[]) ∧ RL w' G q (lat T t) last V ∧ Tn G W w' := by
  obtain ⟨A, c, h⟩ := hr
  obtain ⟨⟨k0, k1, k2⟩, f0, f1, f2⟩ := h.at_
  have HM := Lib.hid (show RL _ G q t last V from ⟨A, c, h.put0 t⟩)
  have HT := Lib.hid ((Tn.refl G W).put q 0 (.int .i64 t) (.inl h.q_))
  have H := Lib.hid (show RL W G q T last V from ⟨A, c, h⟩)
  unfold lat
  clear h
  by_cases hx : T < t
  · by_cases ht : t ≤ 1099511627776
    · rw [if_pos ht]
      have e : max T t = t := by omega
      rw [e]
      clear e
      go_enter Try.func67, Try.ntmps67
      go_wp2_with fail
      go_end0
      exact ⟨rfl, HM.out, HT.out⟩
    · rw [if_neg ht]
      go_enter Try.func67, Try.ntmps67
      go_wp2_with fail
      go_end0
      exact ⟨rfl, H.out, Tn.refl _ _⟩
  · have e : (if t ≤ 1099511627776 then max T t else T) = T := by split <;> omega
    rw [e]
    clear e
    go_enter Try.func67, Try.ntmps67
    go_wp2_with fail
    go_end0
    exact ⟨rfl, H.out, Tn.refl _ _⟩
def PlcR (V : List Rp) (n : Int) (e : Ending) : Prop := (∃ i x, V[i]? = some x ∧ x.1 = n ∧ e = .returned (.int .i64 (i : Nat))) ∨ ((∀ x ∈ V, x.1 ≠ n) ∧ e = .returned (.int .i64 (-1)))
theorem rlplace (hr : RL W G q T last V) (n : Int) (h8 : V.length ≤ 1000) : Calls Try.prog 68 #[.pointer (some ⟨q, 0, none⟩), .int .u64 n] W fun e w' => PlcR V n e ∧ W = w' := by
  obtain ⟨A, c, h⟩ := hr
  obtain ⟨⟨k0, k1, k2⟩, -⟩ := h.at_
  have HEL := Lib.hid (fun i hi x hx => h.el i hi x hx)
  obtain ⟨m, hm⟩ : ∃ m, V.length = m := ⟨_, rfl⟩
  have HM := Lib.hid hm
  rw [hm] at k2 h8
  unfold PlcR
  clear h hm
  go_enter Try.func68, Try.ntmps68
  go_wp2_with fail
  go_loopw [5] (fun iv wr => ∃ i : Nat, iv = .int .i64 i ∧ i ≤ m ∧ wr = W ∧ Hid (∀ j x, j < i → V[j]? = some x → x.1 ≠ n)) (fun iv _ => m - (intOf iv).toNat)
  case atStart => exact ⟨0, rfl, by omega, rfl, Lib.hid (fun j x hj => by omega)⟩
  case round =>
    obtain ⟨i, rfl, hi, rfl, HN⟩ := hrel
    by_cases him : i < m
    · obtain ⟨x, hx⟩ : ∃ x, V[i]? = some x := ⟨_, List.getElem?_eq_getElem (by rw [HM.out]; exact him)⟩
      obtain ⟨g, rfl, hg, hgq, ⟨c0, c1, c2, c3, c4⟩, -⟩ := HEL.out i (by rw [HM.out]; exact him) x hx
      obtain ⟨id, r⟩ := x
      dsimp only at c0
      have HX := Lib.hid hx
      clear c1 c2 c3 c4 hx hg hgq
      by_cases hid : id = n
      · subst hid
        go_wp2_with fail
        go_ret
        exact ⟨.inl ⟨i, _, HX.out, rfl, rfl⟩, rfl⟩
      · have hd : (id == n) = false := by simpa using hid
        have HD := Lib.hid hid
        clear hid
        go_wp2_with fail
        go_roundw
        case rel => exact ⟨i + 1, by go_num, by omega, trivial, Lib.hid (fun j x hj hx => by
          rcases Nat.lt_or_ge j i with h | h
          · exact HN.out j x h hx
          · have : j = i := by omega
            subst this
            have h9 := HX.out
            rw [hx] at h9
            injection h9 with h9
            rw [h9]; exact HD.out)⟩
        case measure => simp [intOf]; omega
    · have hin : i = m := by omega
      subst hin
      have HALL := Lib.hid (show ∀ x ∈ V, x.1 ≠ n from fun x hx => by
        obtain ⟨j, hj, rfl⟩ := List.getElem_of_mem hx
        exact HN.out j _ (by rw [← HM.out]; exact hj) (List.getElem?_eq_getElem hj))
      go_wp2_with fail
      go_ret
      exact ⟨.inr ⟨HALL.out, rfl⟩, rfl⟩
end
end Go.Proofs.Ytmbhicjjbgbneaa
