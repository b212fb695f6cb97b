/- attn.Through from an empty memory. -/
import Derived.Test.YtdfgmdmcdnnhfaaAtW
namespace Go.Proofs.Ytdfgmdmcdnnhfaa
open Go.RowKit Go.Shelf Go.Proofs.YtdfgmdmcdnnhfaaW.PrintWords Go.Proofs.YtdfgmdmcdnnhfaaW.PrintLast Go.Proofs.YtdfgmdmcdnnhfaaW.PrintMore
set_option linter.unusedVariables false
set_option linter.unusedSimpArgs false
set_option maxRecDepth 100000
attribute [local go_sem] gb_max2 gb_min2 gb_max_two gb_min_two gb_max_three gb_min_three

def ty (c : Cfg) (P : List Pl) (xs : List Int) : List Int := (aThru c P xs c.layers.toNat).1
def tp (c : Cfg) (P : List Pl) (xs : List Int) : Pl := (aThru c P xs c.layers.toNat).2
theorem ty_le (c : Cfg) (P : List Pl) (xs : List Int) : (ty c P xs).length ≤ xs.length := aThru_le c P xs _
theorem thru_at (W : World) (p : Nat) (c : Cfg) (hok : c.ok) (hMo : Mo W p c) (F : Nat → Prop) (q : Nat) (P : List Pl) (hm : MemG F W q c.layers P) (hP : PlOk c.layers.toNat P) (hlP : P.length ≤ 900) (A : Option Addr) (px : Nat) (xs : List Int) (hx : (Kd.int .i64).C W A xs.length xs) (hcx : xs.length ≤ px) (hnx : xs.length ≤ 4096) :
    Calls Try.prog 25 #[.pointer (some ⟨p, 0, none⟩), .pointer (some ⟨q, 0, none⟩), .slice A xs.length px] W (ThruR F (ty c P xs) c.layers (P ++ [tp c P xs]) W) :=
  thru_same W p c hok hMo F q P hm hP hlP A px xs hx hcx hnx
/-- .. blocks aside. -/
def ThruP (X : List Int) (L : Int) (Q : List Pl) (W : World) (e : Ending) (w' : World) : Prop := ∃ A cp q, e = .returned (.tuple #[.slice A X.length cp, .pointer (some ⟨q, 0, none⟩)]) ∧ Own w' W.heap.size 2 (.slice A X.length cp) X ∧ MemP w' q L Q ∧ Below W.heap.size W w'
theorem ThruR.plain {F : Nat → Prop} {X : List Int} {L : Int} {Q : List Pl} {W w' : World} {e : Ending} (h : ThruR F X L Q W e w') : ThruP X L Q W e w' := by
  obtain ⟨A, cp, q, h1, h2, h3, h4⟩ := h
  exact ⟨A, cp, q, h1, h2, h3.mem, h4⟩
theorem thru_none (W : World) (p : Nat) (c : Cfg) (hok : c.ok) (hMo : Mo W p c) (A : Option Addr) (px : Nat) (xs : List Int) (hx : (Kd.int .i64).C W A xs.length xs) (hcx : xs.length ≤ px) (hnx : xs.length ≤ 4096) :
    Calls Try.prog 25 #[.pointer (some ⟨p, 0, none⟩), .pointer none, .slice A xs.length px] W (ThruP (ty c [] xs) c.layers [tp c [] xs] W) :=
  (thru_other W p c hok hMo (fun _ => False) (fun _ h => h.elim) [] rfl _ 0 (fun W' _ => alay_nil W') (by have := hok.2.2.1; omega) A px xs hx hcx hnx).mono (fun _ _ h => h.plain)
theorem thru_new (W : World) (p : Nat) (c : Cfg) (hok : c.ok) (hMo : Mo W p c) (q : Nat) (L : Int) (hm : MemP W q L []) (A : Option Addr) (px : Nat) (xs : List Int) (hx : (Kd.int .i64).C W A xs.length xs) (hcx : xs.length ≤ px) (hnx : xs.length ≤ 4096) :
    Calls Try.prog 25 #[.pointer (some ⟨p, 0, none⟩), .pointer (some ⟨q, 0, none⟩), .slice A xs.length px] W (ThruP (ty c [] xs) c.layers [tp c [] xs] W) := by
  by_cases h : L = c.layers
  · subst h
    exact (thru_same W p c hok hMo _ q [] (memF_nil hm) (plok_nil _) (by simp) A px xs hx hcx hnx).mono (fun _ _ h => h.plain)
  · exact (thru_other W p c hok hMo (fun _ => False) (fun _ h => h.elim) [] rfl _ L (fun W' hb => alay_any W' q L [] (hm.below hb)) h A px xs hx hcx hnx).mono (fun _ _ h => h.plain)
theorem plok_tp (c : Cfg) (hok : c.ok) (P Q : List Pl) (xs : List Int) (h : PlOk c.layers.toNat Q) : PlOk c.layers.toNat (Q ++ [tp c P xs]) := plok_snoc c hok P Q xs h

/-- What comes of vectors, one behind the other. -/
def aPs (c : Cfg) (l : List (List Int)) : Nat → List Pl
  | 0 => []
  | i + 1 => aPs c l i ++ [tp c (aPs c l i) (l.getD i [])]
def aYs (c : Cfg) (l : List (List Int)) : Nat → List (List Int)
  | 0 => []
  | i + 1 => aYs c l i ++ [ty c (aPs c l i) (l.getD i [])]
theorem aPs_len (c : Cfg) (l : List (List Int)) (i : Nat) : (aPs c l i).length = i := by
  induction i with
  | zero => rfl
  | succ i ih => show (aPs c l i ++ _).length = _; rw [List.length_append, ih]; rfl
theorem aYs_len (c : Cfg) (l : List (List Int)) (i : Nat) : (aYs c l i).length = i := by
  induction i with
  | zero => rfl
  | succ i ih => show (aYs c l i ++ _).length = _; rw [List.length_append, ih]; rfl
theorem aPs_take (c : Cfg) (l : List (List Int)) (n k : Nat) (h : k ≤ n) : (aPs c l n).take k = aPs c l k := by
  induction n with
  | zero => obtain rfl : k = 0 := by omega
            rfl
  | succ n ih =>
    rcases Nat.lt_or_ge n k with h1 | h1
    · obtain rfl : k = n + 1 := by omega
      exact List.take_of_length_le (by rw [aPs_len]; omega)
    · show (aPs c l n ++ _).take k = _
      rw [List.take_append_of_le_length (by rw [aPs_len]; omega), ih h1]
theorem aYs_get (c : Cfg) (l : List (List Int)) (n i : Nat) (h : i < n) : (aYs c l n).getD i [] = ty c (aPs c l i) (l.getD i []) := by
  induction n with
  | zero => omega
  | succ n ih =>
    show (aYs c l n ++ [ty c (aPs c l n) (l.getD n [])]).getD i [] = _
    rw [List.getD_eq_getElem?_getD]
    rcases Nat.lt_or_ge i n with h1 | h1
    · rw [List.getElem?_append_left (by rw [aYs_len]; exact h1), ← List.getD_eq_getElem?_getD, ih h1]
    · obtain rfl : i = n := by omega
      rw [List.getElem?_append_right (by rw [aYs_len]; omega), aYs_len, Nat.sub_self]; rfl
theorem aPs_ok (c : Cfg) (hok : c.ok) (l : List (List Int)) (i : Nat) : PlOk c.layers.toNat (aPs c l i) := by
  induction i with
  | zero => exact plok_nil _
  | succ i ih => exact plok_tp c hok _ _ _ ih

theorem Reps.take_ {α : Type} {R : α → List Value → Prop} {size : Nat} {ps : List α} {cs : List Value} (h : Reps R size ps cs) (k : Nat) (hk : k ≤ ps.length) : Reps R size (ps.take k) (cs.take (k * size)) := by
  have hle : k * size ≤ ps.length * size := Nat.mul_le_mul_right _ hk
  refine ⟨by rw [List.length_take, List.length_take, h.1, Nat.min_eq_left hle, Nat.min_eq_left hk], fun j p hj => ?_⟩
  rw [List.getElem?_take] at hj
  split at hj
  · rename_i hjk
    have h1 := h.2 j p hj
    have h2 : j * size + size ≤ k * size := by rw [← Nat.succ_mul]; exact Nat.mul_le_mul_right _ hjk
    rw [List.drop_take, List.take_take, Nat.min_eq_left (by omega)]
    exact h1
  · cases hj
/-- Cut, told by blocks. -/
def CutG (F : Nat → Prop) (L : Int) (P : List Pl) (W : World) (e : Ending) (w' : World) : Prop := ∃ q, e = .returned (.pointer (some ⟨q, 0, none⟩)) ∧ MemG (FU F (Bt W.heap.size w'.heap.size)) w' q L P ∧ Below W.heap.size W w'
theorem acutG_any (F : Nat → Prop) (W : World) (p : Nat) (L n : Int) (P : List Pl) (h : MemG F W p L P) (hp : P.length ≤ 1000000) : Calls Try.prog 28 #[.pointer (some ⟨p, 0, none⟩), .int .i64 n] W (CutG F L (P.take (min (max n 0) P.length).toNat) W) := by
  obtain ⟨A, cap, olds, hc, hl9, hA, hFt⟩ := h.1
  obtain ⟨hh, hrp, hcl⟩ := hFt.self
  have h0 : W.cell? ⟨p, 0, none⟩ = some (.int .i64 L) := by rw [blk_cell hh]; rfl
  have h1 : W.cell? ⟨p, 1, none⟩ = some (.slice A P.length cap) := by rw [blk_cell hh]; rfl
  obtain ⟨Q, hQ⟩ : ∃ Q, P.take (min (max n 0) P.length).toNat = Q := ⟨_, rfl⟩
  obtain ⟨k, hk⟩ : ∃ k : Nat, min (max n 0) (P.length : Int) = k := ⟨(min (max n 0) (P.length : Int)).toNat, by omega⟩
  have hkn : k ≤ P.length := by omega
  have hQk : Q = P.take k := by rw [← hQ, hk, Int.toNat_natCast]
  have hQl : Q.length = k := by rw [hQk, List.length_take]; omega
  rw [hQ]
  have hal : ∀ j, j < W.heap.size → (W.alloc (.cells #[.int .i64 L, .slice A k k] 108)).heap[j]? = W.heap[j]? := fun j hj => Below.heap_alloc _ _ _ hj
  have hm : MemG (FU F (Bt W.heap.size (W.alloc (.cells #[.int .i64 L, .slice A k k] 108)).heap.size)) (W.alloc (.cells #[.int .i64 L, .slice A k k] 108)) W.heap.size L Q := by
    refine ⟨⟨A, k, olds.take (k * 2), by omega, by omega, fun h0 => by rw [hQk, hA h0]; simp, fun W' hW => ?_⟩, fun j hj => ?_⟩
    · have hF' : ∀ j, F j → W'.heap[j]? = W.heap[j]? := fun j hj => (hW j (.inl hj)).trans (hal j (h.2 j hj))
      obtain ⟨-, g2, g3⟩ := hFt W' hF'
      refine ⟨?_, ?_, fun b hb j u hj => g3 b hb j u ?_⟩
      · rw [hW _ (.inr ⟨Nat.le_refl _, by simp⟩), hQl]; exact heap_alloc_new W _
      · rw [hQk]; exact Reps.take_ g2 k hkn
      · rw [List.getElem?_take] at hj
        split at hj
        · exact hj
        · cases hj
    · rcases hj with hj | hj
      · have := h.2 j hj; simp; omega
      · exact hj.2
  have hcut := cutPl A P.length cap k (by omega)
  have hb : Below W.heap.size W (W.alloc (.cells #[.int .i64 L, .slice A k k] 108)) := below_alloc (Below.refl _ W) _
  obtain ⟨m, hmm⟩ : ∃ m, P.length = m := ⟨_, rfl⟩
  rw [hmm] at h1 hk hkn hp hc hcut
  have HM := Lib.hid hm
  have HB := Lib.hid hb
  have hk' : min (max n 0) (m : Int) = k := hk
  unfold CutG
  clear hm hb h hQ hQl hQk hmm hh hrp hcl hFt hA hal hl9
  go_enter Try.func28, Try.ntmps28
  go_wp2_with fail
  go_region
  go_wp2_with fail
  go_ret
  exact ⟨_, rfl, HM.out.below (below_drew (Below.refl _ _)), below_drew HB.out⟩

end Go.Proofs.Ytdfgmdmcdnnhfaa
