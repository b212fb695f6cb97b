/- A fair queue told by its flows: Drop; what Push, Pop and Drop keep. -/
import Derived.Test.YtcelhendfjiicaaFqK
import Derived.Test.YtcelhendfjiicaaFqY
namespace Go.Proofs.Ytcelhendfjiicaa
open Go.RowKit Go.Shelf Go.Proofs.YtcelhendfjiicaaW.PrintWords Go.Proofs.YtcelhendfjiicaaW.PrintLast Go.Proofs.YtcelhendfjiicaaW.PrintMore
set_option linter.unusedVariables false
set_option linter.unusedSimpArgs false
set_option maxRecDepth 100000
section
variable {W W' : World} {base : Nat} {F : Nat → Prop} {p : Nat} {room quant : Int} {b b' : Bool} {l l' : List Fl} {wt : WtV} {x : ItemV} {n : Int}
theorem QV.nd (h : QV W base F p room quant b l wt) : (mkeys l).Nodup := by
  obtain ⟨L, rfl, mf, mw, rv, M, h⟩ := h
  have := h.nd
  unfold mkeys
  rw [List.map_map]
  exact this
theorem len_tot (h : FqJ b l) : l.length ≤ totF l := by
  have h1 : ∀ f ∈ l, f.2.2 ≠ [] := fun f hf => (h.cost f hf).1.1
  clear h
  unfold totF
  induction l with
  | nil => simp
  | cons f r ih =>
    have h2 := ih (fun g hg => h1 g (List.mem_cons_of_mem _ hg))
    have h3 : 0 < f.2.2.length := List.length_pos_iff.2 (h1 f List.mem_cons_self)
    rw [List.map_cons, List.sum_cons, List.length_cons]
    omega
/-- The push into a flow that waits, seen from the list's head. -/
def putIt (x : ItemV) (f : Fl) : Fl := if f.1 = x.1 then (f.1, f.2.1, f.2.2 ++ [x]) else f
theorem putIt_far {r : List Fl} (h : x.1 ∉ mkeys r) : r.map (putIt x) = r := by
  induction r with
  | nil => rfl
  | cons f r ih =>
    have h1 : f.1 ≠ x.1 := fun e => h (by rw [← e]; exact List.mem_cons_self)
    have h2 : x.1 ∉ mkeys r := fun e => h (List.mem_cons_of_mem _ e)
    rw [List.map_cons, ih h2]
    unfold putIt
    rw [if_neg h1]
theorem putIt_tot {r : List Fl} (hnd : (mkeys r).Nodup) (h : x.1 ∈ mkeys r) : totF (r.map (putIt x)) = totF r + 1 := by
  induction r with
  | nil => cases h
  | cons f r ih =>
    have hn := List.nodup_cons.1 hnd
    unfold totF at ih ⊢
    by_cases he : f.1 = x.1
    · have hf : x.1 ∉ mkeys r := fun hm => hn.1 (by rw [he]; exact hm)
      rw [List.map_cons, putIt_far hf]
      unfold putIt
      rw [if_pos he]
      simp only [List.map_cons, List.sum_cons, List.length_append, List.length_singleton]
      omega
    · have hm : x.1 ∈ mkeys r := by
        rcases List.mem_cons.1 h with h | h
        · exact absurd h.symm he
        · exact h
      rw [List.map_cons]
      simp only [List.map_cons, List.sum_cons]
      rw [ih hn.2 hm]
      unfold putIt
      rw [if_neg he]
      omega
theorem pushE_some (h : x.1 ∈ mkeys l) : pushE l x = l.map (putIt x) := by
  unfold pushE
  cases hl : mlook l x.1 with
  | none => exact absurd h (mlook_none.1 hl)
  | some v => rfl
theorem pushE_none (h : x.1 ∉ mkeys l) : pushE l x = l ++ [(x.1, 0, [x])] := by
  unfold pushE
  rw [mlook_none.2 h]
theorem push_tot (hnd : (mkeys l).Nodup) : totF (pushE l x) = totF l + 1 := by
  by_cases h : x.1 ∈ mkeys l
  · rw [pushE_some h, putIt_tot hnd h]
  · rw [pushE_none h]
    unfold totF
    simp
theorem putIt_J {f : Fl} (h1 : 1 ≤ x.2.1) (h2 : x.2.1 ≤ 1048576) : (CostJ f → CostJ (putIt x f)) ∧ (FlJ f → FlJ (putIt x f)) ∧ (putIt x f).2.1 = f.2.1 := by
  unfold putIt
  split
  · rename_i he
    have hc : CostJ f → CostJ (f.1, f.2.1, f.2.2 ++ [x]) := fun h => ⟨by simp, fun y hy => by
      rcases List.mem_append.1 hy with hy | hy
      · exact h.2.1 y hy
      · obtain rfl : y = x := by simpa using hy
        exact ⟨he.symm, h1, h2⟩, h.2.2⟩
    refine ⟨hc, fun h => ⟨hc h.1, ?_⟩, rfl⟩
    have h3 := h.2
    unfold hcF at h3 ⊢
    cases hx : f.2.2 with
    | nil => exact absurd hx h.1.1
    | cons y ys =>
      rw [hx] at h3
      show f.2.1 < ((y :: ys ++ [x]).headD (0, 0, 0)).2.1
      exact h3
  · exact ⟨id, id, rfl⟩
theorem push_J (h : FqJ b l) (h1 : 1 ≤ x.2.1) (h2 : x.2.1 ≤ 1048576) : FqJ b (pushE l x) := by
  have hnew : FlJ (x.1, 0, [x]) := ⟨⟨by simp, fun y hy => by
    obtain rfl : y = x := by simpa using hy
    exact ⟨rfl, h1, h2⟩, Int.le_refl _⟩, by show (0 : Int) < x.2.1; omega⟩
  by_cases hm : x.1 ∈ mkeys l
  · rw [pushE_some hm]
    cases l with
    | nil => trivial
    | cons f r =>
      obtain ⟨q1, q2, q3⟩ := putIt_J (f := f) h1 h2
      refine ⟨?_, fun g hg => ?_⟩
      · cases b with
        | true => have h3 := h.1; rw [if_pos rfl] at h3 ⊢; exact ⟨q1 h3.1, by rw [q3]; exact h3.2⟩
        | false => have h3 := h.1; rw [if_neg (by simp)] at h3 ⊢; exact q2 h3
      · obtain ⟨g', hg', rfl⟩ := List.mem_map.1 hg
        exact (putIt_J h1 h2).2.1 (h.2 g' hg')
  · rw [pushE_none hm]
    cases l with
    | nil =>
      show FqJ b [(x.1, 0, [x])]
      refine ⟨?_, fun g hg => by cases hg⟩
      cases b with
      | true => rw [if_pos rfl]; exact ⟨hnew.1, by show (0 : Int) ≤ topCr; unfold topCr; omega⟩
      | false => rw [if_neg (by simp)]; exact hnew
    | cons f r =>
      refine ⟨h.1, fun g hg => ?_⟩
      rcases List.mem_append.1 hg with hg | hg
      · exact h.2 g hg
      · obtain rfl : g = (x.1, 0, [x]) := by simpa using hg
        exact hnew
/-- What a Pop takes and leaves, whatever its turns. -/
theorem pop_gen {q : Int} (hw : WtJ wt) (h1 : 1 ≤ q) (h2 : q ≤ 1048576) {k t : Nat} {y : ItemV × Bool × List Fl} (h : FqJ b l) (hy : popRun wt q k t b l = some y) : y.1.1 ∈ mkeys l ∧ (∀ j ∈ mkeys y.2.2, j ∈ mkeys l) ∧ totF y.2.2 + 1 = totF l := by
  obtain ⟨b', f, r, x, xs, hJ, ⟨hk, ht⟩, hx, hs, rfl⟩ := popRun_ind hw h1 h2 (fun _ l' => (∀ j ∈ mkeys l', j ∈ mkeys l) ∧ totF l' = totF l)
    (fun l' _ h => ⟨fun j hj => h.1 j (by unfold mkeys roundsF at *; rw [List.map_map] at hj; exact hj), by rw [← h.2]; unfold totF roundsF; rw [List.map_map]; rfl⟩)
    (fun b f r _ h => ⟨fun j hj => h.1 j (by
      unfold mkeys at *
      rw [List.map_append, List.map_singleton, grow1_items.2] at hj
      simp only [List.mem_append, List.mem_singleton, List.map_cons, List.mem_cons] at hj ⊢
      rcases hj with hj | hj
      · exact .inr hj
      · exact .inl (by simpa using hj)), by
      rw [← h.2]
      unfold totF
      simp only [List.map_append, List.sum_append, List.map_cons, List.map_nil, List.sum_cons, List.sum_nil, grow1_items.1]
      omega⟩) k t b l y h ⟨fun j hj => hj, rfl⟩ hy
  have hc := (hJ.cost f List.mem_cons_self).1.2.1 x (by rw [hx]; exact List.mem_cons_self)
  have hfl : f.2.2.length = xs.length + 1 := by rw [hx]; rfl
  have htt : totF (f :: r) = xs.length + 1 + totF r := by unfold totF; rw [List.map_cons, List.sum_cons, hfl]
  split
  · rename_i he
    subst he
    refine ⟨by show x.1 ∈ _; rw [hc.1]; exact hk _ List.mem_cons_self, fun j hj => hk j (List.mem_cons_of_mem _ hj), ?_⟩
    show totF r + 1 = totF l
    rw [← ht, htt]
    simp
    omega
  · refine ⟨by show x.1 ∈ _; rw [hc.1]; exact hk _ List.mem_cons_self, fun j hj => hk j hj, ?_⟩
    rw [← ht, htt]
    unfold totF
    simp only [List.map_cons, List.sum_cons]
    omega
def DropE (b : Bool) (l : List Fl) (n : Int) (b' : Bool) (l' : List Fl) : Prop :=
  (n ∉ mkeys l ∧ b' = b ∧ l' = l) ∨ ∃ l1 f l2, l = l1 ++ f :: l2 ∧ f.1 = n ∧ l' = l1 ++ l2 ∧ b' = dropB l1 b
def QDrop (W : World) (base : Nat) (F : Nat → Prop) (p : Nat) (room quant : Int) (b : Bool) (l : List Fl) (wt : WtV) (n : Int) (m : Nat) (e : Ending) (w' : World) : Prop :=
  ∃ A c b' l', e = .returned (.slice A m c) ∧ DropE b l n b' l' ∧ QR W base F p room quant b' l' wt w'
theorem qdrop_any (h : QV W base F p room quant b l wt) (hl9 : l.length ≤ 1000000) (hm9 : totF l ≤ 1000000) (n : Int) (m : Nat) (hm : ofE l n = m) : Calls Try.prog 40 #[.pointer (some ⟨p, 0, none⟩), .int .u64 n] W (QDrop W base F p room quant b l wt n m) := by
  obtain ⟨L, rfl, h⟩ := h
  unfold ofE at hm
  rw [er_look] at hm
  cases hl : mlook (keyed L) n with
  | none =>
    rw [hl] at hm
    simp only [Option.map_none] at hm
    subst hm
    refine (fqdrop_miss h n hl).mono ?_
    rintro e w' ⟨rfl, rfl⟩
    refine ⟨none, 0, b, L.map FlV.er, rfl, .inl ⟨?_, rfl, rfl⟩, F, ⟨L, rfl, h⟩, fun k hk => .inl hk, Tn.refl _ _⟩
    rw [mlook_none, keyed_keys] at hl
    unfold mkeys
    rw [List.map_map]
    exact hl
  | some f =>
    rw [hl] at hm
    simp only [Option.map_some] at hm
    obtain ⟨hf, hn⟩ := keyed_some hl
    obtain ⟨L1, L2, rfl⟩ := List.append_of_mem hf
    rw [tot_er] at hm9
    rw [List.length_map] at hl9
    refine (fqdrop_in h hl9 hm9 n hn m hm).mono ?_
    rintro e w' ⟨A, c, F', rfl, hq, hF, hT⟩
    refine ⟨A, c, dropB L1 b, (L1 ++ L2).map FlV.er, rfl, .inr ⟨L1.map FlV.er, f.er, L2.map FlV.er, by simp, hn, by simp, ?_⟩, F', ⟨_, rfl, hq⟩, hF, hT⟩
    cases L1 <;> rfl
theorem DropE.J (h : DropE b l n b' l') (hj : FqJ b l) : FqJ b' l' := by
  rcases h with ⟨-, rfl, rfl⟩ | ⟨l1, f, l2, rfl, -, rfl, rfl⟩
  · exact hj
  · cases l1 with
    | nil => exact hj.tail
    | cons g r =>
      refine ⟨hj.1, fun k hk => ?_⟩
      rcases List.mem_append.1 hk with hk | hk
      · exact hj.2 k (List.mem_append_left _ hk)
      · exact hj.2 k (List.mem_append_right _ (List.mem_cons_of_mem _ hk))
theorem DropE.off (h : DropE b l n b' l') (hnd : (mkeys l).Nodup) : n ∉ mkeys l' ∧ totF l' + ofE l n = totF l := by
  rcases h with ⟨h1, rfl, rfl⟩ | ⟨l1, f, l2, rfl, rfl, rfl, rfl⟩
  · refine ⟨h1, ?_⟩
    have h0 : ofE l' n = 0 := by unfold ofE; rw [mlook_none.2 h1]
    rw [h0, Nat.add_zero]
  · unfold mkeys at hnd ⊢
    rw [List.map_append, List.map_cons] at hnd
    have h3 := List.nodup_append.1 hnd
    have h4 := List.nodup_cons.1 h3.2.1
    refine ⟨fun hm => ?_, ?_⟩
    · rw [List.map_append] at hm
      rcases List.mem_append.1 hm with hm | hm
      · exact h3.2.2 f.1 hm f.1 List.mem_cons_self rfl
      · exact h4.1 hm
    · have h5 : mlook (l1 ++ f :: l2) f.1 = some f.2 := mlook_of_mem (by unfold mkeys; rw [List.map_append, List.map_cons]; exact hnd) (by simp)
      unfold ofE
      rw [h5]
      unfold totF
      simp only [List.map_append, List.sum_append, List.map_cons, List.sum_cons]
      omega
end
end Go.Proofs.Ytcelhendfjiicaa
