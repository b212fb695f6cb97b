/- A member list: Get over plain values; what each call keeps; the ways of a state. -/
import Derived.Test.YtmbhicjjbgbneaaMbM
import Derived.Test.YtmbhicjjbgbneaaMbF
import Derived.Test.YtmbhicjjbgbneaaGbB
import Derived.Test.YtmbhicjjbgbneaaWEqStruct
namespace Go.Proofs.Ytmbhicjjbgbneaa
open Go.RowKit Go.Shelf Go.Proofs.YtmbhicjjbgbneaaW.PrintWords Go.Proofs.YtmbhicjjbgbneaaW.PrintLast Go.Proofs.YtmbhicjjbgbneaaW.PrintMore
set_option linter.unusedVariables false
set_option linter.unusedSimpArgs false
set_option maxRecDepth 100000
attribute [local go_sem] gb_max2 gb_min2 gb_max_two gb_min_two gb_max_three gb_min_three
section
variable {W : World} {p m : Nat} {now last : Int} {L : List (Int × RpV)}
theorem mbget_miss (h : Mb W p m now last L) (id : Int) (hl : mlook L id = none) : Calls Try.prog 35 #[.pointer (some ⟨p, 0, none⟩), .int .u64 id] W (GetR W p m (lat now 0) last L #[.int .u64 0, .int .i64 0, .int .u64 0, .int .i64 0, .int .i64 0] 6) := by
  obtain ⟨W0, hW0⟩ : ∃ W0, W.alloc (.cells #[.int .u64 0, .int .i64 0, .int .u64 0, .int .i64 0, .int .i64 0] 75) = W0 := ⟨_, rfl⟩
  obtain ⟨g, hg⟩ : ∃ g, W.heap.size = g := ⟨_, rfl⟩
  have hb0 : Below W.heap.size W W0 := by rw [← hW0]; exact below_alloc (Below.refl _ W) _
  have hk0 : W0.heap[g]? = some (.cells #[.int .u64 0, .int .i64 0, .int .u64 0, .int .i64 0, .int .i64 0] 75 (0, 0)) := by rw [← hW0, ← hg]; exact heap_alloc_new W _
  have hgf : ¬ MF p m L g := fun hf => by have := h.fl g hf; omega
  have HF := Lib.hid (mbfind_miss (h.below hb0) 0 id hl)
  have HT0 := Lib.hid ((Tn.refl (fun k => k = p) W).bel hb0)
  have HGF := Lib.hid hgf
  have HGE := Lib.hid (show W.heap.size ≤ g from Nat.le_of_eq hg)
  have HK0 := Lib.hid hk0
  unfold FindR at HF
  unfold GetR
  obtain ⟨tn, htn⟩ : ∃ x, lat now 0 = x := ⟨_, rfl⟩
  rw [htn] at HF ⊢
  have HW := Lib.hid hW0
  have HG := Lib.hid hg
  clear hW0 hg h hl hb0 hk0 hgf htn
  go_enter Try.func35, Try.ntmps35
  go_wp2_with fail
  try rw [HG.out]
  rw [HW.out]
  refine HF.out.mono ?_
  rintro e w1 ⟨rfl, hM, hT⟩
  have HM := Lib.hid hM
  have HT := Lib.hid (HT0.out.trans hT (fun k hk => .inl hk))
  have hk := (hT.block g (blk_lt HK0.out) (fun e : g = p => HGF.out (.inl e))).trans HK0.out
  have HK := Lib.hid hk
  have HMG := Lib.hid (fun (W' : World) (hw : ∀ k, k ≠ g → W'.heap[k]? = w1.heap[k]?) => hM.move (W' := W') (fun k hk => hw k (fun e => HGF.out (e ▸ hk))))
  have z0 := blk_cell hk 0
  have z1 := blk_cell hk 1
  have z2 := blk_cell hk 2
  have z3 := blk_cell hk 3
  have z4 := blk_cell hk 4
  have f0 := blk_frozen hk 0
  have f1 := blk_frozen hk 1
  have f2 := blk_frozen hk 2
  have f3 := blk_frozen hk 3
  have f4 := blk_frozen hk 4
  clear hM hT hk
  go_wp2_with fail
  refine bodyPost_ret (results_cell_tmp rfl _ _ g 75 #[.int .u64 0, .int .i64 0, .int .u64 0, .int .i64 0, .int .i64 0] (0, 0) _ rfl (by exact blk_set (blk_set (blk_set (blk_set (blk_set HK.out 0 _) 1 _) 2 _) 3 _) 4 _) Try.underlying75 rfl (by kernel_rfl)) rfl ?_
  refine ⟨rfl, HMG.out _ (fun k hk => ?_), ((((HT.out.put g 0 _ (.inr HGE.out)).put g 1 _ (.inr HGE.out)).put g 2 _ (.inr HGE.out)).put g 3 _ (.inr HGE.out)).put g 4 _ (.inr HGE.out)⟩
  rw [Below.heap_setCell _ ⟨g, 4, none⟩ _ _ hk, Below.heap_setCell _ ⟨g, 3, none⟩ _ _ hk, Below.heap_setCell _ ⟨g, 2, none⟩ _ _ hk, Below.heap_setCell _ ⟨g, 1, none⟩ _ _ hk, Below.heap_setCell _ ⟨g, 0, none⟩ _ _ hk]
end
def r4A (id : Int) (r : R4) : Array Value := #[.int .u64 id, .int .i64 r.1, .int .u64 r.2.1, .int .i64 r.2.2.1, .int .i64 r.2.2.2]
section
variable {W W' : World} {F : Nat → Prop} {p m : Nat} {now last : Int} {V : List Rp}
theorem msget_none (h : MS W F p m now last V) (g : 0 ≤ now) (id : Int) (hl : mlook V id = none) : Calls Try.prog 35 #[.pointer (some ⟨p, 0, none⟩), .int .u64 id] W fun e w' => e = .returned (.tuple #[.agg (r4A 0 (0, 0, 0, 0)), .int .i64 6]) ∧ MS w' F p m now last V ∧ Tn (fun k => k = p) W w' := by
  obtain ⟨L, hM, rfl, h3, h4⟩ := h
  refine (mbget_miss hM id (view_none hl)).mono ?_
  rintro e w' ⟨rfl, hm, ht⟩
  rw [lat_0 now g] at hm
  exact ⟨rfl, ⟨L, hm, rfl, h3, fun k hk => Nat.lt_of_lt_of_le (h4 k hk) ht.size⟩, ht⟩
theorem msget_some (h : MS W F p m now last V) (g : 0 ≤ now) (id : Int) (r : R4) (hl : mlook V id = some r) : Calls Try.prog 35 #[.pointer (some ⟨p, 0, none⟩), .int .u64 id] W fun e w' => e = .returned (.tuple #[.agg (r4A id r), .int .i64 0]) ∧ MS w' F p m now last V ∧ Tn (fun k => k = p) W w' := by
  obtain ⟨L, hM, rfl, h3, h4⟩ := h
  obtain ⟨q, hl2⟩ := view_some hl
  refine (mbget_hit hM id _ hl2).mono ?_
  rintro e w' ⟨rfl, hm, ht⟩
  rw [lat_0 now g] at hm
  exact ⟨rfl, ⟨L, hm, rfl, h3, fun k hk => Nat.lt_of_lt_of_le (h4 k hk) ht.size⟩, ht⟩
theorem MS.p_ (h : MS W F p m now last V) : F p ∧ p < W.heap.size := by
  obtain ⟨L, hM, -, h3, h4⟩ := h
  exact ⟨h3 p (.inl rfl), hM.lt⟩
theorem MS.lt (h : MS W F p m now last V) : ∀ k, F k → k < W.heap.size := h.choose_spec.2.2.2
end
/-! What a call keeps. -/
theorem ascV_keys (V : List Rp) : AscV V ↔ (mkeys V).Pairwise (fun a b => a < b) := by unfold AscV mkeys; rw [List.pairwise_map]
theorem PG.look {now last : Int} {V : List Rp} (g : PG now last V) {x : Rp} (hx : x ∈ V) : mlook V x.1 = some x.2 := by
  have h := g.asc
  clear g
  induction V with
  | nil => cases hx
  | cons y l ih =>
    obtain ⟨a, u⟩ := y
    obtain ⟨h1, h2⟩ := List.pairwise_cons.1 h
    unfold mlook
    rcases List.mem_cons.1 hx with rfl | hx
    · rw [if_pos rfl]
    · have := h1 x hx
      rw [if_neg (by dsimp only at this; omega)]
      exact ih hx h2
theorem PG.put {now now' last : Int} {V : List Rp} (g : PG now last V) {n : Int} {r0 r : R4} (hl : mlook V n = some r0) (h1 : now ≤ now') (h2 : now' ≤ 1099511627776)
    (hr : (1 ≤ r.1 ∧ r.1 ≤ 4) ∧ 0 ≤ r.2.1 ∧ (0 ≤ r.2.2.1 ∧ r.2.2.1 ≤ 1048576) ∧ 0 ≤ r.2.2.2 ∧ r.2.2.2 ≤ now') : PG now' last (mput V n r) := by
  have hk := mput_keys_same (v := r) hl
  have hnd : (mkeys V).Nodup := ((ascV_keys V).1 g.asc).imp (fun h => by omega)
  refine ⟨by have := g.now0; omega, h2, g.last0, g.last9, (ascV_keys _).2 (by rw [hk]; exact (ascV_keys V).1 g.asc), ?_, fun x hx => ?_⟩
  · have := congrArg List.length hk
    unfold mkeys at this
    rw [List.length_map, List.length_map] at this
    rw [this]; exact g.len
  · rcases mput_mem hnd hx with rfl | ⟨hx, -⟩
    · have := g.el _ (mlook_mem hl)
      exact ⟨this.1, this.2.1, hr⟩
    · have := g.el x hx
      exact ⟨this.1, this.2.1, this.2.2.1, this.2.2.2.1, this.2.2.2.2.1, this.2.2.2.2.2.1, by omega⟩
theorem PG.same {now now' last : Int} {V : List Rp} (g : PG now last V) (h1 : now ≤ now') (h2 : now' ≤ 1099511627776) : PG now' last V :=
  ⟨by have := g.now0; omega, h2, g.last0, g.last9, g.asc, g.len, fun x hx => by
    have := g.el x hx
    exact ⟨this.1, this.2.1, this.2.2.1, this.2.2.2.1, this.2.2.2.2.1, this.2.2.2.2.2.1, by omega⟩⟩
theorem PG.del {now last : Int} {V : List Rp} (g : PG now last V) (n : Int) : PG now last (mdel V n) := by
  have hs := mdel_sub V n
  exact ⟨g.now0, g.now9, g.last0, g.last9, g.asc.sublist hs, Nat.le_trans hs.length_le g.len, fun x hx => g.el x (hs.subset hx)⟩
theorem pg_add {now now' last : Int} {V : List Rp} (g : PG now last V) (h1 : now ≤ now') (h2 : now' ≤ 1099511627776) (h3 : last + 1 < 9223372036854775807) : PG now' (pAdd now' last V).2.1 (pAdd now' last V).2.2 := by
  have g' := g.same h1 h2
  unfold pAdd
  by_cases h8 : V.length = 8
  · rw [if_pos h8]; exact g'
  · rw [if_neg h8]
    have hl := g.len
    refine ⟨g'.now0, g'.now9, by have := g.last0; show 0 ≤ last + 1; omega, h3, ?_, by show (V ++ [_]).length ≤ 8; rw [List.length_append, List.length_singleton]; omega, fun x hx => ?_⟩
    · refine List.pairwise_append.2 ⟨g.asc, List.pairwise_singleton _ _, fun a ha b hb => ?_⟩
      rw [List.mem_singleton.1 hb]
      have := (g.el a ha).2.1
      show a.1 < last + 1
      omega
    · rcases List.mem_append.1 hx with hx | hx
      · have := g'.el x hx
        exact ⟨this.1, by show x.1 ≤ last + 1; omega, this.2.2⟩
      · rw [List.mem_singleton.1 hx]
        have := g.last0
        have := g'.now0
        exact ⟨by show 1 ≤ last + 1; omega, Int.le_refl _, ⟨by show (1 : Int) ≤ 1; omega, by show (1 : Int) ≤ 4; omega⟩, Int.le_refl _, ⟨by show (0 : Int) ≤ 0; omega, by show (0 : Int) ≤ 1048576; omega⟩, by dsimp only; omega, Int.le_refl _⟩
theorem eS_ok {now st : Int} {r : R4} (h0 : 0 ≤ now) (hs : 1 ≤ st ∧ st ≤ 4) (hr : (1 ≤ r.1 ∧ r.1 ≤ 4) ∧ 0 ≤ r.2.1 ∧ (0 ≤ r.2.2.1 ∧ r.2.2.1 ≤ 1048576) ∧ 0 ≤ r.2.2.2 ∧ r.2.2.2 ≤ now) : (1 ≤ (eS now st r).1 ∧ (eS now st r).1 ≤ 4) ∧ 0 ≤ (eS now st r).2.1 ∧ (0 ≤ (eS now st r).2.2.1 ∧ (eS now st r).2.2.1 ≤ 1048576) ∧ 0 ≤ (eS now st r).2.2.2 ∧ (eS now st r).2.2.2 ≤ now := by
  unfold eS
  split
  · exact hr
  · exact ⟨hs, hr.2.1, hr.2.2.1, h0, Int.le_refl _⟩
theorem uS_ok {now inc : Int} {r : R4} (h0 : 0 ≤ now) (hi : 0 ≤ inc) (hr : (1 ≤ r.1 ∧ r.1 ≤ 4) ∧ 0 ≤ r.2.1 ∧ (0 ≤ r.2.2.1 ∧ r.2.2.1 ≤ 1048576) ∧ 0 ≤ r.2.2.2 ∧ r.2.2.2 ≤ now) : (1 ≤ (uS now inc r).1 ∧ (uS now inc r).1 ≤ 4) ∧ 0 ≤ (uS now inc r).2.1 ∧ (0 ≤ (uS now inc r).2.2.1 ∧ (uS now inc r).2.2.1 ≤ 1048576) ∧ 0 ≤ (uS now inc r).2.2.2 ∧ (uS now inc r).2.2.2 ≤ now := by
  have he := eS_ok (st := 2) h0 (by omega) hr
  unfold uS
  refine ⟨?_, hi, ?_, ?_⟩
  · dsimp only; split
    · exact hr.1
    · exact he.1
  · dsimp only; split
    · omega
    · exact hr.2.2.1
  · dsimp only; split
    · exact hr.2.2.2
    · exact he.2.2.2
/-- A replica's numbers at a later time. -/
theorem el_later {now now' last : Int} {V : List Rp} (g : PG now last V) (h1 : now ≤ now') {n : Int} {r : R4} (hl : mlook V n = some r) : (1 ≤ r.1 ∧ r.1 ≤ 4) ∧ 0 ≤ r.2.1 ∧ (0 ≤ r.2.2.1 ∧ r.2.2.1 ≤ 1048576) ∧ 0 ≤ r.2.2.2 ∧ r.2.2.2 ≤ now' := by
  have := (g.el (n, r) (mlook_mem hl)).2.2
  exact ⟨this.1, this.2.1, this.2.2.1, this.2.2.2.1, by have h9 := this.2.2.2.2; dsimp only at h9; omega⟩
theorem pg_up {now now' last : Int} {V : List Rp} (g : PG now last V) (h1 : now ≤ now') (h2 : now' ≤ 1099511627776) (n inc : Int) (hi : 0 ≤ inc) : PG now' last (pUp now' n inc V).2 := by
  unfold pUp
  cases hl : mlook V n with
  | none => exact g.same h1 h2
  | some r =>
    dsimp only
    split
    · exact g.same h1 h2
    · exact g.put hl h1 h2 (uS_ok (by have := g.now0; omega) hi (el_later g h1 hl))
theorem pg_leave {now now' last : Int} {V : List Rp} (g : PG now last V) (h1 : now ≤ now') (h2 : now' ≤ 1099511627776) (st n : Int) (hs : 1 ≤ st ∧ st ≤ 4) : PG now' last (pLeave st now' n V).2 := by
  unfold pLeave
  cases hl : mlook V n with
  | none => exact g.same h1 h2
  | some r =>
    dsimp only
    split
    · exact g.same h1 h2
    · exact g.put hl h1 h2 (eS_ok (by have := g.now0; omega) hs (el_later g h1 hl))
theorem pg_rem {now now' last : Int} {V : List Rp} (g : PG now last V) (h1 : now ≤ now') (h2 : now' ≤ 1099511627776) (n wt : Int) : PG now' last (pRem now' n wt V).2 := by
  unfold pRem
  cases hl : mlook V n with
  | none => exact g.same h1 h2
  | some r =>
    dsimp only
    split
    · exact (g.same h1 h2).del n
    · exact g.same h1 h2
theorem pg_bind {now last : Int} {V : List Rp} (g : PG now last V) (n b : Int) : PG now last (pBind n b V).2 := by
  unfold pBind
  cases hl : mlook V n with
  | none => exact g
  | some r =>
    dsimp only
    split
    · exact g
    · have h := el_later g (Int.le_refl _) hl
      exact g.put hl (Int.le_refl _) g.now9 ⟨h.1, h.2.1, by dsimp only; omega, h.2.2.2⟩
/-! The ways. -/
def GoesP (a b : Int) : Prop := (a = 1 ∧ (b = 2 ∨ b = 4 ∨ b = 3)) ∨ (a = 2 ∧ (b = 4 ∨ b = 3)) ∨ (a = 4 ∧ (b = 2 ∨ b = 3))
def Edge (kd n wt nw code : Int) (V0 V1 : List Rp) : Prop := ∀ x ∈ V0, (mlook V1 x.1 = none ∧ code = 0 ∧ kd = 4 ∧ x.1 = n ∧ RemB nw wt x.2) ∨ (∃ r, mlook V1 x.1 = some r ∧ (code ≠ 0 → r = x.2) ∧ (x.2.1 ≠ r.1 → GoesP x.2.1 r.1) ∧ x.2.2.1 ≤ r.2.1 ∧ (x.1 ≠ n → r = x.2) ∧ 0 ≤ r.2.2.1)
section
variable {now last kd n wt nw code : Int} {V : List Rp}
theorem Edge.same (g : PG now last V) : Edge kd n wt nw code V V := fun x hx => .inr ⟨x.2, g.look hx, fun _ => rfl, fun h => absurd rfl h, Int.le_refl _, fun _ => rfl, (g.el x hx).2.2.2.2.1.1⟩
theorem Edge.put (g : PG now last V) {r0 r : R4} (hl : mlook V n = some r0) (h1 : r0.1 ≠ r.1 → GoesP r0.1 r.1) (h2 : r0.2.1 ≤ r.2.1) (h3 : 0 ≤ r.2.2.1) : Edge kd n wt nw 0 V (mput V n r) := fun x hx => by
  by_cases hxn : x.1 = n
  · have h := g.look hx
    rw [hxn, hl] at h
    injection h with h
    subst h
    exact .inr ⟨r, by rw [hxn]; exact mput_hit _ _ _, fun h => absurd rfl h, h1, h2, fun h => absurd hxn h, h3⟩
  · refine .inr ⟨x.2, ?_, fun _ => rfl, fun h => absurd rfl h, Int.le_refl _, fun _ => rfl, (g.el x hx).2.2.2.2.1.1⟩
    rw [mlook_put, if_neg (fun h => hxn h.symm)]
    exact g.look hx
theorem edge_add (g : PG now last V) : Edge kd n wt nw (pAdd nw last V).1.2 V (pAdd nw last V).2.2 := by
  unfold pAdd
  by_cases h8 : V.length = 8
  · rw [if_pos h8]; exact Edge.same g
  · rw [if_neg h8]
    intro x hx
    have hlk : mlook (V ++ [(last + 1, 1, 0, 0, nw)]) x.1 = some x.2 := by
      have h := g.look hx
      have hap : ∀ (A B : List Rp) (k : Int) (r : R4), mlook A k = some r → mlook (A ++ B) k = some r := by
        intro A B k r h
        induction A with
        | nil => cases h
        | cons e l ih =>
          obtain ⟨a, u⟩ := e
          rw [List.cons_append]
          unfold mlook at h ⊢
          split
          · rename_i ha; rw [if_pos ha] at h; exact h
          · rename_i ha; rw [if_neg ha] at h; exact ih h
      exact hap _ _ _ _ h
    exact .inr ⟨x.2, hlk, fun _ => rfl, fun h => absurd rfl h, Int.le_refl _, fun _ => rfl, (g.el x hx).2.2.2.2.1.1⟩
theorem edge_up (g : PG now last V) (inc : Int) : Edge kd n wt nw (pUp nw n inc V).1.2 V (pUp nw n inc V).2 := by
  unfold pUp
  cases hl : mlook V n with
  | none => exact Edge.same g
  | some r =>
    have h := (g.el (n, r) (mlook_mem hl)).2.2
    dsimp only at h ⊢
    split
    · exact Edge.same g
    · refine Edge.put g hl ?_ (by show r.2.1 ≤ inc; omega) (by unfold uS; dsimp only; split <;> omega)
      unfold uS eS GoesP
      dsimp only
      split
      · intro h; exact absurd rfl h
      · split
        · intro h; exact absurd rfl h
        · intro _; dsimp only; omega
theorem edge_leave (g : PG now last V) (st : Int) (hs : st = 3 ∨ st = 4) : Edge kd n wt nw (pLeave st nw n V).1 V (pLeave st nw n V).2 := by
  unfold pLeave
  cases hl : mlook V n with
  | none => exact Edge.same g
  | some r =>
    have h := (g.el (n, r) (mlook_mem hl)).2.2
    dsimp only at h ⊢
    split
    · exact Edge.same g
    · rename_i h3
      have h5 : (eS nw st r).2.2.1 = r.2.2.1 := by unfold eS; split <;> rfl
      refine Edge.put g hl ?_ (by unfold eS; split <;> exact Int.le_refl _) (by rw [h5]; omega)
      unfold eS GoesP
      split
      · intro h; exact absurd rfl h
      · intro _; dsimp only at *; omega
theorem edge_bind (g : PG now last V) (b : Int) : Edge kd n wt nw (pBind n b V).1 V (pBind n b V).2 := by
  unfold pBind
  cases hl : mlook V n with
  | none => exact Edge.same g
  | some r =>
    dsimp only
    split
    · exact Edge.same g
    · exact Edge.put g hl (fun h => absurd rfl h) (Int.le_refl _) (by dsimp only; omega)
theorem edge_rem (g : PG now last V) : Edge 4 n wt nw (pRem nw n wt V).1 V (pRem nw n wt V).2 := by
  unfold pRem
  cases hl : mlook V n with
  | none => exact Edge.same g
  | some r =>
    dsimp only
    split
    · rename_i hr
      intro x hx
      have hnd : (mkeys V).Nodup := ((ascV_keys V).1 g.asc).imp (fun h => by omega)
      by_cases hxn : x.1 = n
      · have h := g.look hx
        rw [hxn, hl] at h
        injection h with h
        subst h
        exact .inl ⟨by rw [mlook_del hnd, if_pos hxn.symm], rfl, rfl, hxn, hr⟩
      · refine .inr ⟨x.2, ?_, fun _ => rfl, fun h => absurd rfl h, Int.le_refl _, fun _ => rfl, (g.el x hx).2.2.2.2.1.1⟩
        rw [mlook_del hnd, if_neg (fun h => hxn h.symm)]
        exact g.look hx
    · exact Edge.same g
end
theorem goes_any (W : World) (a b : Int) (h : GoesP a b) : Calls Try.prog 36 #[.int .i64 a, .int .i64 b] W fun e w' => e = .returned (.bool true) ∧ W = w' := by
  rcases h with ⟨rfl, rfl | rfl | rfl⟩ | ⟨rfl, rfl | rfl⟩ | ⟨rfl, rfl | rfl⟩ <;>
  · go_enter Try.func36, Try.ntmps36
    go_wp2
    go_ret
    exact ⟨rfl, rfl⟩
theorem short24_any (A : Option Addr) (n c : Nat) (hn : n ≤ c) (W : World) : Calls Try.prog 27 #[.slice A n c] W fun e w' => e = .returned (.slice A (min n 200) c) ∧ W = w' := by
  have h0 : min n 200 ≤ n := by omega
  have e0 : min (n : Int) 200 = ((min n 200 : Nat) : Int) := by omega
  obtain ⟨m, hm⟩ : ∃ m, min n 200 = m := ⟨_, rfl⟩
  rw [hm] at h0 e0 ⊢
  clear hm
  go_enter Try.func27, Try.ntmps27
  go_wp2_with fail
  go_ret
  exact ⟨rfl, rfl⟩
theorem op_msteps : Opens Try.prog 59 (Kd.slice 64 KMStep) (fun xs => (∀ x ∈ xs, MStepG x) ∧ xs.length ≤ maxLen) := Opens.slice Try.underlying59 (by kernel_rfl) op_mstep
theorem mstep_K {w : World} {x : MStepV} {cs : List Value} (h : KMStep.K w x cs) : cs = [.int .u8 x.1, .int .i64 x.2.1, .int .u64 x.2.2.1, .int .u64 x.2.2.2.1, .int .i64 x.2.2.2.2.1, .int .i64 x.2.2.2.2.2] := by
  have := mstep_cells (x := x) (cs := cs.toArray) (w := w) (by simpa using h)
  exact congrArg Array.toList this
/-- A step among others. -/
theorem msteps_at {w : World} {Ad : Option Addr} {L : List MStepV} (h : KMStep.C w Ad L.length L) (i : Nat) (hi : i < L.length) :
    ∃ ad x, Ad = some ad ∧ L[i]? = some x ∧ w.cell? (ad.add (i * 6)) = some (.int .u8 x.1) ∧ w.cell? ⟨(ad.add (i * 6)).block, (ad.add (i * 6)).off + 1, none⟩ = some (.int .i64 x.2.1) ∧
      w.cell? ⟨(ad.add (i * 6)).block, (ad.add (i * 6)).off + 2, none⟩ = some (.int .u64 x.2.2.1) ∧ w.cell? ⟨(ad.add (i * 6)).block, (ad.add (i * 6)).off + 3, none⟩ = some (.int .u64 x.2.2.2.1) ∧ w.cell? ⟨(ad.add (i * 6)).block, (ad.add (i * 6)).off + 4, none⟩ = some (.int .i64 x.2.2.2.2.1) ∧ w.cell? ⟨(ad.add (i * 6)).block, (ad.add (i * 6)).off + 5, none⟩ = some (.int .i64 x.2.2.2.2.2) := by
  obtain ⟨ad, cs, e, hl, hK, hcell⟩ := Kd.C_get h (0, 0, 0, 0, 0, 0) (i : Int) (by omega) (by omega)
  have hi' : (i : Int).toNat = i := by omega
  rw [hi'] at hK hcell
  have hx : L.getD i (0, 0, 0, 0, 0, 0) = L[i] := by rw [List.getD_eq_getElem?_getD, List.getElem?_eq_getElem hi]; rfl
  rw [hx] at hK
  have e2 := mstep_K hK
  subst e2
  have hs : KMStep.sz = 6 := rfl
  rw [hs] at hcell
  refine ⟨ad, L[i], e, List.getElem?_eq_getElem hi, hcell 0 _ rfl, ?_, ?_, ?_, ?_, ?_⟩
  · rw [← rpadd_on ad _ 1 (by omega)]; exact hcell 1 _ rfl
  · rw [← rpadd_on ad _ 2 (by omega)]; exact hcell 2 _ rfl
  · rw [← rpadd_on ad _ 3 (by omega)]; exact hcell 3 _ rfl
  · rw [← rpadd_on ad _ 4 (by omega)]; exact hcell 4 _ rfl
  · rw [← rpadd_on ad _ 5 (by omega)]; exact hcell 5 _ rfl
theorem eqA_Rp (d : Nat) (w : World) (a0 b0 a1 b1 a2 b2 a3 b3 a4 b4 : Int) : (Op.equalIn (d + 2) 75 (.agg #[.int .u64 a0, .int .i64 a1, .int .u64 a2, .int .i64 a3, .int .i64 a4]) (.agg #[.int .u64 b0, .int .i64 b1, .int .u64 b2, .int .i64 b3, .int .i64 b4])).run Try.prog w = .ok (a0 == b0 && (a1 == b1 && (a2 == b2 && (a3 == b3 && a4 == b4)))) w := by
  refine eqA_of Try.underlying75 (by kernel_rfl) ?_
  refine eqf_cons (by rfl) (by go_simp; rfl) (by go_simp; rfl) (by go_simp) ?_
  refine eqf_cons (by rfl) (by go_simp; rfl) (by go_simp; rfl) (by go_simp) ?_
  refine eqf_cons (by rfl) (by go_simp; rfl) (by go_simp; rfl) (by go_simp) ?_
  refine eqf_cons (by rfl) (by go_simp; rfl) (by go_simp; rfl) (by go_simp) ?_
  exact eqf_last (by rfl) (by go_simp; rfl) (by go_simp; rfl) (by go_simp)
theorem eqRp_all (w : World) (id : Int) (r : R4) : (Op.equalIn 10000 75 (.agg #[.int .u64 id, .int .i64 r.1, .int .u64 r.2.1, .int .i64 r.2.2.1, .int .i64 r.2.2.2]) (.agg #[.int .u64 id, .int .i64 r.1, .int .u64 r.2.1, .int .i64 r.2.2.1, .int .i64 r.2.2.2])).run Try.prog w = .ok true w := by
  have h := eqA_Rp 9998 w id id r.1 r.1 r.2.1 r.2.1 r.2.2.1 r.2.2.1 r.2.2.2 r.2.2.2
  simp only [beq_self_eq_true, Bool.and_self] at h
  exact h
theorem eqRp_one (w : World) (id : Int) (r : R4) : (Op.equal 75 (.agg #[.int .u64 id, .int .i64 r.1, .int .u64 r.2.1, .int .i64 r.2.2.1, .int .i64 r.2.2.2]) (.agg #[.int .u64 id, .int .i64 r.1, .int .u64 r.2.1, .int .i64 r.2.2.1, .int .i64 r.2.2.2])).run Try.prog w = .ok true w := by
  have h := eqRp_all w id r
  simp [Op.equal, Op.maxDepth, h]
theorem neqRp_same (w : World) (id : Int) (r : R4) : (binOp .neq 75 (.agg #[.int .u64 id, .int .i64 r.1, .int .u64 r.2.1, .int .i64 r.2.2.1, .int .i64 r.2.2.2]) (.agg #[.int .u64 id, .int .i64 r.1, .int .u64 r.2.1, .int .i64 r.2.2.1, .int .i64 r.2.2.2])).run Try.prog w = .ok (.bool false) w := by
  have h := eqA_Rp 9998 w id id r.1 r.1 r.2.1 r.2.1 r.2.2.1 r.2.2.1 r.2.2.2 r.2.2.2
  simp only [beq_self_eq_true, Bool.and_self] at h
  simp only [binOp]
  simp [Op.equal, Op.maxDepth, h]
end Go.Proofs.Ytmbhicjjbgbneaa
