/- A member list, as plain values; its contracts over these. -/
import Derived.Test.YtmbhicjjbgbneaaMbL
namespace Go.Proofs.Ytmbhicjjbgbneaa
open Go.RowKit Go.Shelf Go.Proofs.YtmbhicjjbgbneaaW.PrintWords Go.Proofs.YtmbhicjjbgbneaaW.PrintLast Go.Proofs.YtmbhicjjbgbneaaW.PrintMore
set_option linter.unusedVariables false
set_option linter.unusedSimpArgs false
set_option maxRecDepth 100000
abbrev R4 := Int × Int × Int × Int
theorem view_look (L : List (Int × RpV)) (n : Int) : mlook (L.map rpV) n = (mlook L n).map Prod.snd := by
  induction L with
  | nil => rfl
  | cons e l ih =>
    obtain ⟨a, u⟩ := e
    show mlook ((a, u.2) :: l.map rpV) n = _
    unfold mlook
    split
    · rfl
    · exact ih
theorem view_put (L : List (Int × RpV)) (n : Int) (q : Nat) (r : R4) : (mput L n (q, r)).map rpV = mput (L.map rpV) n r := by
  induction L with
  | nil => rfl
  | cons e l ih =>
    obtain ⟨a, u⟩ := e
    show _ = mput ((a, u.2) :: l.map rpV) n r
    unfold mput
    split
    · rfl
    · rw [List.map_cons, ih]; rfl
theorem view_del (L : List (Int × RpV)) (n : Int) : (mdel L n).map rpV = mdel (L.map rpV) n := by
  induction L with
  | nil => rfl
  | cons e l ih =>
    obtain ⟨a, u⟩ := e
    show _ = mdel ((a, u.2) :: l.map rpV) n
    unfold mdel
    split
    · rfl
    · rw [List.map_cons, ih]; rfl
theorem view_none {L : List (Int × RpV)} {n : Int} (h : mlook (L.map rpV) n = none) : mlook L n = none := by
  rw [view_look] at h
  cases hx : mlook L n with
  | none => rfl
  | some v => rw [hx] at h; cases h
theorem view_some {L : List (Int × RpV)} {n : Int} {r : R4} (h : mlook (L.map rpV) n = some r) : ∃ q, mlook L n = some (q, r) := by
  rw [view_look] at h
  cases hx : mlook L n with
  | none => rw [hx] at h; cases h
  | some v =>
    rw [hx] at h
    injection h with h
    subst h
    exact ⟨v.1, rfl⟩
/-- What each call makes of a list, plainly. -/
def pAdd (now last : Int) (V : List Rp) : (Int × Int) × Int × List Rp := if V.length = 8 then ((0, 5), last, V) else ((last + 1, 0), last + 1, V ++ [(last + 1, 1, 0, 0, now)])
def eS (now st : Int) (r : R4) : R4 := if r.1 = st then r else (st, r.2.1, r.2.2.1, now)
def uS (now inc : Int) (r : R4) : R4 := ((if r.1 = 3 then r else eS now 2 r).1, inc, if 0 < r.2.1 ∧ r.2.1 < inc then 0 else r.2.2.1, (if r.1 = 3 then r else eS now 2 r).2.2.2)
def pUp (now n inc : Int) (V : List Rp) : (Bool × Int) × List Rp :=
  match mlook V n with
  | none => ((false, 6), V)
  | some r => if inc = 0 ∨ inc < r.2.1 then ((false, 1), V) else ((decide (0 < r.2.1 ∧ r.2.1 < inc), 0), mput V n (uS now inc r))
def pLeave (st now n : Int) (V : List Rp) : Int × List Rp :=
  match mlook V n with
  | none => (6, V)
  | some r => if r.1 = 3 then (10, V) else (0, mput V n (eS now st r))
def RemB (now wt : Int) (r : R4) : Prop := r.1 = 3 ∧ ¬ (0 < r.2.2.1 ∧ now - r.2.2.2 < wt)
instance (now wt : Int) (r : R4) : Decidable (RemB now wt r) := by unfold RemB; exact inferInstance
def pRem (now n wt : Int) (V : List Rp) : Int × List Rp :=
  match mlook V n with
  | none => (6, V)
  | some r => if RemB now wt r then (0, mdel V n) else (10, V)
def pBind (n b : Int) (V : List Rp) : Int × List Rp :=
  match mlook V n with
  | none => (6, V)
  | some r => if b < -r.2.2.1 ∨ 1048576 - r.2.2.1 < b then (1, V) else (0, mput V n (r.1, r.2.1, r.2.2.1 + b, r.2.2.2))
def AscV (V : List Rp) : Prop := V.Pairwise (fun a b => a.1 < b.1)
/-- What may be. -/
structure PG (now last : Int) (V : List Rp) : Prop where
  now0 : 0 ≤ now
  now9 : now ≤ 1099511627776
  last0 : 0 ≤ last
  last9 : last < 9223372036854775807
  asc : AscV V
  len : V.length ≤ 8
  el : ∀ x ∈ V, 1 ≤ x.1 ∧ x.1 ≤ last ∧ (1 ≤ x.2.1 ∧ x.2.1 ≤ 4) ∧ 0 ≤ x.2.2.1 ∧ (0 ≤ x.2.2.2.1 ∧ x.2.2.2.1 ≤ 1048576) ∧ 0 ≤ x.2.2.2.2 ∧ x.2.2.2.2 ≤ now
/-- A list, its blocks within F. -/
def MS (W : World) (F : Nat → Prop) (p m : Nat) (now last : Int) (V : List Rp) : Prop := ∃ L, Mb W p m now last L ∧ L.map rpV = V ∧ (∀ k, MF p m L k → F k) ∧ (∀ k, F k → k < W.heap.size)
def MR (W : World) (F : Nat → Prop) (p m : Nat) (now last : Int) (V : List Rp) (w' : World) : Prop := MS w' (Nw W w' F) p m now last V ∧ Tn F W w'
section
variable {W W' : World} {F : Nat → Prop} {p m : Nat} {now last : Int} {V : List Rp}
theorem MS.asc {L : List (Int × RpV)} (h : AscV (L.map rpV)) : Asc L := by
  unfold AscV at h
  rw [List.pairwise_map] at h
  exact h
theorem lat_le (now t : Int) (h : now ≤ 1099511627776) : now ≤ lat now t ∧ lat now t ≤ 1099511627776 := by unfold lat; split <;> omega
theorem lat_0 (now : Int) (h : 0 ≤ now) : lat now 0 = now := by unfold lat; rw [if_pos (by omega)]; omega
theorem MS.keep (h : MS W F p m now last V) {G : Nat → Prop} (ht : Tn G W W') (hd : ∀ k, F k → ¬ G k) : MS W' F p m now last V := by
  obtain ⟨L, h1, h2, h3, h4⟩ := h
  exact ⟨L, h1.move (fun k hk => ht.block k (h4 k (h3 k hk)) (hd k (h3 k hk))), h2, h3, fun k hk => Nat.lt_of_lt_of_le (h4 k hk) ht.size⟩
theorem MS.below (h : MS W F p m now last V) (hb : Below W.heap.size W W') : MS W' F p m now last V := by
  obtain ⟨L, h1, h2, h3, h4⟩ := h
  exact ⟨L, h1.below hb, h2, h3, fun k hk => Nat.lt_of_lt_of_le (h4 k hk) hb.size⟩
theorem MS.mk2 {L' : List (Int × RpV)} {w' : World} {now' last' : Int} {V' : List Rp} {G : Nat → Prop} (h4 : ∀ k, F k → k < W.heap.size) (hm : Mb w' p m now' last' L') (hv : L'.map rpV = V') (hf : ∀ k, MF p m L' k → F k ∨ W.heap.size ≤ k) (ht : Tn G W w') (hG : ∀ k, G k → F k) : MR W F p m now' last' V' w' :=
  ⟨⟨L', hm, hv, fun k hk => (hf k hk).imp id (fun h => ⟨h, hm.fl k hk⟩), fun k hk => by
    rcases hk with hk | hk
    · exact Nat.lt_of_lt_of_le (h4 k hk) ht.size
    · exact hk.2⟩, ht.mono hG⟩
theorem msadd (h : MS W F p m now last V) (g : PG now last V) (t : Int) : Calls Try.prog 29 #[.pointer (some ⟨p, 0, none⟩), .int .i64 t] W fun e w' => e = .returned (.tuple #[.int .u64 (pAdd (lat now t) last V).1.1, .int .i64 (pAdd (lat now t) last V).1.2]) ∧ MR W F p m (lat now t) (pAdd (lat now t) last V).2.1 (pAdd (lat now t) last V).2.2 w' := by
  obtain ⟨L, hM, rfl, h3, h4⟩ := h
  unfold pAdd
  rw [List.length_map]
  by_cases h8 : L.length = 8
  · rw [if_pos h8]
    refine (mbadd_many hM t 8 h8 rfl).mono ?_
    rintro e w' ⟨rfl, hm, ht⟩
    exact ⟨rfl, MS.mk2 h4 hm rfl (fun k hk => .inl (h3 k hk)) ht (fun k hk => h3 k (.inl hk))⟩
  · rw [if_neg h8]
    have hl := g.len
    rw [List.length_map] at hl
    have hno : mlook L (last + 1) = none := by
      refine mlook_none.2 (fun hk => ?_)
      obtain ⟨e, he, hke⟩ := List.mem_map.1 hk
      have := (g.el (rpV e) (List.mem_map.2 ⟨e, he, rfl⟩)).2.1
      have h9 : (rpV e).1 = e.1 := rfl
      have h10 : e.1 = last + 1 := hke
      omega
    refine (mbadd_ok hM t L.length rfl (by omega) g.last0 g.last9 hno).mono ?_
    rintro e w' ⟨q, rfl, hq, hm, ht⟩
    refine ⟨rfl, MS.mk2 h4 hm (by rw [List.map_append]; rfl) (fun k hk => ?_) ht (fun k hk => h3 k (hk.imp (fun h => h) (fun h => .inl h)))⟩
    rcases hk with hk | hk | ⟨e, he, hk⟩
    · exact .inl (h3 k (.inl hk))
    · exact .inl (h3 k (.inr (.inl hk)))
    · rcases List.mem_append.1 he with he | he
      · exact .inl (h3 k (.inr (.inr ⟨e, he, hk⟩)))
      · have he := List.mem_singleton.1 he
        subst he
        exact .inr (by rw [← hk]; exact hq)
theorem mf_same {L : List (Int × RpV)} {id : Int} {v v' : RpV} (hl : mlook L id = some v) (hv : v'.1 = v.1) (h3 : ∀ k, MF p m L k → F k) : ∀ k, MF p m (mput L id v') k → F k ∨ W.heap.size ≤ k := fun k hk => .inl (h3 k (mf_put hl hv k hk))
theorem mf_q {L : List (Int × RpV)} {id : Int} {v : RpV} (hl : mlook L id = some v) (h3 : ∀ k, MF p m L k → F k) : ∀ k, k = p ∨ k = v.1 → F k := fun k hk => by
  rcases hk with rfl | rfl
  · exact h3 _ (.inl rfl)
  · exact h3 _ (.inr (.inr ⟨_, mlook_mem hl, rfl⟩))
theorem msup (h : MS W F p m now last V) (g : PG now last V) (t id inc : Int) (hi0 : 0 ≤ inc) : Calls Try.prog 34 #[.pointer (some ⟨p, 0, none⟩), .int .i64 t, .int .u64 id, .int .u64 inc] W fun e w' => e = .returned (.tuple #[.bool (pUp (lat now t) id inc V).1.1, .int .i64 (pUp (lat now t) id inc V).1.2]) ∧ MR W F p m (lat now t) last (pUp (lat now t) id inc V).2 w' := by
  obtain ⟨L, hM, rfl, h3, h4⟩ := h
  unfold pUp
  cases hk : mlook (L.map rpV) id with
  | none =>
    refine (mbup_miss hM t id inc (view_none hk)).mono ?_
    rintro e w' ⟨rfl, hm, ht⟩
    exact ⟨rfl, MS.mk2 h4 hm rfl (fun k hk => .inl (h3 k hk)) ht (fun k hk => h3 k (.inl hk))⟩
  | some r =>
    obtain ⟨q, hl⟩ := view_some hk
    dsimp only
    by_cases ha : inc = 0 ∨ inc < r.2.1
    · rw [if_pos ha]
      refine (mbup_arg hM t id inc _ hl ha).mono ?_
      rintro e w' ⟨rfl, hm, ht⟩
      exact ⟨rfl, MS.mk2 h4 hm rfl (fun k hk => .inl (h3 k hk)) ht (fun k hk => h3 k (.inl hk))⟩
    · rw [if_neg ha]
      refine (mbup_ok hM t id inc _ hl (by omega) (by dsimp only; omega)).mono ?_
      rintro e w' ⟨rfl, hm, ht⟩
      refine ⟨rfl, MS.mk2 h4 hm ?_ (mf_same hl rfl h3) ht (mf_q hl h3)⟩
      rw [← view_put L id q]
      congr 2
      unfold upV uS entV eS
      split
      · rfl
      · split <;> rfl
theorem msleave (st t id : Int) {f : FuncId} (h : MS W F p m now last V)
    (hm0 : ∀ L, Mb W p m now last L → mlook L id = none → Calls Try.prog f #[.pointer (some ⟨p, 0, none⟩), .int .i64 t, .int .u64 id] W (ErrR W p m (lat now t) last L p 6))
    (hm1 : ∀ L v, Mb W p m now last L → mlook L id = some v → v.2.1 = 3 → Calls Try.prog f #[.pointer (some ⟨p, 0, none⟩), .int .i64 t, .int .u64 id] W (ErrR W p m (lat now t) last L v.1 10))
    (hm2 : ∀ L v, Mb W p m now last L → mlook L id = some v → v.2.1 ≠ 3 → Calls Try.prog f #[.pointer (some ⟨p, 0, none⟩), .int .i64 t, .int .u64 id] W (ErrR W p m (lat now t) last (mput L id (entV (lat now t) st v)) v.1 0)) :
    Calls Try.prog f #[.pointer (some ⟨p, 0, none⟩), .int .i64 t, .int .u64 id] W fun e w' => e = .returned (.int .i64 (pLeave st (lat now t) id V).1) ∧ MR W F p m (lat now t) last (pLeave st (lat now t) id V).2 w' := by
  obtain ⟨L, hM, rfl, h3, h4⟩ := h
  unfold pLeave
  cases hk : mlook (L.map rpV) id with
  | none =>
    refine (hm0 L hM (view_none hk)).mono ?_
    rintro e w' ⟨rfl, hm, ht⟩
    exact ⟨rfl, MS.mk2 h4 hm rfl (fun k hk => .inl (h3 k hk)) ht (fun k hk => h3 k (.inl (hk.elim (fun h => h) (fun h => h))))⟩
  | some r =>
    obtain ⟨q, hl⟩ := view_some hk
    dsimp only
    by_cases ha : r.1 = 3
    · rw [if_pos ha]
      refine (hm1 L _ hM hl ha).mono ?_
      rintro e w' ⟨rfl, hm, ht⟩
      exact ⟨rfl, MS.mk2 h4 hm rfl (fun k hk => .inl (h3 k hk)) ht (mf_q hl h3)⟩
    · rw [if_neg ha]
      refine (hm2 L _ hM hl ha).mono ?_
      rintro e w' ⟨rfl, hm, ht⟩
      refine ⟨rfl, MS.mk2 h4 hm ?_ (mf_same hl (entV_q _ _ _) h3) ht (mf_q hl h3)⟩
      rw [← view_put L id q]
      congr 2
      unfold entV eS
      split <;> rfl
theorem mslost (h : MS W F p m now last V) (t id : Int) : Calls Try.prog 30 #[.pointer (some ⟨p, 0, none⟩), .int .i64 t, .int .u64 id] W fun e w' => e = .returned (.int .i64 (pLeave 4 (lat now t) id V).1) ∧ MR W F p m (lat now t) last (pLeave 4 (lat now t) id V).2 w' :=
  msleave 4 t id h (fun L hM hl => mblost_miss hM t id hl) (fun L v hM hl hs => mblost_state hM t id v hl hs) (fun L v hM hl hs => mblost_ok hM t id v hl hs)
theorem msdrain (h : MS W F p m now last V) (t id : Int) : Calls Try.prog 31 #[.pointer (some ⟨p, 0, none⟩), .int .i64 t, .int .u64 id] W fun e w' => e = .returned (.int .i64 (pLeave 3 (lat now t) id V).1) ∧ MR W F p m (lat now t) last (pLeave 3 (lat now t) id V).2 w' :=
  msleave 3 t id h (fun L hM hl => mbdrain_miss hM t id hl) (fun L v hM hl hs => mbdrain_state hM t id v hl hs) (fun L v hM hl hs => mbdrain_ok hM t id v hl hs)
theorem msremove (h : MS W F p m now last V) (g : PG now last V) (t id wt : Int) : Calls Try.prog 32 #[.pointer (some ⟨p, 0, none⟩), .int .i64 t, .int .u64 id, .int .i64 wt] W fun e w' => e = .returned (.int .i64 (pRem (lat now t) id wt V).1) ∧ MR W F p m (lat now t) last (pRem (lat now t) id wt V).2 w' := by
  obtain ⟨L, hM, rfl, h3, h4⟩ := h
  have hlt := lat_le now t g.now9
  unfold pRem
  cases hk : mlook (L.map rpV) id with
  | none =>
    refine (mbremove_miss hM t id wt (view_none hk)).mono ?_
    rintro e w' ⟨rfl, hm, ht⟩
    exact ⟨rfl, MS.mk2 h4 hm rfl (fun k hk => .inl (h3 k hk)) ht (fun k hk => h3 k (.inl (hk.elim (fun h => h) (fun h => h))))⟩
  | some r =>
    obtain ⟨q, hl⟩ := view_some hk
    have hr := (g.el (id, r) (mlook_mem hk)).2.2.2.2.2
    dsimp only at hr ⊢
    by_cases ha : RemB (lat now t) wt r
    · rw [if_pos ha]
      refine (mbremove_ok hM t id wt _ hl ⟨hr.1, by dsimp only; omega, hlt.2⟩ ha).mono ?_
      rintro e w' ⟨rfl, hm, ht⟩
      refine ⟨rfl, MS.mk2 h4 hm (view_del L id) (fun k hk => ?_) ht (fun k hk => h3 k (hk.imp (fun h => h) (fun h => .inl h)))⟩
      rcases hk with hk | hk | ⟨e, he, hk⟩
      · exact .inl (h3 k (.inl hk))
      · exact .inl (h3 k (.inr (.inl hk)))
      · exact .inl (h3 k (.inr (.inr ⟨e, (mdel_sub L id).subset he, hk⟩)))
    · rw [if_neg ha]
      refine (mbremove_state hM t id wt _ hl ⟨hr.1, by dsimp only; omega, hlt.2⟩ ha).mono ?_
      rintro e w' ⟨rfl, hm, ht⟩
      exact ⟨rfl, MS.mk2 h4 hm rfl (fun k hk => .inl (h3 k hk)) ht (mf_q hl h3)⟩
theorem msbind (h : MS W F p m now last V) (g : PG now last V) (id b : Int) : Calls Try.prog 33 #[.pointer (some ⟨p, 0, none⟩), .int .u64 id, .int .i64 b] W fun e w' => e = .returned (.int .i64 (pBind id b V).1) ∧ MR W F p m now last (pBind id b V).2 w' := by
  obtain ⟨L, hM, rfl, h3, h4⟩ := h
  have hl0 := lat_0 now g.now0
  unfold pBind
  cases hk : mlook (L.map rpV) id with
  | none =>
    refine (mbbind_miss hM id b (view_none hk)).mono ?_
    rintro e w' ⟨rfl, hm, ht⟩
    rw [hl0] at hm
    exact ⟨rfl, MS.mk2 h4 hm rfl (fun k hk => .inl (h3 k hk)) ht (fun k hk => h3 k (.inl (hk.elim (fun h => h) (fun h => h))))⟩
  | some r =>
    obtain ⟨q, hl⟩ := view_some hk
    have hr := (g.el (id, r) (mlook_mem hk)).2.2.2.2.1
    dsimp only at hr ⊢
    by_cases ha : b < -r.2.2.1 ∨ 1048576 - r.2.2.1 < b
    · rw [if_pos ha]
      refine (mbbind_arg hM id b _ hl hr ha).mono ?_
      rintro e w' ⟨rfl, hm, ht⟩
      rw [hl0] at hm
      exact ⟨rfl, MS.mk2 h4 hm rfl (fun k hk => .inl (h3 k hk)) ht (mf_q hl h3)⟩
    · rw [if_neg ha]
      refine (mbbind_ok hM id b _ hl hr (by dsimp only; omega)).mono ?_
      rintro e w' ⟨rfl, hm, ht⟩
      rw [hl0] at hm
      exact ⟨rfl, MS.mk2 h4 hm (view_put L id q _) (mf_same hl rfl h3) ht (mf_q hl h3)⟩
theorem msall (h : MS W F p m now last V) (g : PG now last V) : Calls Try.prog 28 #[.pointer (some ⟨p, 0, none⟩)] W fun e w' => ∃ v, e = .returned v ∧ KRp.R 75 w' W.heap.size (fun _ => True) v V ∧ Below W.heap.size W w' := by
  obtain ⟨L, hM, rfl, h3, h4⟩ := h
  exact mball_in hM (MS.asc g.asc) (by have := g.len; rw [List.length_map] at this; omega)
theorem mslive (h : MS W F p m now last V) (g : PG now last V) : Calls Try.prog 37 #[.pointer (some ⟨p, 0, none⟩)] W fun e w' => e = .returned (.int .i64 (liveN V)) ∧ Below W.heap.size W w' := by
  obtain ⟨L, hM, rfl, h3, h4⟩ := h
  exact mblive_in hM (MS.asc g.asc) (by have := g.len; rw [List.length_map] at this; omega)
theorem msnow (h : MS W F p m now last V) : Calls Try.prog 47 #[.pointer (some ⟨p, 0, none⟩)] W fun e w' => e = .returned (.int .i64 now) ∧ W = w' := by
  obtain ⟨L, hM, rfl, h3, h4⟩ := h
  exact mbnow_in hM
theorem msnew (W : World) : Calls Try.prog 26 #[] W fun e w' => ∃ p m, e = .returned (.pointer (some ⟨p, 0, none⟩)) ∧ MS w' (fun k => W.heap.size ≤ k ∧ k < w'.heap.size) p m 0 0 [] ∧ Below W.heap.size W w' := by
  refine (mbnew_any W).mono ?_
  rintro e w' ⟨q, m, rfl, hm, hq, hm2, hb⟩
  refine ⟨q, m, rfl, ⟨[], hm, rfl, fun k hk => ⟨?_, hm.fl k hk⟩, fun k hk => hk.2⟩, hb⟩
  rcases hk with rfl | rfl | ⟨e, he, -⟩
  · exact hq
  · exact hm2
  · cases he
end
end Go.Proofs.Ytmbhicjjbgbneaa
