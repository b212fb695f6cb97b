/- A table with what is known of it: its footprint, Take and Over, what may be; a setting that comes in. -/
import Derived.Test.YtmbhicjjbgbneaaAdH
namespace Go.Proofs.Ytmbhicjjbgbneaa
open Go.RowKit Go.Shelf Go.Proofs.YtmbhicjjbgbneaaW.PrintWords Go.Proofs.YtmbhicjjbgbneaaW.PrintLast Go.Proofs.YtmbhicjjbgbneaaW.PrintMore
set_option linter.unusedVariables false
set_option linter.unusedSimpArgs false
set_option maxRecDepth 100000
def TSet.box (s : TSet) : Array Value := #[.int .u64 s.seed, .int .i64 s.vocab, .int .i64 s.dim, .int .i64 s.layers, .int .i64 s.top, .int .i64 s.heat, .int .i64 s.streams, .int .i64 s.each, .int .i64 s.prompt, .int .i64 s.most]
theorem LnR.weak {w : World} {base b2 : Nat} {lv : Value} {line : List Int} (h : LnR w base lv line) (hb : b2 ≤ base) : LnR w b2 lv line := by
  obtain ⟨h0, inner, hown, hr⟩ := h
  exact ⟨h0, inner, own_less hown hb, hr⟩
/-- A table at p, all its blocks from base on. -/
def AT (W : World) (base p mA mP : Nat) (st : TSet) (all : List (Int × Int)) (past : List Int) : Prop := ∃ lv, Tt W p mA mP st all past lv ∧ LnR W base lv past ∧ base ≤ p ∧ base ≤ mA ∧ base ≤ mP
/-- Its blocks. -/
def FA (W : World) (base p mA mP : Nat) : Nat → Prop := fun k => k = p ∨ k = mA ∨ k = mP ∨ (base ≤ k ∧ ∃ cells, W.heap[k]? = some (.cells cells 22 (0, 0)))
section
variable {W W' : World} {base p mA mP : Nat} {st : TSet} {all : List (Int × Int)} {past : List Int}
theorem AT.fa (h : AT W base p mA mP st all past) : ∀ k, FA W base p mA mP k → base ≤ k := by
  obtain ⟨lv, h1, h2, h3, h4, h5⟩ := h
  intro k hk
  rcases hk with rfl | rfl | rfl | hk
  · exact h3
  · exact h4
  · exact h5
  · exact hk.1
theorem fa_box {k : Nat} {cs : Array Value} {T : TypeId} (h : AT W base p mA mP st all past) (hb : W.heap[k]? = some (.cells cs T (0, 0))) (h1 : T ≠ 56) (h2 : T ≠ 22) : ¬ FA W base p mA mP k := by
  obtain ⟨lv, ht, -⟩ := h
  intro hk
  rcases hk with rfl | rfl | rfl | ⟨-, cells, hc⟩
  · rw [ht.box] at hb
    injection hb with hb
    injection hb with _ hb
    exact h1 hb.symm
  · obtain ⟨es, cl, hm, -⟩ := ht.all_
    rw [hm] at hb; cases hb
  · obtain ⟨es, cl, hm, -⟩ := ht.past_
    rw [hm] at hb; cases hb
  · rw [hc] at hb
    injection hb with hb
    injection hb with _ hb
    exact h2 hb.symm
theorem fa_map {k : Nat} {es : Array MapEntry} {cl : Nat} (h : AT W base p mA mP st all past) (hb : W.heap[k]? = some (.map es cl)) (h1 : k ≠ mA) (h2 : k ≠ mP) : ¬ FA W base p mA mP k := by
  obtain ⟨lv, ht, -⟩ := h
  intro hk
  rcases hk with rfl | rfl | rfl | ⟨-, cells, hc⟩
  · rw [ht.box] at hb; cases hb
  · exact h1 rfl
  · exact h2 rfl
  · rw [hc] at hb; cases hb
theorem AT.below (h : AT W base p mA mP st all past) (hb : Below W.heap.size W W') : AT W' base p mA mP st all past := by
  obtain ⟨lv, h1, h2, h3⟩ := h
  exact ⟨lv, h1.below hb, h2.kept (fun k _ hk _ => hb.block k hk), h3⟩
/-- Another map has grown. -/
theorem AT.grown {m : Nat} (h : AT W base p mA mP st all past) (hg : W.grownBy W' (some m)) (hF : ¬ FA W base p mA mP m) : AT W' base p mA mP st all past := by
  obtain ⟨lv, h1, h2, h3, h4, h5⟩ := h
  have hne : ∀ k, FA W base p mA mP k → some k ≠ some m := fun k hk e => by injection e with e; subst e; exact hF hk
  refine ⟨lv, ⟨(hg.block p (blk_lt h1.box) (hne p (.inl rfl))).trans h1.box, h1.all_.grown hg (hne mA (.inr (.inl rfl))), h1.past_.grown hg (hne mP (.inr (.inr (.inl rfl)))), h1.ne⟩, h2.kept (fun k hb hk hc => hg.block k hk (hne k (.inr (.inr (.inr ⟨hb, hc⟩))))), h3, h4, h5⟩
theorem at_take (h : AT W base p mA mP st all past) (hl : all.length ≤ 1000000) (s u sd most : Int) (A : Option Addr) (cp : Nat) (xs : List Int) (hx : (Kd.int .i64).C W A xs.length xs) :
    Calls Try.prog 19 #[.pointer (some ⟨p, 0, none⟩), .int .u64 s, .int .u64 u, .agg #[.int .u64 sd, .slice A xs.length cp, .int .i64 most]] W fun e w' =>
      e = .returned (.int .i64 (askV st all past s u xs.length (decide (Jok st.cfg xs most)) most)) ∧ AT w' base p mA mP st (if askV st all past s u xs.length (decide (Jok st.cfg xs most)) most = 0 then mput all s u else all) past ∧ Tn (FA W base p mA mP) W w' := by
  obtain ⟨lv, h1, h2, h3⟩ := h
  refine (adtake_in h1 hl s u sd most A cp xs hx).mono ?_
  rintro e w' ⟨rfl, ht, hn⟩
  obtain ⟨es, cl, hm, -⟩ := h1.all_
  refine ⟨rfl, ⟨lv, ht, h2.kept (fun k _ hk hc => hn.block k hk (fun e => ?_)), h3⟩, hn.mono (fun k hk => .inr (.inl hk))⟩
  subst e
  obtain ⟨cells, hc⟩ := hc
  rw [hm] at hc; cases hc
theorem at_over (h : AT W base p mA mP st all past) (hbs : base ≤ W.heap.size) (s v : Int) (hs : mlook all s = some v) (hp : s ∉ past) (h9 : past.length < 4096) :
    Calls Try.prog 17 #[.pointer (some ⟨p, 0, none⟩), .int .u64 s] W fun e w' => e = .returned (.int .i64 0) ∧ AT w' base p mA mP st (mdel all s) (past ++ [s]) ∧ Tn (FA W base p mA mP) W w' := by
  obtain ⟨lv, h1, h2, h3⟩ := h
  refine (adover_ok h1 base past h2 hbs s v hs hp past.length rfl h9).mono ?_
  rintro e w' ⟨rfl, lv', ht, hl, hn⟩
  refine ⟨rfl, ⟨lv', ht, hl, h3⟩, hn.mono (fun k hk => ?_)⟩
  rcases hk with hk | hk | hk | hk
  · exact .inl hk
  · exact .inr (.inl hk)
  · exact .inr (.inr (.inl hk))
  · have := h2.typed k hk
    exact .inr (.inr (.inr ⟨this.2.1, this.1⟩))
theorem at_tt (h : AT W base p mA mP st all past) : ∃ lv, Tt W p mA mP st all past lv := ⟨h.choose, h.choose_spec.1⟩
end
/-- What holds of a table at all times. -/
structure AI (st : TSet) (all : List (Int × Int)) (past : List Int) : Prop where
  nd : (mkeys all).Nodup
  dis : ∀ k, k ∈ mkeys all → k ∉ past
  room : (all.length : Int) ≤ st.streams
  each : ∀ u, (cntS (encA all) u : Int) ≤ st.each
theorem cnt_app (all : List (Int × Int)) (s u v : Int) : cntS (encA (all ++ [(s, u)])) v = cntS (encA all) v + (if u = v then 1 else 0) := by
  have : encA (all ++ [(s, u)]) = encA all ++ [(s, .int .u64 u)] := by unfold encA; rw [List.map_append]; rfl
  rw [this, cntS_app]
  congr 1
  unfold cntS
  by_cases h : u = v
  · have hu : isU v (Value.int .u64 u) = true := decide_eq_true h
    rw [if_pos h, List.filter_cons_of_pos (by exact hu)]; rfl
  · have hu : ¬ isU v (Value.int .u64 u) = true := by show ¬ decide (u = v) = true; simpa using h
    rw [if_neg h, List.filter_cons_of_neg (by exact hu)]; rfl
theorem mdel_sub (all : List (Int × Int)) (s : Int) : (mdel all s).Sublist all := by
  induction all with
  | nil => exact List.Sublist.refl _
  | cons e l ih =>
    obtain ⟨a, u⟩ := e
    unfold mdel
    split
    · exact List.sublist_cons_self _ _
    · exact ih.cons_cons _
theorem cnt_del (all : List (Int × Int)) (s v : Int) : cntS (encA (mdel all s)) v ≤ cntS (encA all) v := by
  unfold cntS encA
  exact (((mdel_sub all s).map _).filter _).length_le
theorem look_some_mem {all : List (Int × Int)} {s v : Int} (h : mlook all s = some v) : s ∈ mkeys all := by
  false_or_by_contra
  rename_i hk
  rw [mlook_none.2 hk] at h
  cases h
theorem AI.over {st : TSet} {all : List (Int × Int)} {past : List Int} (h : AI st all past) {s v : Int} (hs : mlook all s = some v) : AI st (mdel all s) (past ++ [s]) := by
  refine ⟨mdel_nodup h.nd s, fun k hk => ?_, ?_, fun u => ?_⟩
  · rw [mdel_keys, h.nd.mem_erase_iff] at hk
    simp only [List.mem_append, List.mem_singleton, not_or]
    exact ⟨h.dis k hk.2, hk.1⟩
  · have h1 := h.room
    rw [mdel_len]
    split <;> omega
  · have h1 := h.each u
    have h2 := cnt_del all s u
    omega
theorem ask_zero {st : TSet} {all : List (Int × Int)} {past : List Int} {s u : Int} {n : Nat} {jb : Bool} {most : Int} (h : askV st all past s u n jb most = 0) : mlook all s = none ∧ s ∉ past ∧ (all.length : Int) ≠ st.streams ∧ (cntS (encA all) u : Int) < st.each := by
  unfold askV at h
  split at h
  · omega
  · split at h
    · omega
    · split at h
      · omega
      · rename_i hk
        split at h
        · omega
        · rename_i hl
          split at h
          · omega
          · rename_i he
            simp only [Bool.or_eq_true, Option.isSome_iff_ne_none, decide_eq_true_eq, not_or, ne_eq, Decidable.not_not] at hk
            exact ⟨hk.1, hk.2, hl, by omega⟩
theorem ask_three {st : TSet} {all : List (Int × Int)} {past : List Int} {s u : Int} {n : Nat} {jb : Bool} {most : Int} (h : askV st all past s u n jb most = 3) : s ∈ mkeys all ∨ s ∈ past := by
  unfold askV at h
  split at h
  · omega
  · split at h
    · omega
    · split at h
      · rename_i hk
        simp only [Bool.or_eq_true, decide_eq_true_eq] at hk
        rcases hk with hk | hk
        · left
          obtain ⟨v, hv⟩ := Option.isSome_iff_exists.1 hk
          exact look_some_mem hv
        · exact .inr hk
      · split at h
        · omega
        · split at h <;> omega
theorem AI.take {st : TSet} {all : List (Int × Int)} {past : List Int} (h : AI st all past) {s u : Int} {n : Nat} {jb : Bool} {most : Int} (hz : askV st all past s u n jb most = 0) : AI st (mput all s u) past := by
  obtain ⟨h1, h2, h3, h4⟩ := ask_zero hz
  have hr := h.room
  rw [mput_none _ _ _ h1]
  refine ⟨?_, fun k hk => ?_, ?_, fun v => ?_⟩
  · rw [← mput_none _ _ _ h1]; exact mput_nodup h.nd s u
  · unfold mkeys at hk
    rw [List.map_append] at hk
    rcases List.mem_append.1 hk with hk | hk
    · exact h.dis k hk
    · obtain rfl : k = s := by simpa using hk
      exact h2
  · rw [List.length_append, List.length_singleton]; omega
  · rw [cnt_app]
    have := h.each v
    split
    · rename_i e; subst e; omega
    · omega
/-- A map of what was met. -/
def encB (M : List (Int × Bool)) : List (Int × Value) := M.map (fun e => (e.1, .bool e.2))
theorem encB_look (M : List (Int × Bool)) (k : Int) : mlook (encB M) k = (mlook M k).map Value.bool := by
  induction M with
  | nil => rfl
  | cons e l ih =>
    obtain ⟨a, u⟩ := e
    show mlook ((a, Value.bool u) :: encB l) k = _
    unfold mlook
    split
    · rfl
    · exact ih
theorem encB_put (M : List (Int × Bool)) (k : Int) (v : Bool) : mput (encB M) k (.bool v) = encB (mput M k v) := by
  induction M with
  | nil => rfl
  | cons e l ih =>
    obtain ⟨a, u⟩ := e
    show mput ((a, Value.bool u) :: encB l) k _ = _
    unfold mput
    split
    · rfl
    · rw [ih]; rfl
def metV (M : List (Int × Bool)) (k : Int) : Bool := (mlook M k).getD false
theorem run_met {W : World} {mm : Nat} {M : List (Int × Bool)} (h : IsMp (Value.int .u64) W mm (encB M)) (k : Int) : (Instr.lookup 53 (.map (some mm)) (.int .u64 k) false).run Try.prog W = .ok (.bool (metV M k)) W := by
  have hl := run_mlook (P := Try.prog) Try.underlying53 (key_int Try.underlying22) (zbool W) h k false
  rw [encB_look] at hl
  unfold metV
  cases hs : mlook M k with
  | none => rw [hs] at hl; exact hl
  | some b => rw [hs] at hl; exact hl
/-- It holds what is there, and what is remembered. -/
def MetOk (M : List (Int × Bool)) (all : List (Int × Int)) (past : List Int) : Prop := ∀ k, metV M k = true ↔ (k ∈ mkeys all ∨ k ∈ past)
theorem MetOk.over {M : List (Int × Bool)} {all : List (Int × Int)} {past : List Int} (h : MetOk M all past) (hn : (mkeys all).Nodup) {s v : Int} (hs : mlook all s = some v) : MetOk M (mdel all s) (past ++ [s]) := fun k => by
  rw [h k, mdel_keys, hn.mem_erase_iff]
  have := look_some_mem hs
  simp only [List.mem_append, List.mem_singleton]
  by_cases e : k = s
  · subst e; simp [this]
  · simp [e]
theorem metV_put (M : List (Int × Bool)) (s k : Int) (b : Bool) : metV (mput M s b) k = if s = k then b else metV M k := by
  unfold metV
  rw [mlook_put]
  split <;> rfl
theorem MetOk.take {M : List (Int × Bool)} {all : List (Int × Int)} {past : List Int} (h : MetOk M all past) {s u : Int} (hs : mlook all s = none) : MetOk (mput M s true) (mput all s u) past := fun k => by
  rw [metV_put, mput_none _ _ _ hs]
  have : mkeys (all ++ [(s, u)]) = mkeys all ++ [s] := by unfold mkeys; rw [List.map_append]; rfl
  rw [this]
  by_cases e : s = k
  · subst e; simp
  · rw [if_neg e, h k]
    have e' : ¬ k = s := fun h => e h.symm
    simp [e']
theorem MetOk.same {M : List (Int × Bool)} {all : List (Int × Int)} {past : List Int} (h : MetOk M all past) (s : Int) : MetOk (mput M s (metV M s)) all past := fun k => by
  rw [metV_put]
  by_cases e : s = k
  · subst e; rw [if_pos rfl]; exact h s
  · rw [if_neg e]; exact h k
/-- A setting that comes in. -/
abbrev KC6 := Kd.pair (Kd.int .u64) (Kd.pair (Kd.int .i64) (Kd.pair (Kd.int .i64) (Kd.pair (Kd.int .i64) (Kd.pair (Kd.int .i64) (Kd.int .i64)))))
theorem op_c6 : Opens Try.prog 24 KC6 (fun x => (Lit.int .u64 x.1).wf = true ∧ (Lit.int .i64 x.2.1).wf = true ∧ (Lit.int .i64 x.2.2.1).wf = true ∧ (Lit.int .i64 x.2.2.2.1).wf = true ∧ (Lit.int .i64 x.2.2.2.2.1).wf = true ∧ (Lit.int .i64 x.2.2.2.2.2).wf = true) := by
  have h := Opens.struct Try.underlying24 (by kernel_rfl)
      (OpensFs.cons rfl (by kernel_rfl) (Opens.int Try.underlying22) (OpensFs.cons rfl (by kernel_rfl) (Opens.int Try.underlying3) (OpensFs.cons rfl (by kernel_rfl) (Opens.int Try.underlying3)
        (OpensFs.cons rfl (by kernel_rfl) (Opens.int Try.underlying3) (OpensFs.cons rfl (by kernel_rfl) (Opens.int Try.underlying3) (OpensFs.one rfl (by kernel_rfl) (Opens.int Try.underlying3)))))))
  exact h
abbrev KSt : Kd TSet := Kd.iso (Kd.pair KC6 (Kd.pair (Kd.int .i64) (Kd.pair (Kd.int .i64) (Kd.pair (Kd.int .i64) (Kd.int .i64))))) (fun s => ((s.seed, s.vocab, s.dim, s.layers, s.top, s.heat), s.streams, s.each, s.prompt, s.most))
def StW (s : TSet) : Prop := ((Lit.int .u64 s.seed).wf = true ∧ (Lit.int .i64 s.vocab).wf = true ∧ (Lit.int .i64 s.dim).wf = true ∧ (Lit.int .i64 s.layers).wf = true ∧ (Lit.int .i64 s.top).wf = true ∧ (Lit.int .i64 s.heat).wf = true) ∧ (Lit.int .i64 s.streams).wf = true ∧ (Lit.int .i64 s.each).wf = true ∧ (Lit.int .i64 s.prompt).wf = true ∧ (Lit.int .i64 s.most).wf = true
theorem op_st : Opens Try.prog 26 KSt StW := by
  have h := Opens.iso (fun s : TSet => ((s.seed, s.vocab, s.dim, s.layers, s.top, s.heat), s.streams, s.each, s.prompt, s.most)) (fun x => ⟨x.1.1, x.1.2.1, x.1.2.2.1, x.1.2.2.2.1, x.1.2.2.2.2.1, x.1.2.2.2.2.2, x.2.1, x.2.2.1, x.2.2.2.1, x.2.2.2.2⟩) (fun _ => rfl)
    (Opens.struct Try.underlying26 (by kernel_rfl)
      (OpensFs.cons rfl (by kernel_rfl) op_c6 (OpensFs.cons rfl (by kernel_rfl) (Opens.int Try.underlying3) (OpensFs.cons rfl (by kernel_rfl) (Opens.int Try.underlying3)
        (OpensFs.cons rfl (by kernel_rfl) (Opens.int Try.underlying3) (OpensFs.one rfl (by kernel_rfl) (Opens.int Try.underlying3)))))))
  exact h
theorem st_cells {w : World} {s : TSet} {cs : Array Value} (h : KSt.K w s cs.toList) : cs = #[.int .u64 s.seed, .int .i64 s.vocab, .int .i64 s.dim, .int .i64 s.layers, .int .i64 s.top, .int .i64 s.heat, .int .i64 s.streams, .int .i64 s.each, .int .i64 s.prompt, .int .i64 s.most] := by
  obtain ⟨q, r, e, ⟨c0, r0, e0, h0, c1, r1, e1, h1, c2, r2, e2, h2, c3, r3, e3, h3, c4, r4, e4, h4, h5⟩, c6, r6, e6, h6, c7, r7, e7, h7, c8, r8, e8, h8, h9⟩ := h
  have h0' : c0 = [.int .u64 s.seed] := h0
  have h1' : c1 = [.int .i64 s.vocab] := h1
  have h2' : c2 = [.int .i64 s.dim] := h2
  have h3' : c3 = [.int .i64 s.layers] := h3
  have h4' : c4 = [.int .i64 s.top] := h4
  have h5' : r4 = [.int .i64 s.heat] := h5
  have h6' : c6 = [.int .i64 s.streams] := h6
  have h7' : c7 = [.int .i64 s.each] := h7
  have h8' : c8 = [.int .i64 s.prompt] := h8
  have h9' : r8 = [.int .i64 s.most] := h9
  subst e8 e7 e6 e4 e3 e2 e1 e0 h0' h1' h2' h3' h4' h5' h6' h7' h8' h9'
  exact Array.toList_inj.1 e
theorem op_asteps : Opens Try.prog 27 (Kd.slice 46 KAStep) (fun xs => (∀ x ∈ xs, AStepG x) ∧ xs.length ≤ maxLen) := Opens.slice Try.underlying27 (by kernel_rfl) op_astep
theorem at_streams {W : World} {base p mA mP : Nat} {st : TSet} {all : List (Int × Int)} {past : List Int} (h : AT W base p mA mP st all past) (n : Nat) (hn : all.length = n) (hl : n ≤ 255) : Calls Try.prog 21 #[.pointer (some ⟨p, 0, none⟩)] W fun e w' => ∃ A c, e = .returned (.slice A n c) ∧ Below W.heap.size W w' := by
  obtain ⟨lv, ht⟩ := at_tt h
  refine (adstreams_in ht (by omega)).mono ?_
  rintro e w' ⟨ys, v, rfl, hp, -, hr, hb⟩
  obtain ⟨A, c, rfl⟩ := own_slice hr
  have hl : ys.length = n := by rw [hp.length_eq, ← hn]; unfold mkeys; rw [List.length_map]
  rw [hl]
  exact ⟨A, c, rfl, hb⟩
theorem at_ask {W : World} {base p mA mP : Nat} {st : TSet} {all : List (Int × Int)} {past : List Int} (h : AT W base p mA mP st all past) (hl : all.length ≤ 1000000) (s u sd most : Int) (A : Option Addr) (cp : Nat) (xs : List Int) (hx : (Kd.int .i64).C W A xs.length xs) :
    Calls Try.prog 16 #[.pointer (some ⟨p, 0, none⟩), .int .u64 s, .int .u64 u, .agg #[.int .u64 sd, .slice A xs.length cp, .int .i64 most]] W fun e w' => e = .returned (.int .i64 (askV st all past s u xs.length (decide (Jok st.cfg xs most)) most)) ∧ Below W.heap.size W w' := by
  obtain ⟨lv, ht⟩ := at_tt h
  exact adask_in ht hl s u sd most A cp xs hx
theorem at_of {W : World} {base p mA mP : Nat} {st : TSet} {all : List (Int × Int)} {past : List Int} (h : AT W base p mA mP st all past) (u : Int) (hl : all.length ≤ 1000000) : Calls Try.prog 22 #[.pointer (some ⟨p, 0, none⟩), .int .u64 u] W fun e w' => e = .returned (.int .i64 (cntS (encA all) u)) ∧ Below W.heap.size W w' := by
  obtain ⟨lv, ht⟩ := at_tt h
  exact adof_in ht u hl
theorem at_over_none {W : World} {base p mA mP : Nat} {st : TSet} {all : List (Int × Int)} {past : List Int} (h : AT W base p mA mP st all past) (s : Int) (hs : mlook all s = none) : Calls Try.prog 17 #[.pointer (some ⟨p, 0, none⟩), .int .u64 s] W fun e w' => e = .returned (.int .i64 6) ∧ W = w' := by
  obtain ⟨lv, ht⟩ := at_tt h
  exact adover_none ht s hs
theorem at_new (W : World) (st : TSet) (hok : st.ok) : Calls Try.prog 9 #[st.v] W fun e w' => ∃ p mA mP, e = .returned (.tuple #[.pointer (some ⟨p, 0, none⟩), .int .i64 0]) ∧ AT w' W.heap.size p mA mP st [] [] ∧ (p < w'.heap.size ∧ mA < w'.heap.size ∧ mP < w'.heap.size) ∧ Below W.heap.size W w' := by
  refine (adnew_ok W st hok).mono ?_
  rintro e w' ⟨p, mA, mP, rfl, ht, hge, hb⟩
  exact ⟨p, mA, mP, rfl, ⟨_, ht, Kd.R_nil _ _ _ _ _, hge⟩, ⟨blk_lt ht.box, ht.all_.lt, ht.past_.lt⟩, hb⟩
theorem ai_new (st : TSet) (hok : st.ok) : AI st [] [] := by
  have h1 := hok.2.1.1
  have h2 := hok.2.2.1.1
  refine ⟨List.nodup_nil, fun k hk => ?_, ?_, fun u => ?_⟩
  · exact absurd hk (by simp [mkeys])
  · show ((0 : Nat) : Int) ≤ _; omega
  · show ((0 : Nat) : Int) ≤ _; omega
end Go.Proofs.Ytmbhicjjbgbneaa
