/- The program's table and the document's, side by side. -/
import Derived.Test.YtmbhicjjbgbneaaAdN
namespace Go.Proofs.Ytmbhicjjbgbneaa
open Go.RowKit Go.Shelf Go.Proofs.YtmbhicjjbgbneaaW.PrintWords Go.Proofs.YtmbhicjjbgbneaaW.PrintLast Go.Proofs.YtmbhicjjbgbneaaW.PrintMore
set_option linter.unusedVariables false
set_option linter.unusedSimpArgs false
set_option maxRecDepth 100000
set_option maxHeartbeats 1000000 in
theorem adover_in {W : World} {p mA mP : Nat} {st : TSet} {all : List (Int × Int)} {past : List Int} {lv : Value} (h : Tt W p mA mP st all past lv) {line : List Int} (hL : LnR W 0 lv line) (s v : Int) (hs : mlook all s = some v) (hp : s ∉ past) (n : Nat) (hn : line.length = n) (h9 : n < 4096) :
    Calls Try.prog 17 #[.pointer (some ⟨p, 0, none⟩), .int .u64 s] W fun e w' => e = .returned (.int .i64 0) ∧ ∃ lv', Tt w' p mA mP st (mdel all s) (past ++ [s]) lv' ∧ LnR w' 0 lv' (line ++ [s]) ∧ Tn (fun k => k = p ∨ k = mA ∨ k = mP ∨ lv.ownBlock = some k) W w' ∧ (lv'.ownBlock = lv.ownBlock ∨ ∃ b, lv'.ownBlock = some b ∧ W.heap.size ≤ b) := by
  have HO := Lib.hid (adok_in h)
  have k0 := h.cA
  have hlk := run_mlook (P := Try.prog) Try.underlying54 (key_int Try.underlying22) (zu64 W) h.all_ s true
  rw [encA_look, hs] at hlk
  have hlk' : (Instr.lookup 54 (.map (some mA)) (.int .u64 s) true).run Try.prog W = .ok (.tuple #[.int .u64 v, .bool true]) W := hlk
  obtain ⟨w1, hdel, hm1, hg1, -⟩ := run_mdel (P := Try.prog) Try.underlying54 (key_int Try.underlying22) h.all_ s 22 0
  rw [encA_del] at hm1
  have hpm := h.pm
  have hP1 := h.past_.grown hg1 (fun e => h.ne (by injection e with e; exact e.symm))
  have hbx1 : w1.heap[p]? = some (.cells (st.cells mA mP lv) 56 (0, 0)) := (hg1.block p (blk_lt h.box) (fun e => hpm.1 (by injection e))).trans h.box
  obtain ⟨w2, hput, hm2, hg2, -⟩ := run_mput (P := Try.prog) Try.underlying53 (key_int Try.underlying22) hP1 s (.bool true)
  rw [mput_none _ _ _ (by rw [encP_look, if_neg hp])] at hm2
  have hm2' : IsMp (Value.int .u64) w2 mP (encP (past ++ [s])) := by
    have e : encP past ++ [(s, Value.bool true)] = encP (past ++ [s]) := by unfold encP; rw [List.map_append]; rfl
    rw [← e]; exact hm2
  have hA2 := hm1.grown hg2 (fun e => h.ne (by injection e))
  have hbx2 := (hg2.block p (blk_lt hbx1) (fun e => hpm.2 (by injection e))).trans hbx1
  obtain ⟨es0, cl0, hmp0, -⟩ := h.all_
  obtain ⟨es1, cl1, hmp1, -⟩ := hP1
  have hL1 : LnR w1 0 lv line := hL.kept (fun k hb hlt hc => hg1.block k hlt (fun e => by
    injection e with e; subst e
    obtain ⟨cells, hc⟩ := hc
    rw [hmp0] at hc; cases hc))
  have hL2 : LnR w2 0 lv line := hL1.kept (fun k hb hlt hc => hg2.block k hlt (fun e => by
    injection e with e; subst e
    obtain ⟨cells, hc⟩ := hc
    rw [hmp1] at hc; cases hc))
  have hnp : some p ≠ lv.ownBlock := fun e => by
    obtain ⟨⟨cells, hc⟩, -⟩ := hL2.typed p e.symm
    rw [hbx2] at hc
    injection hc with hc
    injection hc with _ hc
    exact absurd hc (by decide)
  have hnA : some mA ≠ lv.ownBlock := fun e => by
    obtain ⟨⟨cells, hc⟩, -⟩ := hL2.typed mA e.symm
    obtain ⟨es, cl, hb, -⟩ := hA2
    rw [hb] at hc; cases hc
  have hnP : some mP ≠ lv.ownBlock := fun e => by
    obtain ⟨⟨cells, hc⟩, -⟩ := hL2.typed mP e.symm
    obtain ⟨es, cl, hb, -⟩ := hm2'
    rw [hb] at hc; cases hc
  have hT2 := ((Tn.refl (fun k => k = p ∨ k = mA ∨ k = mP ∨ lv.ownBlock = some k) W).grown hg1 (.inl (.inr (.inl rfl)))).grown hg2 (.inl (.inr (.inr (.inl rfl))))
  have hTT2 : Tt w2 p mA mP st (mdel all s) (past ++ [s]) lv := ⟨hbx2, hA2, hm2', h.ne⟩
  obtain ⟨A, c, hlv, hc, -⟩ := Kd.R_reads hL2
  rw [hn] at hlv hc
  subst hlv
  have HL2 := Lib.hid hL2
  have HT2 := Lib.hid hT2
  have HTT := Lib.hid hTT2
  have HN := Lib.hid hn
  have HBS := Lib.hid (Nat.zero_le w2.heap.size)
  have HNP := Lib.hid (And.intro hnp (And.intro hnA hnP))
  have k1 : w1.cell? ⟨p, 11, none⟩ = some (.map (some mP)) := blk_cell hbx1 11
  have k2 : w2.cell? ⟨p, 12, none⟩ = some (.slice A n c) := blk_cell hbx2 12
  have k3 : ∀ o, (w2.alloc o).cell? ⟨p, 12, none⟩ = some (.slice A n c) := fun o => pw_cell_below (below_alloc (Below.refl _ _) o) k2
  have hn9 : n + 1 ≤ 4096 := by omega
  clear h hlk hm1 hpm hbx1 hbx2 hm2 hm2' hA2 hmp0 hmp1 hL hL1 hL2 hnp hnA hnP hT2 hTT2 hn hg1 hg2 hs hp
  go_enter Try.func17, Try.ntmps17
  go_wp2_with fail
  refine HO.out.mono ?_
  rintro e w' ⟨rfl, rfl⟩
  go_wp2_with (at_builtin; refine Kd.R_append (Kd.int .u64) (w0 := w2) (W := w2) 0 rfl _ _ 38 22 (.int .u64 0) 8 rfl Try.underlying38 infoU64 (by rfl) (by decide) (by decide) (.slice A n c) line s [.int .u64 s] (fun _ => True) (fun _ => False) (by rfl) (by rfl) rfl (fun _ h => h.elim) (fun _ _ => trivial) HL2.out (Below.refl _ _) HBS.out (by rw [HN.out]; omega) ?_; intro v4 w4 hr4 hb4 hg4 hat4; obtain ⟨A4, c4, hv4, hc4, -⟩ := Kd.R_reads hr4; rw [List.length_append, HN.out] at hv4; replace hv4 : v4 = .slice A4 (n + 1) c4 := hv4; subst hv4; have HL4 := Lib.hid (show LnR w4 0 (.slice A4 (n + 1) c4) (line ++ [s]) from hr4); have HT4 := Lib.hid (HT2.out.grownO hg4 (fun b hb => .inl (.inr (.inr (.inr hb))))); have hbx4 := (hg4.block p (blk_lt HTT.out.box) HNP.out.1).trans HTT.out.box; have HA4 := Lib.hid (And.intro (HTT.out.all_.grown hg4 HNP.out.2.1) (HTT.out.past_.grown hg4 HNP.out.2.2)); have HBX4 := Lib.hid hbx4; have k4 := blk_cell hbx4 12; have f4 := blk_frozen hbx4 12; have HAT4 := Lib.hid hat4; clear hr4 hb4 hg4 hat4 hc4 hbx4)
  go_ret
  have hset := blk_set HBX4.out 12 (.slice A4 (n + 1) c4)
  refine ⟨rfl, .slice A4 (n + 1) c4, ⟨hset, HA4.out.1.set (Ne.symm HTT.out.pm.1) _, HA4.out.2.set (Ne.symm HTT.out.pm.2) _, HTT.out.ne⟩, HL4.out.kept (fun k hb hlt hc => Below.heap_setCell _ ⟨p, 12, none⟩ _ k (fun e => ?_)), HT4.out.put p 12 _ (.inl (.inl rfl)), HAT4.out.imp id (fun ⟨b, h1, h2⟩ => ⟨b, h1, Nat.le_trans HT2.out.size h2⟩)⟩
  subst e
  obtain ⟨cells, hc⟩ := hc
  rw [HBX4.out] at hc
  injection hc with hc
  injection hc with _ hc
  exact absurd hc (by decide)
/-- A table at p; its blocks within F. -/
def AF (W : World) (F : Nat → Prop) (p mA mP : Nat) (st : TSet) (all : List Sm) (past : List Int) : Prop := ∃ lv, Tt W p mA mP st all past lv ∧ LnR W 0 lv past ∧ (F p ∧ F mA ∧ F mP) ∧ (∀ k, lv.ownBlock = some k → F k) ∧ (∀ k, F k → k < W.heap.size)
section
variable {W W' : World} {F G : Nat → Prop} {p mA mP q : Nat} {st : TSet} {all V : List Sm} {past P : List Int}
theorem AF.lt (h : AF W F p mA mP st all past) : ∀ k, F k → k < W.heap.size := h.choose_spec.2.2.2.2
theorem AF.keep (h : AF W F p mA mP st all past) (ht : Tn G W W') (hd : ∀ k, F k → ¬ G k) : AF W' F p mA mP st all past := by
  obtain ⟨lv, h1, h2, ⟨f1, f2, f3⟩, h4, h5⟩ := h
  have hb : ∀ k, F k → W'.heap[k]? = W.heap[k]? := fun k hk => ht.block k (h5 k hk) (hd k hk)
  exact ⟨lv, ⟨(hb p f1).trans h1.box, h1.all_.move (hb mA f2), h1.past_.move (hb mP f3), h1.ne⟩, h2.move (fun k hk => hb k (h4 k hk)), ⟨f1, f2, f3⟩, h4, fun k hk => Nat.lt_of_lt_of_le (h5 k hk) ht.size⟩
theorem AF.below (h : AF W F p mA mP st all past) (hb : Below W.heap.size W W') : AF W' F p mA mP st all past := h.keep (G := fun _ => False) (Tn.of hb) (fun _ _ h => h)
theorem af_take (h : AF W F p mA mP st all past) (hl : all.length ≤ 1000000) (s u sd most : Int) (A : Option Addr) (cp : Nat) (xs : List Int) (hx : (Kd.int .i64).C W A xs.length xs) :
    Calls Try.prog 19 #[.pointer (some ⟨p, 0, none⟩), .int .u64 s, .int .u64 u, .agg #[.int .u64 sd, .slice A xs.length cp, .int .i64 most]] W fun e w' =>
      e = .returned (.int .i64 (askV st all past s u xs.length (decide (Jok st.cfg xs most)) most)) ∧ AF w' (Nw W w' F) p mA mP st (if askV st all past s u xs.length (decide (Jok st.cfg xs most)) most = 0 then mput all s u else all) past ∧ Tn F W w' := by
  obtain ⟨lv, h1, h2, ⟨f1, f2, f3⟩, h4, h5⟩ := h
  refine (adtake_in h1 hl s u sd most A cp xs hx).mono ?_
  rintro e w' ⟨rfl, ht, hn⟩
  obtain ⟨es, cl, hm, -⟩ := h1.all_
  have hn' : Tn F W w' := hn.mono (fun k hk => by rw [hk]; exact f2)
  refine ⟨rfl, ⟨lv, ht, h2.kept (fun k _ hk hc => hn.block k hk (fun e => ?_)), ⟨.inl f1, .inl f2, .inl f3⟩, fun k hk => .inl (h4 k hk), fun k hk => ?_⟩, hn'⟩
  · subst e
    obtain ⟨cells, hc⟩ := hc
    rw [hm] at hc; cases hc
  · rcases hk with hk | hk
    · exact Nat.lt_of_lt_of_le (h5 k hk) hn.size
    · exact hk.2
theorem af_over (h : AF W F p mA mP st all past) (s v : Int) (hs : mlook all s = some v) (hp : s ∉ past) (h9 : past.length < 4096) :
    Calls Try.prog 17 #[.pointer (some ⟨p, 0, none⟩), .int .u64 s] W fun e w' => e = .returned (.int .i64 0) ∧ AF w' (Nw W w' F) p mA mP st (mdel all s) (past ++ [s]) ∧ Tn F W w' := by
  obtain ⟨lv, h1, h2, ⟨f1, f2, f3⟩, h4, h5⟩ := h
  -- the line anew, from the world's end on or where it was
  refine (adover_in h1 h2 s v hs hp past.length rfl h9).mono ?_
  rintro e w' ⟨rfl, lv', ht, hl, hn, ho⟩
  have hn' : Tn F W w' := hn.mono (fun k hk => by
    rcases hk with rfl | rfl | rfl | hk
    · exact f1
    · exact f2
    · exact f3
    · exact h4 k hk)
  refine ⟨rfl, ⟨lv', ht, hl, ⟨.inl f1, .inl f2, .inl f3⟩, fun k hk => ?_, fun k hk => ?_⟩, hn'⟩
  · rcases ho with ho | ⟨b, ho, hb⟩
    · exact .inl (h4 k (by rw [← ho]; exact hk))
    · rw [ho] at hk
      injection hk with hk
      subst hk
      exact .inr ⟨hb, (hl.typed b ho).2.2⟩
  · rcases hk with hk | hk
    · exact Nat.lt_of_lt_of_le (h5 k hk) hn.size
    · exact hk.2
theorem af_tt (h : AF W F p mA mP st all past) : ∃ lv, Tt W p mA mP st all past lv := ⟨h.choose, h.choose_spec.1⟩
theorem af_new (W : World) (st : TSet) (hok : st.ok) : Calls Try.prog 9 #[st.v] W fun e w' => ∃ p mA mP, e = .returned (.tuple #[.pointer (some ⟨p, 0, none⟩), .int .i64 0]) ∧ AF w' (fun k => W.heap.size ≤ k ∧ k < w'.heap.size) p mA mP st [] [] ∧ Below W.heap.size W w' := by
  refine (adnew_ok W st hok).mono ?_
  rintro e w' ⟨p, mA, mP, rfl, ht, hge, hb⟩
  exact ⟨p, mA, mP, rfl, ⟨_, ht, Kd.R_nil _ _ _ _ _, ⟨⟨hge.1, blk_lt ht.box⟩, ⟨hge.2.1, ht.all_.lt⟩, hge.2.2, ht.past_.lt⟩, fun k hk => by simp [Value.ownBlock] at hk, fun k hk => hk.2⟩, hb⟩
theorem RGE.lt (h : RGE W G q st V P) : ∀ k, G k → k < W.heap.size := by
  obtain ⟨A, B, c, d, h⟩ := h
  exact h.lt
theorem RGE.keep (h : RGE W G q st V P) (ht : Tn F W W') (hd : ∀ k, G k → ¬ F k) : RGE W' G q st V P := by
  obtain ⟨A, B, c, d, h⟩ := h
  exact ⟨A, B, c, d, h.keep ht hd⟩
theorem RGE.below (h : RGE W G q st V P) (hb : Below W.heap.size W W') : RGE W' G q st V P := by
  obtain ⟨A, B, c, d, h⟩ := h
  exact ⟨A, B, c, d, h.below hb⟩
theorem RGE.up (h : RGE W' G q st V P) (ht : Tn G W W') : RGE W' (Nw W W' G) q st V P := by
  obtain ⟨A, B, c, d, h⟩ := h
  exact ⟨A, B, c, d, h.up ht⟩
theorem rge_ask (h : RGE W G q st V P) (hV : (V.length : Int) ≤ st.streams) (h8 : V.length ≤ 1000) (h9 : P.length ≤ 100000) (s u sd most : Int) (A9 : Option Addr) (cp : Nat) (xs : List Int) (hx : (Kd.int .i64).C W A9 xs.length xs) :
    Calls Try.prog 15 #[.pointer (some ⟨q, 0, none⟩), .int .u64 s, .int .u64 u, .agg #[.int .u64 sd, .slice A9 xs.length cp, .int .i64 most]] W fun e w' => e = .returned (.int .i64 (askV st V P s u xs.length (decide (Jok st.cfg xs most)) most)) ∧ Below W.heap.size W w' := by
  obtain ⟨A, B, c, d, h⟩ := h
  exact rgask h hV h8 h9 s u sd most A9 cp xs hx
theorem rge_take (h : RGE W G q st V P) (hV : (V.length : Int) ≤ st.streams) (h8 : V.length ≤ 1000) (h9 : P.length ≤ 100000) (s u sd most : Int) (A9 : Option Addr) (cp : Nat) (xs : List Int) (hx : (Kd.int .i64).C W A9 xs.length xs) :
    Calls Try.prog 20 #[.pointer (some ⟨q, 0, none⟩), .int .u64 s, .int .u64 u, .agg #[.int .u64 sd, .slice A9 xs.length cp, .int .i64 most]] W fun e w' => e = .returned (.int .i64 (askV st V P s u xs.length (decide (Jok st.cfg xs most)) most)) ∧ RGE w' (Nw W w' G) q st (if askV st V P s u xs.length (decide (Jok st.cfg xs most)) most = 0 then mput V s u else V) P ∧ Tn G W w' := by
  obtain ⟨A, B, c, d, h⟩ := h
  refine (rgtake h hV h8 h9 s u sd most A9 cp xs hx).mono ?_
  rintro e w' ⟨rfl, h1, h2⟩
  refine ⟨rfl, ?_, h2⟩
  by_cases hz : askV st V P s u xs.length (decide (Jok st.cfg xs most)) most = 0
  · rw [if_pos hz] at h1 ⊢
    rw [mput_none _ _ _ (ask_zero hz).1]
    exact h1
  · rw [if_neg hz] at h1 ⊢
    exact h1
/-- What Over answers, and leaves. -/
def ovC (V : List Sm) (s : Int) : Int := if (mlook V s).isSome then 0 else 6
def ovP (V : List Sm) (P : List Int) (s : Int) : List Int := if (mlook V s).isSome then P ++ [s] else P
theorem af_overall (h : AF W F p mA mP st all past) (hA : AI st all past) (s : Int) (h9 : past.length < 4096) :
    Calls Try.prog 17 #[.pointer (some ⟨p, 0, none⟩), .int .u64 s] W fun e w' => e = .returned (.int .i64 (ovC all s)) ∧ AF w' (Nw W w' F) p mA mP st (mdel all s) (ovP all past s) ∧ Tn F W w' := by
  unfold ovC ovP
  cases hs : mlook all s with
  | none =>
    obtain ⟨lv, h1, h2, ⟨f1, f2, f3⟩, h4, h5⟩ := h
    refine (adover_none h1 s hs).mono ?_
    rintro e w' ⟨rfl, rfl⟩
    rw [mdel_none _ _ hs]
    exact ⟨rfl, ⟨lv, h1, h2, ⟨.inl f1, .inl f2, .inl f3⟩, fun k hk => .inl (h4 k hk), fun k hk => by
      rcases hk with hk | hk
      · exact h5 k hk
      · exact hk.2⟩, Tn.refl _ _⟩
  | some v => exact af_over h s v hs (hA.dis s (look_some_mem hs)) h9
theorem rge_overall (h : RGE W G q st V P) (hn : (mkeys V).Nodup) (h8 : V.length ≤ 1000) (s : Int) (h9 : P.length < 4096) :
    Calls Try.prog 18 #[.pointer (some ⟨q, 0, none⟩), .int .u64 s] W fun e w' => e = .returned (.int .i64 (ovC V s)) ∧ RGE w' (Nw W w' G) q st (mdel V s) (ovP V P s) ∧ Tn G W w' := by
  obtain ⟨A, B, c, d, h⟩ := h
  unfold ovC ovP
  cases hs : mlook V s with
  | none =>
    refine (rgover_none h h8 s hs).mono ?_
    rintro e w' ⟨rfl, rfl⟩
    rw [mdel_none _ _ hs]
    exact ⟨rfl, ⟨A, B, c, d, h.up (Tn.refl _ _)⟩, Tn.refl _ _⟩
  | some v => exact rgover_ok h hn h8 h9 s v hs
theorem ai_over {st : TSet} (hA : AI st all past) (s : Int) : AI st (mdel all s) (ovP all past s) := by
  unfold ovP
  cases hs : mlook all s with
  | none => rw [mdel_none _ _ hs]; exact hA
  | some v => exact hA.over hs
theorem ovP_len (all : List Sm) (past : List Int) (s : Int) : (ovP all past s).length ≤ past.length + 1 := by
  unfold ovP
  split
  · rw [List.length_append, List.length_singleton]; exact Nat.le_refl _
  · omega
end
/-- Both tables, with blocks of their own from base on. -/
def PA (base : Nat) (wr : World) (F G : Nat → Prop) (p mA mP q : Nat) (st : TSet) (all : List Sm) (past : List Int) (V : List Sm) (P : List Int) : Prop := AF wr F p mA mP st all past ∧ RGE wr G q st V P ∧ (∀ k, F k → ¬ G k) ∧ (∀ k, F k → base ≤ k) ∧ (∀ k, G k → base ≤ k)
section
variable {base : Nat} {wr w3 : World} {F G : Nat → Prop} {p mA mP q : Nat} {st : TSet} {all V a2 V2 : List Sm} {past P p2 P2 : List Int}
theorem PA.mem (h : PA base wr F G p mA mP q st all past V P) (hm : AF w3 (Nw wr w3 F) p mA mP st a2 p2) (ht : Tn F wr w3) (hb : base ≤ wr.heap.size) : PA base w3 (Nw wr w3 F) G p mA mP q st a2 p2 V P := by
  obtain ⟨h1, h2, h3, h4, h5⟩ := h
  refine ⟨hm, h2.keep ht (fun k hk hf => h3 k hf hk), fun k hk hg => ?_, fun k hk => ?_, h5⟩
  · rcases hk with hk | hk
    · exact h3 k hk hg
    · have := h2.lt k hg; omega
  · rcases hk with hk | hk
    · exact h4 k hk
    · omega
theorem PA.ref (h : PA base wr F G p mA mP q st all past V P) (hr : RGE w3 (Nw wr w3 G) q st V2 P2) (ht : Tn G wr w3) (hb : base ≤ wr.heap.size) : PA base w3 F (Nw wr w3 G) p mA mP q st all past V2 P2 := by
  obtain ⟨h1, h2, h3, h4, h5⟩ := h
  refine ⟨h1.keep ht h3, hr, fun k hk hg => ?_, h4, fun k hk => ?_⟩
  · rcases hg with hg | hg
    · exact h3 k hk hg
    · have := h1.lt k hk; omega
  · rcases hk with hk | hk
    · exact h5 k hk
    · omega
theorem PA.below (h : PA base wr F G p mA mP q st all past V P) (hb : Below wr.heap.size wr w3) : PA base w3 F G p mA mP q st all past V P := by
  obtain ⟨h1, h2, h3, h4, h5⟩ := h
  exact ⟨h1.below hb, h2.below hb, h3, h4, h5⟩
theorem PA.bm (h : PA base wr F G p mA mP q st all past V P) (ht : Tn F wr w3) (hb : base ≤ wr.heap.size) : Below base wr w3 := ht.below h.2.2.2.1 hb
theorem PA.br (h : PA base wr F G p mA mP q st all past V P) (ht : Tn G wr w3) (hb : base ≤ wr.heap.size) : Below base wr w3 := ht.below h.2.2.2.2 hb
end
/-- Both tables are the same, in round i. -/
def PlA (w : World) (st : TSet) (p mA mP q : Nat) (i : Nat) (wr : World) : Prop := ∃ F G all past, PA w.heap.size wr F G p mA mP q st all past all past ∧ AI st all past ∧ past.length ≤ i ∧ Below w.heap.size w wr
theorem pla_new {w w2 : World} {st : TSet} {b0 p mA mP : Nat} (hok : st.ok) (h : AF w2 (fun k => b0 ≤ k ∧ k < w2.heap.size) p mA mP st [] []) (hb0 : w.heap.size ≤ b0) (hb : Below w.heap.size w w2) :
    PlA w st p mA mP w2.heap.size 0 (w2.alloc (.cells (st.rbox (.slice none 0 0) (.slice none 0 0)) 40)) := by
  have hb2 := below_alloc (Below.refl w2.heap.size w2) (.cells (st.rbox (.slice none 0 0) (.slice none 0 0)) 40)
  have hbx := heap_alloc_new w2 (.cells (st.rbox (.slice none 0 0) (.slice none 0 0)) 40)
  have hs := hb.size
  refine ⟨_, fun k => k = w2.heap.size, [], [], ⟨h.below hb2, ⟨none, none, 0, 0, hbx, Kd.R_nil _ _ _ _ _, Kd.R_nil _ _ _ _ _, rfl, fun k hk => by simp [Value.ownBlock] at hk, fun k hk => by simp [Value.ownBlock] at hk, fun k hk => by rw [show k = w2.heap.size from hk]; exact blk_lt hbx⟩, fun k hk e => ?_, fun k hk => ?_, fun k hk => ?_⟩, ai_new st hok, Nat.le_refl _, below_then hb hb.size hb2⟩
  · have := hk.2; dsimp only at e; omega
  · have := hk.1; omega
  · dsimp only at hk; omega
end Go.Proofs.Ytmbhicjjbgbneaa
