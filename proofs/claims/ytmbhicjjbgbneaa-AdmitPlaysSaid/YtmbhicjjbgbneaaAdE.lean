/- A table: Take, Over. -/
import Derived.Test.YtmbhicjjbgbneaaAdD
namespace Go.Proofs.Ytmbhicjjbgbneaa
open Go.RowKit Go.Shelf Go.Proofs.YtmbhicjjbgbneaaW.PrintWords Go.Proofs.YtmbhicjjbgbneaaW.PrintLast Go.Proofs.YtmbhicjjbgbneaaW.PrintMore
set_option linter.unusedVariables false
set_option linter.unusedSimpArgs false
set_option maxRecDepth 100000
theorem infoU64 : (Try.prog.info? 22).map (fun i => (i.zero, i.size, i.bytes)) = some (some (.int .u64 0), 1, 8) := by kernel_rfl
/-- A row of numbers of one's own. -/
def LnR (w : World) (base : Nat) (lv : Value) (line : List Int) : Prop := (Kd.int .u64).R 22 w base (fun _ => True) lv line
theorem LnR.kept {w w1 : World} {base : Nat} {lv : Value} {line : List Int} (h : LnR w base lv line) (hk : ∀ k, base ≤ k → k < w.heap.size → (∃ cells, w.heap[k]? = some (.cells cells 22 (0, 0))) → w1.heap[k]? = w.heap[k]?) : LnR w1 base lv line := by
  obtain ⟨h0, inner, hown, hr⟩ := h
  refine ⟨h0, inner, ?_, hr⟩
  refine own_move hown (fun k hk' => ?_)
  obtain ⟨cells, hc⟩ := own_typed hown k hk'
  have hb := own_base' hown
  rcases hb with hb | ⟨k2, hb, hle⟩
  · rw [hb] at hk'; cases hk'
  · rw [hb] at hk'; injection hk' with hk'; subst hk'
    exact hk k2 hle (blk_lt hc) ⟨cells, hc⟩
theorem LnR.typed {w : World} {base : Nat} {lv : Value} {line : List Int} (h : LnR w base lv line) (k : Nat) (hk : lv.ownBlock = some k) : (∃ cells, w.heap[k]? = some (.cells cells 22 (0, 0))) ∧ base ≤ k ∧ k < w.heap.size := by
  obtain ⟨h0, inner, hown, hr⟩ := h
  obtain ⟨cells, hc⟩ := own_typed hown k hk
  rcases own_base' hown with hb | ⟨k2, hb, hle⟩
  · rw [hb] at hk; cases hk
  · rw [hb] at hk; injection hk with hk; subst hk
    exact ⟨⟨cells, hc⟩, hle, blk_lt hc⟩
section
variable {W : World} {p mA mP : Nat} {st : TSet} {all : List (Int × Int)} {past : List Int} {lv : Value}
theorem Tt.pm (h : Tt W p mA mP st all past lv) : p ≠ mA ∧ p ≠ mP := by
  obtain ⟨es, cl, hb, -⟩ := h.all_
  obtain ⟨es2, cl2, hb2, -⟩ := h.past_
  have h1 := h.box
  constructor
  · rintro rfl; rw [hb] at h1; cases h1
  · rintro rfl; rw [hb2] at h1; cases h1
theorem Tt.take (h : Tt W p mA mP st all past lv) {w2 : World} (s u : Int) (hm : IsMp (Value.int .u64) w2 mA (mput (encA all) s (.int .u64 u))) (hg : W.grownBy w2 (some mA)) : Tt w2 p mA mP st (mput all s u) past lv := by
  rw [encA_put] at hm
  exact ⟨(hg.block p (blk_lt h.box) (fun e => h.pm.1 (by injection e))).trans h.box, hm, h.past_.grown hg (fun e => h.ne (by injection e with e; exact e.symm)), h.ne⟩
def TakeR (W : World) (p mA mP : Nat) (st : TSet) (all : List (Int × Int)) (past : List Int) (lv : Value) (s u R : Int) (e : Ending) (w' : World) : Prop := e = .returned (.int .i64 R) ∧ Tt w' p mA mP st (if R = 0 then mput all s u else all) past lv ∧ Tn (fun k => k = mA) W w'
set_option maxHeartbeats 1000000 in
theorem adtake_in (h : Tt W p mA mP st all past lv) (hl : all.length ≤ 1000000) (s u sd most : Int) (A : Option Addr) (cp : Nat) (xs : List Int) (hx : (Kd.int .i64).C W A xs.length xs) :
    Calls Try.prog 19 #[.pointer (some ⟨p, 0, none⟩), .int .u64 s, .int .u64 u, .agg #[.int .u64 sd, .slice A xs.length cp, .int .i64 most]] W (TakeR W p mA mP st all past lv s u (askV st all past s u xs.length (decide (Jok st.cfg xs most)) most)) := by
  have hb := below_alloc (Below.refl W.heap.size W) (.cells #[.int .u64 sd, .slice A xs.length cp, .int .i64 most] 44)
  have HA := Lib.hid (adask_in (h.below hb) hl s u sd most A cp xs (Kd.C_below hx hb))
  have HB := Lib.hid hb
  have HT := Lib.hid h
  obtain ⟨R, hR⟩ : ∃ R, askV st all past s u xs.length (decide (Jok st.cfg xs most)) most = R := ⟨_, rfl⟩
  rw [hR] at HA ⊢
  unfold TakeR
  obtain ⟨n, hn⟩ : ∃ n, xs.length = n := ⟨_, rfl⟩
  rw [hn] at HA HB ⊢
  clear h hb hx hR hn hl
  go_enter Try.func19, Try.ntmps19
  go_wp2_with fail
  refine HA.out.mono ?_
  rintro e w1 ⟨rfl, hb⟩
  have hbW := below_then HB.out HB.out.size hb
  have hT1 := HT.out.below hbW
  have HB1 := Lib.hid ((Tn.refl (fun k => k = mA) W).bel hbW)
  have HT1 := Lib.hid hT1
  have k0 := hT1.cA
  by_cases hr : R = 0
  · subst hr
    obtain ⟨w2, hrun, hmp, hg, -⟩ := run_mput (P := Try.prog) Try.underlying54 (key_int Try.underlying22) hT1.all_ s (.int .u64 u)
    have HE := Lib.hid (And.intro (hT1.take s u hmp hg) (HB1.out.grown hg (.inl rfl)))
    clear hb hbW hT1 hmp hg
    go_wp2_with fail
    go_ret
    exact ⟨rfl, HE.out.1, HE.out.2⟩
  · have hd : (R == 0) = false := by simpa using hr
    have HR := Lib.hid hr
    clear hb hbW hT1 hr
    go_wp2_with fail
    go_ret
    exact ⟨rfl, HT1.out, HB1.out⟩
def OverR (W : World) (base p mA mP : Nat) (st : TSet) (all : List (Int × Int)) (past line : List Int) (lv : Value) (s : Int) (e : Ending) (w' : World) : Prop :=
  e = .returned (.int .i64 0) ∧ ∃ lv', Tt w' p mA mP st (mdel all s) (past ++ [s]) lv' ∧ LnR w' base lv' (line ++ [s]) ∧ Tn (fun k => k = p ∨ k = mA ∨ k = mP ∨ lv.ownBlock = some k) W w'
set_option maxHeartbeats 1000000 in
theorem adover_ok (h : Tt W p mA mP st all past lv) (base : Nat) (line : List Int) (hL : LnR W base lv line) (hbs : base ≤ W.heap.size) (s v : Int) (hs : mlook all s = some v) (hp : s ∉ past) (n : Nat) (hn : line.length = n) (h9 : n < 4096) :
    Calls Try.prog 17 #[.pointer (some ⟨p, 0, none⟩), .int .u64 s] W (OverR W base p mA mP st all past line lv s) := by
  have HO := Lib.hid (adok_in h)
  have k0 := h.cA
  have hlk := run_mlook (P := Try.prog) Try.underlying54 (key_int Try.underlying22) (zu64 W) h.all_ s true
  rw [encA_look, hs] at hlk
  have hlk' : (Instr.lookup 54 (.map (some mA)) (.int .u64 s) true).run Try.prog W = .ok (.tuple #[.int .u64 v, .bool true]) W := hlk
  obtain ⟨w1, hdel, hm1, hg1, -⟩ := run_mdel (P := Try.prog) Try.underlying54 (key_int Try.underlying22) h.all_ s 22 0
  rw [encA_del] at hm1
  have hpm := h.pm
  have hP1 := h.past_.grown hg1 (fun e => h.ne (by injection e with e; exact e.symm))
  have hbx1 : w1.heap[p]? = some (.cells (st.cells mA mP lv) 56 (0, 0)) := (hg1.block p (blk_lt h.box) (fun e => hpm.1 (by injection e))).trans h.box
  obtain ⟨w2, hput, hm2, hg2, -⟩ := run_mput (P := Try.prog) Try.underlying53 (key_int Try.underlying22) hP1 s (.bool true)
  rw [mput_none _ _ _ (by rw [encP_look, if_neg hp])] at hm2
  have hm2' : IsMp (Value.int .u64) w2 mP (encP (past ++ [s])) := by
    have e : encP past ++ [(s, Value.bool true)] = encP (past ++ [s]) := by unfold encP; rw [List.map_append]; rfl
    rw [← e]; exact hm2
  have hA2 := hm1.grown hg2 (fun e => h.ne (by injection e))
  have hbx2 := (hg2.block p (blk_lt hbx1) (fun e => hpm.2 (by injection e))).trans hbx1
  obtain ⟨es0, cl0, hmp0, -⟩ := h.all_
  obtain ⟨es1, cl1, hmp1, -⟩ := hP1
  have hL1 : LnR w1 base lv line := hL.kept (fun k hb hlt hc => hg1.block k hlt (fun e => by
    injection e with e; subst e
    obtain ⟨cells, hc⟩ := hc
    rw [hmp0] at hc; cases hc))
  have hL2 : LnR w2 base lv line := hL1.kept (fun k hb hlt hc => hg2.block k hlt (fun e => by
    injection e with e; subst e
    obtain ⟨cells, hc⟩ := hc
    rw [hmp1] at hc; cases hc))
  have hnp : some p ≠ lv.ownBlock := fun e => by
    obtain ⟨⟨cells, hc⟩, -⟩ := hL2.typed p e.symm
    rw [hbx2] at hc
    injection hc with hc
    injection hc with _ hc
    exact absurd hc (by decide)
  have hnA : some mA ≠ lv.ownBlock := fun e => by
    obtain ⟨⟨cells, hc⟩, -⟩ := hL2.typed mA e.symm
    obtain ⟨es, cl, hb, -⟩ := hA2
    rw [hb] at hc; cases hc
  have hnP : some mP ≠ lv.ownBlock := fun e => by
    obtain ⟨⟨cells, hc⟩, -⟩ := hL2.typed mP e.symm
    obtain ⟨es, cl, hb, -⟩ := hm2'
    rw [hb] at hc; cases hc
  have hT2 := ((Tn.refl (fun k => k = p ∨ k = mA ∨ k = mP ∨ lv.ownBlock = some k) W).grown hg1 (.inl (.inr (.inl rfl)))).grown hg2 (.inl (.inr (.inr (.inl rfl))))
  have hTT2 : Tt w2 p mA mP st (mdel all s) (past ++ [s]) lv := ⟨hbx2, hA2, hm2', h.ne⟩
  obtain ⟨A, c, hlv, hc, -⟩ := Kd.R_reads hL2
  rw [hn] at hlv hc
  subst hlv
  have HL2 := Lib.hid hL2
  have HT2 := Lib.hid hT2
  have HTT := Lib.hid hTT2
  have HN := Lib.hid hn
  have HBS := Lib.hid (Nat.le_trans hbs hT2.size)
  have HNP := Lib.hid (And.intro hnp (And.intro hnA hnP))
  have k1 : w1.cell? ⟨p, 11, none⟩ = some (.map (some mP)) := blk_cell hbx1 11
  have k2 : w2.cell? ⟨p, 12, none⟩ = some (.slice A n c) := blk_cell hbx2 12
  have k3 : ∀ o, (w2.alloc o).cell? ⟨p, 12, none⟩ = some (.slice A n c) := fun o => pw_cell_below (below_alloc (Below.refl _ _) o) k2
  have hn9 : n + 1 ≤ 4096 := by omega
  clear h hlk hm1 hpm hbx1 hbx2 hm2 hm2' hA2 hmp0 hmp1 hL hL1 hL2 hnp hnA hnP hT2 hTT2 hn hbs hg1 hg2 hs hp
  unfold OverR
  go_enter Try.func17, Try.ntmps17
  go_wp2_with fail
  refine HO.out.mono ?_
  rintro e w' ⟨rfl, rfl⟩
  go_wp2_with (at_builtin; refine Kd.R_append (Kd.int .u64) (w0 := w2) (W := w2) base rfl _ _ 38 22 (.int .u64 0) 8 rfl Try.underlying38 infoU64 (by rfl) (by decide) (by decide) (.slice A n c) line s [.int .u64 s] (fun _ => True) (fun _ => False) (by rfl) (by rfl) rfl (fun _ h => h.elim) (fun _ _ => trivial) HL2.out (Below.refl _ _) HBS.out (by rw [HN.out]; omega) ?_; intro v4 w4 hr4 hb4 hg4 hat4; obtain ⟨A4, c4, hv4, hc4, -⟩ := Kd.R_reads hr4; rw [List.length_append, HN.out] at hv4; replace hv4 : v4 = .slice A4 (n + 1) c4 := hv4; subst hv4; have HL4 := Lib.hid (show LnR w4 base (.slice A4 (n + 1) c4) (line ++ [s]) from hr4); have HT4 := Lib.hid (HT2.out.grownO hg4 (fun b hb => .inl (.inr (.inr (.inr hb))))); have hbx4 := (hg4.block p (blk_lt HTT.out.box) HNP.out.1).trans HTT.out.box; have HA4 := Lib.hid (And.intro (HTT.out.all_.grown hg4 HNP.out.2.1) (HTT.out.past_.grown hg4 HNP.out.2.2)); have HBX4 := Lib.hid hbx4; have k4 := blk_cell hbx4 12; have f4 := blk_frozen hbx4 12; clear hr4 hb4 hg4 hat4 hc4 hbx4)
  go_ret
  have hset := blk_set HBX4.out 12 (.slice A4 (n + 1) c4)
  refine ⟨rfl, .slice A4 (n + 1) c4, ⟨hset, HA4.out.1.set (Ne.symm HTT.out.pm.1) _, HA4.out.2.set (Ne.symm HTT.out.pm.2) _, HTT.out.ne⟩, HL4.out.kept (fun k hb hlt hc => Below.heap_setCell _ ⟨p, 12, none⟩ _ k (fun e => ?_)), HT4.out.put p 12 _ (.inl (.inl rfl))⟩
  subst e
  obtain ⟨cells, hc⟩ := hc
  rw [HBX4.out] at hc
  injection hc with hc
  injection hc with _ hc
  exact absurd hc (by decide)
end
end Go.Proofs.Ytmbhicjjbgbneaa
