/- A member list: Up, Get; the list that is alive. -/
import Derived.Test.YtmbhicjjbgbneaaMbD
namespace Go.Proofs.Ytmbhicjjbgbneaa
open Go.RowKit Go.Shelf Go.Proofs.YtmbhicjjbgbneaaW.PrintWords Go.Proofs.YtmbhicjjbgbneaaW.PrintLast Go.Proofs.YtmbhicjjbgbneaaW.PrintMore
set_option linter.unusedVariables false
set_option linter.unusedSimpArgs false
set_option maxRecDepth 100000
attribute [local go_sem] mb_max2
section
variable {W : World} {p m : Nat} {now last : Int} {L : List (Int × RpV)}
def UpR (W : World) (p m : Nat) (now last : Int) (L' : List (Int × RpV)) (q : Nat) (b : Bool) (e : Ending) (w' : World) : Prop := e = .returned (.tuple #[.bool b, .int .i64 0]) ∧ Mb w' p m now last L' ∧ Tn (fun k => k = p ∨ k = q) W w'
/-- A replica that is up. -/
def upV (now inc : Int) (v : RpV) : RpV := (v.1, (if v.2.1 = 3 then v else entV now 2 v).2.1, inc, if 0 < v.2.2.1 ∧ v.2.2.1 < inc then 0 else v.2.2.2.1, (if v.2.1 = 3 then v else entV now 2 v).2.2.2.2)
theorem entV_i (now st : Int) (v : RpV) : (entV now st v).2.2.1 = v.2.2.1 ∧ (entV now st v).2.2.2.1 = v.2.2.2.1 := by unfold entV; split <;> exact ⟨rfl, rfl⟩
set_option maxHeartbeats 2000000 in
theorem mbup_ok (h : Mb W p m now last L) (t id inc : Int) (v : RpV) (hl : mlook L id = some v) (hi0 : 0 < inc) (hi : v.2.2.1 ≤ inc) :
    Calls Try.prog 34 #[.pointer (some ⟨p, 0, none⟩), .int .i64 t, .int .u64 id, .int .u64 inc] W (UpR W p m (lat now t) last (mput L id (upV (lat now t) inc v)) v.1 (decide (0 < v.2.2.1 ∧ v.2.2.1 < inc))) := by
  have HF := Lib.hid (mbfind_hit h t id v hl)
  have HL := Lib.hid hl
  unfold FindR rpP at HF
  unfold UpR
  obtain ⟨tn, htn⟩ : ∃ x, lat now t = x := ⟨_, rfl⟩
  rw [htn] at HF ⊢
  obtain ⟨q, s, i, b, n⟩ := v
  dsimp only at HF hi ⊢
  have hd0 : (inc == 0) = false := by simp; omega
  have hlt : ¬ inc < i := by omega
  clear h hl htn
  have hst : ∃ s1 n1, ((if s = 3 then ((q, s, i, b, n) : RpV) else entV tn 2 (q, s, i, b, n)) : RpV) = (q, s1, i, b, n1) := by
    split
    · exact ⟨_, _, rfl⟩
    · unfold entV; split
      · exact ⟨_, _, rfl⟩
      · exact ⟨_, _, rfl⟩
  obtain ⟨s1, n1, hs1⟩ := hst
  have hup : upV tn inc (q, s, i, b, n) = (q, s1, inc, if 0 < i ∧ i < inc then 0 else b, n1) := by
    unfold upV
    dsimp only
    rw [hs1]
  rw [hup]
  clear hup
  have HS := Lib.hid hs1
  clear hs1
  have tail : ∀ w2, Mb w2 p m tn last (mput L id (q, s1, i, b, n1)) → Tn (fun k => k = p ∨ k = q) W w2 →
      (Mb ((w2.setCell ⟨q, 2, none⟩ (.int .u64 inc)).setCell ⟨q, 3, none⟩ (.int .i64 0)) p m tn last (mput L id (q, s1, inc, 0, n1)) ∧ Tn (fun k => k = p ∨ k = q) W ((w2.setCell ⟨q, 2, none⟩ (.int .u64 inc)).setCell ⟨q, 3, none⟩ (.int .i64 0))) ∧
      (Mb (w2.setCell ⟨q, 2, none⟩ (.int .u64 inc)) p m tn last (mput L id (q, s1, inc, b, n1)) ∧ Tn (fun k => k = p ∨ k = q) W (w2.setCell ⟨q, 2, none⟩ (.int .u64 inc))) := by
    intro w2 hm ht
    have h1 := hm.putR (v := (q, s1, i, b, n1)) (v' := (q, s1, inc, b, n1)) (mput_hit _ _ _) 2 (.int .u64 inc) rfl rfl
    rw [mput_twice] at h1
    have h2 := h1.putR (v := (q, s1, inc, b, n1)) (v' := (q, s1, inc, 0, n1)) (mput_hit _ _ _) 3 (.int .i64 0) rfl rfl
    rw [mput_twice] at h2
    exact ⟨⟨h2, (ht.put q 2 _ (.inl (.inr rfl))).put q 3 _ (.inl (.inr rfl))⟩, h1, ht.put q 2 _ (.inl (.inr rfl))⟩
  have HTL := Lib.hid tail
  have hcase : ∃ (anew : Bool) (b' : Int), decide (0 < i ∧ i < inc) = anew ∧ (if 0 < i ∧ i < inc then 0 else b) = b' ∧ ((anew = true ∧ 0 < i ∧ i < inc ∧ b' = 0) ∨ (anew = false ∧ b' = b ∧ ¬ (0 < i ∧ i < inc))) := by
    by_cases ha : 0 < i ∧ i < inc
    · exact ⟨_, _, rfl, rfl, .inl ⟨decide_eq_true ha, ha.1, ha.2, if_pos ha⟩⟩
    · exact ⟨_, _, rfl, rfl, .inr ⟨decide_eq_false ha, if_neg ha, ha⟩⟩
  obtain ⟨anew, b', he1, he2, hcase⟩ := hcase
  rw [he1, he2]
  have HC := Lib.hid hcase
  clear tail he1 he2 hcase
  go_enter Try.func34, Try.ntmps34
  go_wp2_with fail
  refine HF.out.mono ?_
  rintro e w1 ⟨rfl, hM, hT⟩
  have HM := Lib.hid hM
  have HT := Lib.hid (hT.mono (F' := fun k => k = p ∨ k = q) (fun k hk => .inl hk))
  obtain ⟨⟨c0, c1, c2, c3, c4⟩, f0, f1, f2, f3, f4⟩ := hM.rcell HL.out
  dsimp only at c0 c1 c2 c3 c4 f0 f1 f2 f3 f4
  clear hM hT
  by_cases h3 : s = 3
  · subst h3
    have hs := HS.out
    rw [if_pos rfl] at hs
    injection hs with _ hs
    injection hs with hs1 hs
    injection hs with _ hs
    injection hs with _ hs2
    subst hs1 hs2
    have HM1 := Lib.hid (show Mb w1 p m tn last (mput L id (q, 3, i, b, n)) by rw [mput_self HL.out]; exact HM.out)
    rcases HC.out with ⟨rfl, ha1, ha2, rfl⟩ | ⟨rfl, rfl, ha⟩
    · have HE := Lib.hid (HTL.out w1 HM1.out HT.out).1
      go_wp2_with fail
      go_ret2
      exact ⟨rfl, HE.out⟩
    · have HE := Lib.hid (HTL.out w1 HM1.out HT.out).2
      by_cases ha1 : 0 < i
      · have ha2 : ¬ i < inc := fun h => ha ⟨ha1, h⟩
        have HA2 := Lib.hid ha2
        clear ha
        go_wp2_with fail
        go_ret2
        refine ⟨?_, HE.out⟩
        show Ending.returned (.tuple #[.bool (decide (i < inc)), .int .i64 0]) = _
        rw [decide_eq_false (Int.not_lt.2 HA2.out)]
      · clear ha
        go_wp2_with fail
        go_ret2
        exact ⟨rfl, HE.out⟩
  · have hs := HS.out
    rw [if_neg h3] at hs
    have HEN := Lib.hid (mbenter_in HM.out id (q, s, i, b, n) HL.out 2)
    unfold EntR at HEN
    rw [hs] at HEN
    dsimp only at HEN
    clear hs
    have hd3 : (s != 3) = true := by simpa using h3
    go_wp2_with fail
    refine HEN.out.mono ?_
    rintro e w2 ⟨rfl, hM2, hT2⟩
    have HM2 := Lib.hid hM2
    have HT2 := Lib.hid (HT.out.trans hT2 (fun k hk => .inl (.inr hk)))
    clear c0 c1 c2 c3 c4 f0 f1 f2 f3 f4
    obtain ⟨⟨c0, c1, c2, c3, c4⟩, f0, f1, f2, f3, f4⟩ := hM2.rcell (mput_hit _ _ _)
    dsimp only at c0 c1 c2 c3 c4 f0 f1 f2 f3 f4
    clear hM2 hT2 HEN
    rcases HC.out with ⟨rfl, ha1, ha2, rfl⟩ | ⟨rfl, rfl, ha⟩
    · have HE := Lib.hid (HTL.out w2 HM2.out HT2.out).1
      go_wp2_with fail
      go_ret2
      exact ⟨rfl, HE.out⟩
    · have HE := Lib.hid (HTL.out w2 HM2.out HT2.out).2
      by_cases ha1 : 0 < i
      · have ha2 : ¬ i < inc := fun h => ha ⟨ha1, h⟩
        have HA2 := Lib.hid ha2
        clear ha
        go_wp2_with fail
        go_ret2
        refine ⟨?_, HE.out⟩
        show Ending.returned (.tuple #[.bool (decide (i < inc)), .int .i64 0]) = _
        rw [decide_eq_false (Int.not_lt.2 HA2.out)]
      · clear ha
        go_wp2_with fail
        go_ret2
        exact ⟨rfl, HE.out⟩
def GetR (W : World) (p m : Nat) (now last : Int) (L : List (Int × RpV)) (cs : Array Value) (k : Int) (e : Ending) (w' : World) : Prop := e = .returned (.tuple #[.agg cs, .int .i64 k]) ∧ Mb w' p m now last L ∧ Tn (fun k => k = p) W w'
set_option maxHeartbeats 1000000 in
theorem mbget_hit (h : Mb W p m now last L) (id : Int) (v : RpV) (hl : mlook L id = some v) : Calls Try.prog 35 #[.pointer (some ⟨p, 0, none⟩), .int .u64 id] W (GetR W p m (lat now 0) last L (rpC id v) 0) := by
  obtain ⟨W0, hW0⟩ : ∃ W0, W.alloc (.cells #[.int .u64 0, .int .i64 0, .int .u64 0, .int .i64 0, .int .i64 0] 75) = W0 := ⟨_, rfl⟩
  obtain ⟨g, hg⟩ : ∃ g, W.heap.size = g := ⟨_, rfl⟩
  have hb0 : Below W.heap.size W W0 := by rw [← hW0]; exact below_alloc (Below.refl _ W) _
  have hk0 : W0.heap[g]? = some (.cells #[.int .u64 0, .int .i64 0, .int .u64 0, .int .i64 0, .int .i64 0] 75 (0, 0)) := by rw [← hW0, ← hg]; exact heap_alloc_new W _
  have hgf : ¬ MF p m L g := fun hf => by have := h.fl g hf; omega
  have HF := Lib.hid (mbfind_hit (h.below hb0) 0 id v hl)
  have HT0 := Lib.hid ((Tn.refl (fun k => k = p) W).bel hb0)
  have HL := Lib.hid hl
  have HGF := Lib.hid hgf
  have HGE := Lib.hid (show W.heap.size ≤ g from Nat.le_of_eq hg)
  have HK0 := Lib.hid hk0
  obtain ⟨q, s, i, b, n⟩ := v
  unfold FindR rpP at HF
  unfold GetR rpC
  dsimp only at HF ⊢
  obtain ⟨tn, htn⟩ : ∃ x, lat now 0 = x := ⟨_, rfl⟩
  rw [htn] at HF ⊢
  have HW := Lib.hid hW0
  have HG := Lib.hid hg
  clear hW0 hg h hl hb0 hk0 hgf htn
  go_enter Try.func35, Try.ntmps35
  go_wp2_with fail
  try rw [HG.out]
  rw [HW.out]
  refine HF.out.mono ?_
  rintro e w1 ⟨rfl, hM, hT⟩
  have HM := Lib.hid hM
  have HT := Lib.hid (HT0.out.trans hT (fun k hk => .inl hk))
  have hk := (hT.block g (blk_lt HK0.out) (fun e : g = p => HGF.out (.inl e))).trans HK0.out
  have HK := Lib.hid hk
  obtain ⟨⟨c0, c1, c2, c3, c4⟩, -⟩ := hM.rcell HL.out
  have HMG := Lib.hid (fun (W' : World) (hw : ∀ k, k ≠ g → W'.heap[k]? = w1.heap[k]?) => hM.move (W' := W') (fun k hk => hw k (fun e => HGF.out (e ▸ hk))))
  have z0 := blk_cell hk 0
  have z1 := blk_cell hk 1
  have z2 := blk_cell hk 2
  have z3 := blk_cell hk 3
  have z4 := blk_cell hk 4
  have f0 := blk_frozen hk 0
  have f1 := blk_frozen hk 1
  have f2 := blk_frozen hk 2
  have f3 := blk_frozen hk 3
  have f4 := blk_frozen hk 4
  clear hM hT hk
  dsimp only at c0 c1 c2 c3 c4
  go_wp2_with fail
  refine bodyPost_ret (results_cell_tmp rfl _ _ g 75 #[.int .u64 id, .int .i64 s, .int .u64 i, .int .i64 b, .int .i64 n] (0, 0) _ rfl (by exact blk_set (blk_set (blk_set (blk_set (blk_set HK.out 0 _) 1 _) 2 _) 3 _) 4 _) Try.underlying75 rfl (by kernel_rfl)) rfl ?_
  refine ⟨rfl, HMG.out _ (fun k hk => ?_), ((((HT.out.put g 0 _ (.inr HGE.out)).put g 1 _ (.inr HGE.out)).put g 2 _ (.inr HGE.out)).put g 3 _ (.inr HGE.out)).put g 4 _ (.inr HGE.out)⟩
  rw [Below.heap_setCell _ ⟨g, 4, none⟩ _ _ hk, Below.heap_setCell _ ⟨g, 3, none⟩ _ _ hk, Below.heap_setCell _ ⟨g, 2, none⟩ _ _ hk, Below.heap_setCell _ ⟨g, 1, none⟩ _ _ hk, Below.heap_setCell _ ⟨g, 0, none⟩ _ _ hk]
end
theorem alive24_any (W : World) : Calls Try.prog 38 #[] W fun e w' => e = .returned (.bool true) ∧ Below W.heap.size W w' := by
  have HN := Lib.hid (mbnew_any W)
  unfold MbNew at HN
  go_enter Try.func38, Try.ntmps38
  go_wp2_with fail
  refine HN.out.mono ?_
  rintro e w1 ⟨p, m, rfl, hM, hp, hm, hb⟩
  have HB1 := Lib.hid hb
  have HA := Lib.hid (mbadd_ok hM 0 0 rfl (by omega) (by omega) (by omega) rfl)
  have HPM := Lib.hid (And.intro hp hm)
  unfold AddR at HA
  clear hM hb hp hm HN
  go_wp2_with fail
  refine HA.out.mono ?_
  rintro e w2 ⟨q, rfl, hq, hM, hT⟩
  have HB2 := Lib.hid (HB1.out.trans (hT.below (base := W.heap.size) (fun k hk => by rcases hk with rfl | rfl; exact HPM.out.1; exact HPM.out.2) HB1.out.size))
  have hM2 : Mb w2 p m 0 1 [(1, (q, 1, 0, 0, 0))] := hM
  have HU := Lib.hid (mbup_ok hM2 1 1 5 (q, 1, 0, 0, 0) rfl (by decide) (show (0 : Int) ≤ 5 by decide))
  have HQ := Lib.hid (show W.heap.size ≤ q from Nat.le_trans HB1.out.size hq)
  unfold UpR at HU
  rw [show mput [((1 : Int), ((q, 1, 0, 0, 0) : RpV))] 1 (upV (lat 0 1) 5 (q, 1, 0, 0, 0)) = [(1, (q, 2, 5, 0, 1))] from rfl] at HU
  clear hM hT hM2 hq HA
  go_wp2_with fail
  refine HU.out.mono ?_
  rintro e w3 ⟨rfl, hM, hT⟩
  have HB3 := Lib.hid (HB2.out.trans (hT.below (base := W.heap.size) (fun k hk => by rcases hk with rfl | rfl; exact HPM.out.1; exact HQ.out) HB2.out.size))
  have hM3 : Mb w3 p m 1 1 [(1, (q, 2, 5, 0, 1))] := hM
  have HU2 := Lib.hid (mbup_ok hM3 2 1 6 (q, 2, 5, 0, 1) rfl (by decide) (show (5 : Int) ≤ 6 by decide))
  unfold UpR at HU2
  rw [show mput [((1 : Int), ((q, 2, 5, 0, 1) : RpV))] 1 (upV (lat 1 2) 6 (q, 2, 5, 0, 1)) = [(1, (q, 2, 6, 0, 1))] from rfl] at HU2
  clear hM hT hM3 HU
  go_wp2_with fail
  refine HU2.out.mono ?_
  rintro e w4 ⟨rfl, hM, hT⟩
  have HB4 := Lib.hid (HB3.out.trans (hT.below (base := W.heap.size) (fun k hk => by rcases hk with rfl | rfl; exact HPM.out.1; exact HQ.out) HB3.out.size))
  have hM4 : Mb w4 p m 2 1 [(1, (q, 2, 6, 0, 1))] := hM
  have HG := Lib.hid (mbget_hit hM4 1 (q, 2, 6, 0, 1) rfl)
  unfold GetR rpC at HG
  dsimp only at HG
  clear hM hT hM4 HU2
  go_wp2_with fail
  refine HG.out.mono ?_
  rintro e w5 ⟨rfl, hM, hT⟩
  have HB5 := Lib.hid (HB4.out.trans (hT.below (base := W.heap.size) (fun k hk => by rcases hk with rfl; exact HPM.out.1) HB4.out.size))
  have HB6 := Lib.hid (below_alloc HB5.out (.cells #[.int .u64 1, .int .i64 2, .int .u64 6, .int .i64 0, .int .i64 1] 75))
  clear hM hT HG
  go_wp2_with fail
  go_ret
  exact ⟨rfl, HB6.out⟩
end Go.Proofs.Ytmbhicjjbgbneaa
