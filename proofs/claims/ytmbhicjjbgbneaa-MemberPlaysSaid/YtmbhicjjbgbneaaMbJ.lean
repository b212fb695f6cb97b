/- A member list: Remove. -/
import Derived.Test.YtmbhicjjbgbneaaMbI
namespace Go.Proofs.Ytmbhicjjbgbneaa
open Go.RowKit Go.Shelf Go.Proofs.YtmbhicjjbgbneaaW.PrintWords Go.Proofs.YtmbhicjjbgbneaaW.PrintLast Go.Proofs.YtmbhicjjbgbneaaW.PrintMore
set_option linter.unusedVariables false
set_option linter.unusedSimpArgs false
set_option maxRecDepth 100000
section
variable {W w2 : World} {p m : Nat} {now last : Int} {L : List (Int × RpV)}
theorem ptrs_del (L : List (Int × RpV)) (k : Int) : mdel (ptrs L) k = ptrs (mdel L k) := by
  induction L with
  | nil => rfl
  | cons e l ih =>
    obtain ⟨a, v⟩ := e
    show mdel ((a, rpP v) :: ptrs l) k = ptrs (mdel ((a, v) :: l) k)
    unfold mdel
    split
    · rfl
    · rw [ih]; rfl
theorem mdel_sub {K β : Type} [DecidableEq K] (L : List (K × β)) (k : K) : (mdel L k).Sublist L := by
  induction L with
  | nil => exact List.Sublist.refl _
  | cons e l ih =>
    obtain ⟨a, v⟩ := e
    unfold mdel
    split
    · exact List.sublist_cons_self _ _
    · exact ih.cons_cons _
theorem Mb.del (h : Mb W p m now last L) {id : Int} (hm : IsMp (Value.int .u64) w2 m (mdel (ptrs L) id)) (hg : W.grownBy w2 (some m)) : Mb w2 p m now last (mdel L id) := by
  have hs := mdel_sub L id
  refine ⟨(hg.block p h.lt (fun e => h.pm (by injection e with e; exact e.symm))).trans h.box, by rw [← ptrs_del]; exact hm, fun e he => ?_, h.nd.sublist (hs.map _), h.kd.sublist (hs.map _)⟩
  have he' := hs.subset he
  exact (hg.block _ (blk_lt (h.rp e he')) (fun e2 => h.qm e he' (by injection e2))).trans (h.rp e he')
theorem mbremove_miss (h : Mb W p m now last L) (t id wt : Int) (hl : mlook L id = none) : Calls Try.prog 32 #[.pointer (some ⟨p, 0, none⟩), .int .i64 t, .int .u64 id, .int .i64 wt] W (ErrR W p m (lat now t) last L p 6) := by
  have HF := Lib.hid (mbfind_miss h t id hl)
  unfold FindR at HF
  unfold ErrR
  clear h hl
  go_enter Try.func32, Try.ntmps32
  go_wp2_with fail
  refine HF.out.mono ?_
  rintro e w1 ⟨rfl, hm, ht⟩
  have HM := Lib.hid hm
  have HT := Lib.hid (ht.mono (F' := fun k => k = p ∨ k = p) (fun k hk => .inl hk))
  clear hm ht
  go_wp2_with fail
  go_ret
  exact ⟨rfl, HM.out, HT.out⟩
def RemOk (now wt : Int) (v : RpV) : Prop := v.2.1 = 3 ∧ ¬ (0 < v.2.2.2.1 ∧ now - v.2.2.2.2 < wt)
theorem mbremove_state (h : Mb W p m now last L) (t id wt : Int) (v : RpV) (hl : mlook L id = some v) (hr : 0 ≤ v.2.2.2.2 ∧ v.2.2.2.2 ≤ lat now t ∧ lat now t ≤ 1099511627776) (hs : ¬ RemOk (lat now t) wt v) : Calls Try.prog 32 #[.pointer (some ⟨p, 0, none⟩), .int .i64 t, .int .u64 id, .int .i64 wt] W (ErrR W p m (lat now t) last L v.1 10) := by
  have HF := Lib.hid (mbfind_hit h t id v hl)
  have HL := Lib.hid hl
  unfold FindR rpP at HF
  unfold ErrR
  obtain ⟨tn, htn⟩ : ∃ x, lat now t = x := ⟨_, rfl⟩
  rw [htn] at HF hr hs ⊢
  obtain ⟨q, s, i, b, n⟩ := v
  unfold RemOk at hs
  dsimp only at HF hr hs ⊢
  clear h hl htn
  go_enter Try.func32, Try.ntmps32
  go_wp2_with fail
  refine HF.out.mono ?_
  rintro e w1 ⟨rfl, hm, ht⟩
  obtain ⟨⟨c0, c1, c2, c3, c4⟩, f0, f1, f2, f3, f4⟩ := hm.rcell HL.out
  obtain ⟨k0, k1, k2⟩ := hm.at_
  dsimp only at c0 c1 c2 c3 c4
  have HM := Lib.hid hm
  have HT := Lib.hid (ht.mono (F' := fun k => k = p ∨ k = q) (fun k hk => .inl hk))
  clear hm ht
  have HMn := Lib.hid (fun u : Nat => HM.out.below (pw_below_drewN (Below.refl _ _) u))
  have HTn := Lib.hid (fun u : Nat => HT.out.bel (pw_below_drewN (Below.refl _ _) u))
  by_cases hx : s = 3
  · subst hx
    have hb : 0 < b ∧ tn - n < wt := Classical.byContradiction (fun hn => hs ⟨rfl, hn⟩)
    obtain ⟨hb1, hb2⟩ := hb
    have hd1 : decide (0 < b) = true := decide_eq_true hb1
    have hd2 : decide (tn - n < wt) = true := decide_eq_true hb2
    clear hs
    go_wp2_with fail
    go_quiet (fail)
    go_wp2_with fail
    go_ret
    exact ⟨rfl, HMn.out _, HTn.out _⟩
  · have hd : (s == 3) = false := by simp; exact hx
    have hd2 : (s != 3) = true := by simp; exact hx
    clear hs
    go_wp2_with fail
    go_quiet (fail)
    go_wp2_with fail
    go_ret
    exact ⟨rfl, HMn.out _, HTn.out _⟩
theorem mbremove_ok (h : Mb W p m now last L) (t id wt : Int) (v : RpV) (hl : mlook L id = some v) (hr : 0 ≤ v.2.2.2.2 ∧ v.2.2.2.2 ≤ lat now t ∧ lat now t ≤ 1099511627776) (hs : RemOk (lat now t) wt v) : Calls Try.prog 32 #[.pointer (some ⟨p, 0, none⟩), .int .i64 t, .int .u64 id, .int .i64 wt] W fun e w' => e = .returned (.int .i64 0) ∧ Mb w' p m (lat now t) last (mdel L id) ∧ Tn (fun k => k = p ∨ k = m) W w' := by
  have HF := Lib.hid (mbfind_hit h t id v hl)
  have HL := Lib.hid hl
  unfold FindR rpP at HF
  obtain ⟨tn, htn⟩ : ∃ x, lat now t = x := ⟨_, rfl⟩
  rw [htn] at HF hr hs ⊢
  obtain ⟨q, s, i, b, n⟩ := v
  unfold RemOk at hs
  dsimp only at HF hr hs ⊢
  obtain ⟨rfl, hs⟩ := hs
  clear h hl htn
  go_enter Try.func32, Try.ntmps32
  go_wp2_with fail
  refine HF.out.mono ?_
  rintro e w1 ⟨rfl, hm, ht⟩
  obtain ⟨⟨c0, c1, c2, c3, c4⟩, f0, f1, f2, f3, f4⟩ := hm.rcell HL.out
  obtain ⟨k0, k1, k2⟩ := hm.at_
  dsimp only at c0 c1 c2 c3 c4
  have HK := Lib.hid (fun u : Nat => (hm.below (pw_below_drewN (Below.refl _ _) u)).at_)
  have HDel := Lib.hid (fun u : Nat => (show ∃ w', (Builtin.delete_ #[93, 22] 0 #[.map (some m), .int .u64 id]).run Try.prog (w1.drewN u) = .ok (.tuple #[]) w' ∧ Mb w' p m tn last (mdel L id) ∧ Tn (fun k => k = p ∨ k = m) W w' from by
    have hb := pw_below_drewN (Below.refl w1.heap.size w1) u
    have hm2 := hm.below hb
    obtain ⟨w2, hrun, hmp, hg, -⟩ := run_mdel (P := Try.prog) Try.underlying93 (key_int Try.underlying22) hm2.mp id 22 0
    exact ⟨w2, hrun, hm2.del hmp hg, ((ht.mono (F' := fun k => k = p ∨ k = m) (fun k hk => .inl hk)).bel hb).grown hg (.inl (.inr rfl))⟩))
  clear hm ht
  by_cases hb1 : 0 < b
  · have hb2 : ¬ tn - n < wt := fun h => hs ⟨hb1, h⟩
    have hd1 : decide (0 < b) = true := decide_eq_true hb1
    have hd2 : decide (tn - n < wt) = false := decide_eq_false hb2
    clear hs
    go_wp2_with fail
    go_quiet (fail)
    obtain ⟨w2, hrun, hm, ht⟩ := HDel.out nq
    obtain ⟨y0, y1, y2⟩ := HK.out nq
    have HM := Lib.hid hm
    have HT := Lib.hid ht
    clear hm ht
    go_wp2_with fail
    go_ret
    exact ⟨rfl, HM.out, HT.out⟩
  · have hd1 : decide (0 < b) = false := decide_eq_false hb1
    clear hs
    go_wp2_with fail
    go_quiet (fail)
    obtain ⟨w2, hrun, hm, ht⟩ := HDel.out nq
    obtain ⟨y0, y1, y2⟩ := HK.out nq
    have HM := Lib.hid hm
    have HT := Lib.hid ht
    clear hm ht
    go_wp2_with fail
    go_ret
    exact ⟨rfl, HM.out, HT.out⟩
end
end Go.Proofs.Ytmbhicjjbgbneaa
