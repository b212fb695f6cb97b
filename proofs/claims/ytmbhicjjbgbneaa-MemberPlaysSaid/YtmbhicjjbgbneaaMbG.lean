/- A member list: leave, Lost, Drain. -/
import Derived.Test.YtmbhicjjbgbneaaMbE
namespace Go.Proofs.Ytmbhicjjbgbneaa
open Go.RowKit Go.Shelf Go.Proofs.YtmbhicjjbgbneaaW.PrintWords Go.Proofs.YtmbhicjjbgbneaaW.PrintLast Go.Proofs.YtmbhicjjbgbneaaW.PrintMore
set_option linter.unusedVariables false
set_option linter.unusedSimpArgs false
set_option maxRecDepth 100000
attribute [local go_sem] mb_max2
section
variable {W : World} {p m : Nat} {now last : Int} {L : List (Int × RpV)}
def ErrR (W : World) (p m : Nat) (now last : Int) (L' : List (Int × RpV)) (q : Nat) (k : Int) (e : Ending) (w' : World) : Prop := e = .returned (.int .i64 k) ∧ Mb w' p m now last L' ∧ Tn (fun k => k = p ∨ k = q) W w'
theorem mbleave_miss (h : Mb W p m now last L) (t id st : Int) (hl : mlook L id = none) : Calls Try.prog 64 #[.pointer (some ⟨p, 0, none⟩), .int .i64 t, .int .u64 id, .int .i64 st] W (ErrR W p m (lat now t) last L p 6) := by
  have HF := Lib.hid (mbfind_miss h t id hl)
  unfold FindR at HF
  unfold ErrR
  clear h hl
  go_enter Try.func64, Try.ntmps64
  go_wp2_with fail
  refine HF.out.mono ?_
  rintro e w1 ⟨rfl, hm, ht⟩
  have HM := Lib.hid hm
  have HT := Lib.hid (ht.mono (F' := fun k => k = p ∨ k = p) (fun k hk => .inl hk))
  clear hm ht
  go_wp2_with fail
  go_ret
  exact ⟨rfl, HM.out, HT.out⟩
theorem mbleave_state (h : Mb W p m now last L) (t id st : Int) (v : RpV) (hl : mlook L id = some v) (hs : v.2.1 = 3) : Calls Try.prog 64 #[.pointer (some ⟨p, 0, none⟩), .int .i64 t, .int .u64 id, .int .i64 st] W (ErrR W p m (lat now t) last L v.1 10) := by
  have HF := Lib.hid (mbfind_hit h t id v hl)
  have HL := Lib.hid hl
  unfold FindR rpP at HF
  unfold ErrR
  obtain ⟨q, s, i, b, n⟩ := v
  dsimp only at HF hs ⊢
  subst hs
  clear h hl
  go_enter Try.func64, Try.ntmps64
  go_wp2_with fail
  refine HF.out.mono ?_
  rintro e w1 ⟨rfl, hm, ht⟩
  obtain ⟨⟨c0, c1, c2, c3, c4⟩, f0, f1, f2, f3, f4⟩ := hm.rcell HL.out
  dsimp only at c0 c1 c2 c3 c4
  have HM := Lib.hid hm
  have HT := Lib.hid (ht.mono (F' := fun k => k = p ∨ k = q) (fun k hk => .inl hk))
  clear hm ht
  go_wp2_with fail
  go_ret
  exact ⟨rfl, HM.out, HT.out⟩
theorem mbleave_ok (h : Mb W p m now last L) (t id st : Int) (v : RpV) (hl : mlook L id = some v) (hs : v.2.1 ≠ 3) : Calls Try.prog 64 #[.pointer (some ⟨p, 0, none⟩), .int .i64 t, .int .u64 id, .int .i64 st] W (ErrR W p m (lat now t) last (mput L id (entV (lat now t) st v)) v.1 0) := by
  have HF := Lib.hid (mbfind_hit h t id v hl)
  have HL := Lib.hid hl
  unfold FindR rpP at HF
  unfold ErrR
  obtain ⟨tn, htn⟩ : ∃ x, lat now t = x := ⟨_, rfl⟩
  rw [htn] at HF ⊢
  obtain ⟨q, s, i, b, n⟩ := v
  dsimp only at HF hs ⊢
  have hd : (s == 3) = false := by simp; exact hs
  clear h hl htn
  go_enter Try.func64, Try.ntmps64
  go_wp2_with fail
  refine HF.out.mono ?_
  rintro e w1 ⟨rfl, hm, ht⟩
  obtain ⟨⟨c0, c1, c2, c3, c4⟩, f0, f1, f2, f3, f4⟩ := hm.rcell HL.out
  dsimp only at c0 c1 c2 c3 c4
  have HE := Lib.hid (mbenter_in hm id _ HL.out st)
  unfold EntR at HE
  have HT := Lib.hid ht
  clear hm ht
  go_wp2_with fail
  refine HE.out.mono ?_
  rintro e w2 ⟨rfl, hm2, ht2⟩
  have HM := Lib.hid hm2
  have HT2 := Lib.hid ((HT.out.mono (F' := fun k => k = p ∨ k = q) (fun k hk => .inl hk)).trans ht2 (fun k hk => .inl (.inr hk)))
  clear hm2 ht2 c0 c1 c2 c3 c4
  go_wp2_with fail
  go_ret
  exact ⟨rfl, HM.out, HT2.out⟩
end
end Go.Proofs.Ytmbhicjjbgbneaa
