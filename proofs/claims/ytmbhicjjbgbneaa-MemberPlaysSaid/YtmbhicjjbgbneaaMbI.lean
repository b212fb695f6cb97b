/- A member list: Bind. -/
import Derived.Test.YtmbhicjjbgbneaaMbH
namespace Go.Proofs.Ytmbhicjjbgbneaa
open Go.RowKit Go.Shelf Go.Proofs.YtmbhicjjbgbneaaW.PrintWords Go.Proofs.YtmbhicjjbgbneaaW.PrintLast Go.Proofs.YtmbhicjjbgbneaaW.PrintMore
set_option linter.unusedVariables false
set_option linter.unusedSimpArgs false
set_option maxRecDepth 100000
section
variable {W : World} {p m : Nat} {now last : Int} {L : List (Int × RpV)}
theorem mbbind_miss (h : Mb W p m now last L) (id by_ : Int) (hl : mlook L id = none) : Calls Try.prog 33 #[.pointer (some ⟨p, 0, none⟩), .int .u64 id, .int .i64 by_] W (ErrR W p m (lat now 0) last L p 6) := by
  have HF := Lib.hid (mbfind_miss h 0 id hl)
  unfold FindR at HF
  unfold ErrR
  clear h hl
  go_enter Try.func33, Try.ntmps33
  go_wp2_with fail
  refine HF.out.mono ?_
  rintro e w1 ⟨rfl, hm, ht⟩
  have HM := Lib.hid hm
  have HT := Lib.hid (ht.mono (F' := fun k => k = p ∨ k = p) (fun k hk => .inl hk))
  clear hm ht
  go_wp2_with fail
  go_ret
  exact ⟨rfl, HM.out, HT.out⟩
/-- What is bound is told apart: refused, or added. -/
theorem mbbind_arg (h : Mb W p m now last L) (id by_ : Int) (v : RpV) (hl : mlook L id = some v) (hb : 0 ≤ v.2.2.2.1 ∧ v.2.2.2.1 ≤ 1048576) (ha : by_ < -v.2.2.2.1 ∨ 1048576 - v.2.2.2.1 < by_) : Calls Try.prog 33 #[.pointer (some ⟨p, 0, none⟩), .int .u64 id, .int .i64 by_] W (ErrR W p m (lat now 0) last L v.1 1) := by
  have HF := Lib.hid (mbfind_hit h 0 id v hl)
  have HL := Lib.hid hl
  unfold FindR rpP at HF
  unfold ErrR
  obtain ⟨q, s, i, b, n⟩ := v
  dsimp only at HF hb ha ⊢
  clear h hl
  go_enter Try.func33, Try.ntmps33
  go_wp2_with fail
  refine HF.out.mono ?_
  rintro e w1 ⟨rfl, hm, ht⟩
  obtain ⟨⟨c0, c1, c2, c3, c4⟩, f0, f1, f2, f3, f4⟩ := hm.rcell HL.out
  dsimp only at c0 c1 c2 c3 c4
  have HM := Lib.hid hm
  have HT := Lib.hid (ht.mono (F' := fun k => k = p ∨ k = q) (fun k hk => .inl hk))
  clear hm ht
  by_cases hx : by_ < -b
  · go_wp2_with fail
    go_ret
    exact ⟨rfl, HM.out, HT.out⟩
  · have hy : 1048576 - b < by_ := by omega
    go_wp2_with fail
    go_ret
    exact ⟨rfl, HM.out, HT.out⟩
theorem mbbind_ok (h : Mb W p m now last L) (id by_ : Int) (v : RpV) (hl : mlook L id = some v) (hb : 0 ≤ v.2.2.2.1 ∧ v.2.2.2.1 ≤ 1048576) (ha : -v.2.2.2.1 ≤ by_ ∧ by_ ≤ 1048576 - v.2.2.2.1) : Calls Try.prog 33 #[.pointer (some ⟨p, 0, none⟩), .int .u64 id, .int .i64 by_] W (ErrR W p m (lat now 0) last (mput L id (v.1, v.2.1, v.2.2.1, v.2.2.2.1 + by_, v.2.2.2.2)) v.1 0) := by
  have HF := Lib.hid (mbfind_hit h 0 id v hl)
  have HL := Lib.hid hl
  unfold FindR rpP at HF
  unfold ErrR
  obtain ⟨q, s, i, b, n⟩ := v
  dsimp only at HF hb ha ⊢
  clear h hl
  go_enter Try.func33, Try.ntmps33
  go_wp2_with fail
  refine HF.out.mono ?_
  rintro e w1 ⟨rfl, hm, ht⟩
  obtain ⟨⟨c0, c1, c2, c3, c4⟩, f0, f1, f2, f3, f4⟩ := hm.rcell HL.out
  dsimp only at c0 c1 c2 c3 c4
  have HM := Lib.hid (hm.putR (v := (q, s, i, b, n)) (v' := (q, s, i, b + by_, n)) HL.out 3 (.int .i64 (b + by_)) rfl rfl)
  have HT := Lib.hid ((ht.mono (F' := fun k => k = p ∨ k = q) (fun k hk => .inl hk)).put q 3 (.int .i64 (b + by_)) (.inl (.inr rfl)))
  clear hm ht
  have hx : ¬ by_ < -b := by omega
  have hy : ¬ 1048576 - b < by_ := by omega
  go_wp2_with fail
  go_ret
  exact ⟨rfl, HM.out, HT.out⟩
end
end Go.Proofs.Ytmbhicjjbgbneaa
