/- A member list: Lost, Drain. -/
import Derived.Test.YtmbhicjjbgbneaaMbG
namespace Go.Proofs.Ytmbhicjjbgbneaa
open Go.RowKit Go.Shelf Go.Proofs.YtmbhicjjbgbneaaW.PrintWords Go.Proofs.YtmbhicjjbgbneaaW.PrintLast Go.Proofs.YtmbhicjjbgbneaaW.PrintMore
set_option linter.unusedVariables false
set_option linter.unusedSimpArgs false
set_option maxRecDepth 100000
section
variable {W : World} {p m : Nat} {now last : Int} {L : List (Int × RpV)}
theorem mblost_miss (h : Mb W p m now last L) (t id : Int) (hl : mlook L id = none) : Calls Try.prog 30 #[.pointer (some ⟨p, 0, none⟩), .int .i64 t, .int .u64 id] W (ErrR W p m (lat now t) last L p 6) := by
  have HC := Lib.hid (mbleave_miss h t id 4 hl)
  unfold ErrR at HC ⊢
  clear h
  go_enter Try.func30, Try.ntmps30
  go_wp2_with fail
  refine HC.out.mono ?_
  rintro e w1 ⟨rfl, hm, ht⟩
  have HM := Lib.hid (And.intro hm ht)
  clear hm ht
  go_wp2_with fail
  go_ret
  exact ⟨rfl, HM.out⟩
theorem mblost_state (h : Mb W p m now last L) (t id : Int) (v : RpV) (hl : mlook L id = some v) (hs : v.2.1 = 3) : Calls Try.prog 30 #[.pointer (some ⟨p, 0, none⟩), .int .i64 t, .int .u64 id] W (ErrR W p m (lat now t) last L v.1 10) := by
  have HC := Lib.hid (mbleave_state h t id 4 v hl hs)
  unfold ErrR at HC ⊢
  clear h
  go_enter Try.func30, Try.ntmps30
  go_wp2_with fail
  refine HC.out.mono ?_
  rintro e w1 ⟨rfl, hm, ht⟩
  have HM := Lib.hid (And.intro hm ht)
  clear hm ht
  go_wp2_with fail
  go_ret
  exact ⟨rfl, HM.out⟩
theorem mblost_ok (h : Mb W p m now last L) (t id : Int) (v : RpV) (hl : mlook L id = some v) (hs : v.2.1 ≠ 3) : Calls Try.prog 30 #[.pointer (some ⟨p, 0, none⟩), .int .i64 t, .int .u64 id] W (ErrR W p m (lat now t) last (mput L id (entV (lat now t) 4 v)) v.1 0) := by
  have HC := Lib.hid (mbleave_ok h t id 4 v hl hs)
  unfold ErrR at HC ⊢
  clear h
  go_enter Try.func30, Try.ntmps30
  go_wp2_with fail
  refine HC.out.mono ?_
  rintro e w1 ⟨rfl, hm, ht⟩
  have HM := Lib.hid (And.intro hm ht)
  clear hm ht
  go_wp2_with fail
  go_ret
  exact ⟨rfl, HM.out⟩
theorem mbdrain_miss (h : Mb W p m now last L) (t id : Int) (hl : mlook L id = none) : Calls Try.prog 31 #[.pointer (some ⟨p, 0, none⟩), .int .i64 t, .int .u64 id] W (ErrR W p m (lat now t) last L p 6) := by
  have HC := Lib.hid (mbleave_miss h t id 3 hl)
  unfold ErrR at HC ⊢
  clear h
  go_enter Try.func31, Try.ntmps31
  go_wp2_with fail
  refine HC.out.mono ?_
  rintro e w1 ⟨rfl, hm, ht⟩
  have HM := Lib.hid (And.intro hm ht)
  clear hm ht
  go_wp2_with fail
  go_ret
  exact ⟨rfl, HM.out⟩
theorem mbdrain_state (h : Mb W p m now last L) (t id : Int) (v : RpV) (hl : mlook L id = some v) (hs : v.2.1 = 3) : Calls Try.prog 31 #[.pointer (some ⟨p, 0, none⟩), .int .i64 t, .int .u64 id] W (ErrR W p m (lat now t) last L v.1 10) := by
  have HC := Lib.hid (mbleave_state h t id 3 v hl hs)
  unfold ErrR at HC ⊢
  clear h
  go_enter Try.func31, Try.ntmps31
  go_wp2_with fail
  refine HC.out.mono ?_
  rintro e w1 ⟨rfl, hm, ht⟩
  have HM := Lib.hid (And.intro hm ht)
  clear hm ht
  go_wp2_with fail
  go_ret
  exact ⟨rfl, HM.out⟩
theorem mbdrain_ok (h : Mb W p m now last L) (t id : Int) (v : RpV) (hl : mlook L id = some v) (hs : v.2.1 ≠ 3) : Calls Try.prog 31 #[.pointer (some ⟨p, 0, none⟩), .int .i64 t, .int .u64 id] W (ErrR W p m (lat now t) last (mput L id (entV (lat now t) 3 v)) v.1 0) := by
  have HC := Lib.hid (mbleave_ok h t id 3 v hl hs)
  unfold ErrR at HC ⊢
  clear h
  go_enter Try.func31, Try.ntmps31
  go_wp2_with fail
  refine HC.out.mono ?_
  rintro e w1 ⟨rfl, hm, ht⟩
  have HM := Lib.hid (And.intro hm ht)
  clear hm ht
  go_wp2_with fail
  go_ret
  exact ⟨rfl, HM.out⟩
end
end Go.Proofs.Ytmbhicjjbgbneaa
