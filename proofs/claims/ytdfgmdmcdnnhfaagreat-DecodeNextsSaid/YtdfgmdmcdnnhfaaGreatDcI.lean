/- law 12's alive. -/
import Derived.Test.YtdfgmdmcdnnhfaaGreatDcH
import Derived.Test.YtdfgmdmcdnnhfaaGreatMoN
namespace Go.Proofs.YtdfgmdmcdnnhfaaGreat
open Go.RowKit Go.Shelf Go.Proofs.YtdfgmdmcdnnhfaaGreatW.PrintWords Go.Proofs.YtdfgmdmcdnnhfaaGreatW.PrintLast Go.Proofs.YtdfgmdmcdnnhfaaGreatW.PrintMore
set_option linter.unusedVariables false
set_option linter.unusedSimpArgs false
set_option maxRecDepth 100000
attribute [local go_sem] gb_max2 gb_min2 gb_max_two gb_min_two gb_max_three gb_min_three run_cfg1 run_cfg2 run_cfg3

def c12 : Cfg := ⟨3, 5, 2, 1, 5, 8⟩
theorem c12_ok : c12.ok := by unfold Cfg.ok c12; decide
theorem c12_v : c12.v = .agg #[.int .u64 3, .int .i64 5, .int .i64 2, .int .i64 1, .int .i64 5, .int .i64 8] := rfl
theorem j12 : Jok c12 [1, 2] 3 := by
  refine ⟨by decide, by decide, by decide, ?_⟩
  intro t ht
  have : t = 1 ∨ t = 2 := by simpa using ht
  unfold badT c12
  rcases this with h | h <;> subst h <;> decide
set_option maxHeartbeats 1000000 in
theorem alive12_any (W : World) : Calls Tryz.prog 8 #[] W fun e w' => e = .returned (.bool true) ∧ Below W.heap.size W w' := by
  have HNW := Lib.hid (fun W' => new_ok c12 c12_ok W')
  rw [c12_v] at HNW
  go_enter Tryz.func8, Tryz.ntmps8
  go_wp2_with fail
  refine (HNW.out W).mono ?_
  unfold NewYes
  rintro e w1 ⟨p, rfl, hM, hb⟩
  have HB1 := Lib.hid hb
  obtain ⟨w3, hw3⟩ : ∃ w3, (w1.alloc (.cells #[.int .i64 1, .int .i64 2] 3)).alloc (.cells #[.int .u64 1, .slice (some ⟨w1.heap.size, 0, none⟩) 2 2, .int .i64 3] 27) = w3 := ⟨_, rfl⟩
  obtain ⟨b, hbe⟩ : ∃ b, w1.heap.size = b := ⟨_, rfl⟩
  obtain ⟨g, hg⟩ : ∃ g, b + 1 = g := ⟨_, rfl⟩
  have hb3 : Below w1.heap.size w1 w3 := by rw [← hw3]; exact below_alloc (below_alloc (Below.refl _ w1) _) _
  have hC : (Kd.int .i64).C w3 (some ⟨b, 0, none⟩) ([1, 2] : List Int).length [1, 2] := by
    rw [← hw3, ← hbe]
    exact Kd.C_below (lit_C w1 .i64 3 [1, 2] (by simp)) (below_alloc (Below.refl _ _) _)
  have hJ : JB g 1 (.slice (some ⟨b, 0, none⟩) 2 2) 3 w3 w3 := by
    have h := heap_alloc2_new w1 (.cells #[.int .i64 1, .int .i64 2] 3) (.cells #[.int .u64 1, .slice (some ⟨w1.heap.size, 0, none⟩) 2 2, .int .i64 3] 27)
    rw [hw3, hbe, hg] at h
    exact ⟨blk_cell h 0, blk_cell h 1, blk_cell h 2, Lib.hid (Below.refl _ _)⟩
  rw [hbe] at hw3
  have HW := Lib.hid hw3
  have HBE := Lib.hid hbe
  have HG := Lib.hid hg
  have HJ := Lib.hid hJ
  have HC := Lib.hid (fun (W' : World) (hb : Below w3.heap.size w3 W') => Kd.C_below hC hb)
  have HMo := Lib.hid (fun (W' : World) (hb : Below w3.heap.size w3 W') => hM.below (below_then hb3 hb3.size hb))
  have HB3 := Lib.hid (below_then HB1.out HB1.out.size hb3)
  clear hM hb hw3 hbe hg hb3 hC hJ
  obtain ⟨j0, j1, j2, -⟩ := id HJ.out
  go_wp2_with fail
  rw [HBE.out, HG.out, HW.out]
  have HR := Lib.hid (dref_yes w3 p c12 c12_ok (HMo.out _ (Below.refl _ _)) 1 3 (some ⟨b, 0, none⟩) 2 [1, 2] (HC.out _ (Below.refl _ _)) j12)
  have hrl := dOut_le c12 1 3 [0, 1, 2]
  obtain ⟨out, hout⟩ : ∃ o, dRef c12 1 [1, 2] 3 = o := ⟨_, rfl⟩
  rw [show dOut c12 1 3 [0, 1, 2] = out from hout] at hrl
  rw [hout] at HR
  obtain ⟨k, hk⟩ : ∃ k, out.length = k := ⟨_, rfl⟩
  rw [hk] at hrl
  unfold RefY at HR
  have HK := Lib.hid hk
  have g9 : decide (k ≤ 3) = true := decide_eq_true hrl
  have g8 : decide ((k : Int) ≤ 3) = true := decide_eq_true (by omega)
  clear hout hk
  refine HR.out.mono ?_
  rw [HK.out]
  rintro e w4 ⟨A4, k4, rfl, -, hb⟩
  have HJ4 := Lib.hid (HJ.out.step hb)
  have HST := Lib.hid ((dstart_any w4 p c12 c12_ok (HMo.out _ hb) 1 3 (some ⟨b, 0, none⟩) none 2 0 [1, 2] [] (HC.out _ hb) (C_nil0 w4)).mono (fun e w' h => startY_of j12 h))
  unfold StartY at HST
  clear hb HR j0 j1 j2
  obtain ⟨j0, j1, j2, -⟩ := id HJ4.out
  go_wp2_with fail
  refine HST.out.mono ?_
  rintro e w5 ⟨s, rfl, hst, hb⟩
  have HL := Lib.hid (dlen_any _ w5 s p c12 [0, 1, 2] hst)
  have HB5 := Lib.hid (below_then HB3.out HB3.out.size (below_then HJ4.out.b HJ4.out.b.size hb))
  clear hst hb HST
  go_wp2_with fail
  refine HL.out.mono ?_
  rintro e w6 ⟨rfl, hw⟩
  replace hw := hw.symm
  subst hw
  go_wp2_with fail
  go_ret
  exact ⟨rfl, HB5.out⟩

end Go.Proofs.YtdfgmdmcdnnhfaaGreat
