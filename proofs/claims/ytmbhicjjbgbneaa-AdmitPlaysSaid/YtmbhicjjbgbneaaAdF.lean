/- The table that is alive. -/
import Derived.Test.YtmbhicjjbgbneaaAdE
namespace Go.Proofs.Ytmbhicjjbgbneaa
open Go.RowKit Go.Shelf Go.Proofs.YtmbhicjjbgbneaaW.PrintWords Go.Proofs.YtmbhicjjbgbneaaW.PrintLast Go.Proofs.YtmbhicjjbgbneaaW.PrintMore
set_option linter.unusedVariables false
set_option linter.unusedSimpArgs false
set_option maxRecDepth 100000
theorem small26_any (W : World) : Calls Try.prog 51 #[] W fun e w' => e = .returned (.agg #[.int .u64 0, .int .i64 4, .int .i64 1, .int .i64 1, .int .i64 1, .int .i64 0]) ∧ Below W.heap.size W w' := by
  have hb := below_alloc (Below.refl W.heap.size W) (.cells #[.int .u64 0, .int .i64 4, .int .i64 1, .int .i64 1, .int .i64 1, .int .i64 0] 24)
  have HB := Lib.hid hb
  clear hb
  go_enter Try.func51, Try.ntmps51
  go_wp2_with fail
  refine bodyPost_ret (results_cell_row rfl _ _ W.heap.size 24 #[.int .u64 0, .int .i64 4, .int .i64 1, .int .i64 1, .int .i64 1, .int .i64 0] (0, 0) _ rfl (heap_alloc_new _ _) Try.underlying24 rfl (by kernel_rfl)) rfl ?_
  exact ⟨rfl, HB.out⟩
def s26 : TSet := ⟨0, 4, 1, 1, 1, 0, 1, 1, 5, 5⟩
theorem s26_ok : s26.ok := by unfold TSet.ok TSet.cfg Cfg.ok s26; decide
theorem jok26 (m : Int) (h0 : 0 ≤ m) (h1 : m ≤ 256) : decide (Jok s26.cfg [] m) = true := decide_eq_true ⟨h0, h1, by simp, fun t ht => absurd ht (by simp)⟩
theorem C_nil26 (W : World) : (Kd.int .i64).C W none ([] : List Int).length [] := ⟨rfl, by simp, fun h => absurd h (by simp)⟩
set_option maxHeartbeats 1000000 in
theorem alive26_any (W : World) : Calls Try.prog 13 #[] W fun e w' => e = .returned (.bool true) ∧ Below W.heap.size W w' := by
  have HN := Lib.hid (fun W => adnew_ok W s26 s26_ok)
  rw [show s26.v = .agg #[.int .u64 0, .int .i64 4, .int .i64 1, .int .i64 1, .int .i64 1, .int .i64 0, .int .i64 1, .int .i64 1, .int .i64 5, .int .i64 5] from rfl] at HN
  unfold AdNew at HN
  go_enter Try.func13, Try.ntmps13
  go_wp2_with fail
  refine (small26_any W).mono ?_
  rintro e w0 ⟨rfl, hb⟩
  have HB0 := Lib.hid hb
  clear hb
  go_wp2_with fail
  refine (HN.out _).mono ?_
  rintro e w1 ⟨p, mA, mP, rfl, hT, hps, hb⟩
  have HB1 := Lib.hid (below_then HB0.out HB0.out.size hb)
  have hs := HB0.out.size
  have HP := Lib.hid (show W.heap.size ≤ p ∧ W.heap.size ≤ mA ∧ W.heap.size ≤ mP from ⟨by omega, by omega, by omega⟩)
  have HK := Lib.hid (adtake_in hT (by simp) 1 1 0 0 none 0 [] (C_nil26 w1))
  rw [jok26 0 (by omega) (by omega), show askV s26 [] [] 1 1 ([] : List Int).length true 0 = 0 from rfl] at HK
  unfold TakeR at HK
  rw [if_pos rfl] at HK
  have HK' := Lib.hid (show Calls Try.prog 19 #[.pointer (some ⟨p, 0, none⟩), .int .u64 1, .int .u64 1, .agg #[.int .u64 0, .slice none 0 0, .int .i64 0]] w1 _ from HK.out)
  clear hT hps hb hs HN HK
  go_wp2_with fail
  refine HK'.out.mono ?_
  rintro e w2 ⟨rfl, hT, ht⟩
  have hT2 : Tt w2 p mA mP s26 [(1, 1)] [] (.slice none 0 0) := hT
  have HB2 := Lib.hid (HB1.out.trans (ht.below (base := W.heap.size) (fun k hk => by subst hk; exact HP.out.2.1) HB1.out.size))
  have HK2 := Lib.hid (adtake_in hT2 (by simp) 2 1 0 0 none 0 [] (C_nil26 w2))
  rw [jok26 0 (by omega) (by omega), show askV s26 [(1, 1)] [] 2 1 ([] : List Int).length true 0 = 4 from rfl] at HK2
  unfold TakeR at HK2
  rw [if_neg (by omega)] at HK2
  have HK2' := Lib.hid (show Calls Try.prog 19 #[.pointer (some ⟨p, 0, none⟩), .int .u64 2, .int .u64 1, .agg #[.int .u64 0, .slice none 0 0, .int .i64 0]] w2 _ from HK2.out)
  clear hT ht hT2 HK' HK2
  go_wp2_with fail
  refine HK2'.out.mono ?_
  rintro e w3 ⟨rfl, hT3, ht⟩
  have HB3 := Lib.hid (HB2.out.trans (ht.below (base := W.heap.size) (fun k hk => by subst hk; exact HP.out.2.1) HB2.out.size))
  have HO := Lib.hid (adover_ok hT3 W.heap.size [] (Kd.R_nil _ _ _ _ _) HB3.out.size 1 1 rfl (by simp) 0 rfl (by omega))
  unfold OverR at HO
  clear ht hT3 HK2'
  go_wp2_with fail
  refine HO.out.mono ?_
  rintro e w4 ⟨rfl, lv, hT, -, ht⟩
  have hT4 : Tt w4 p mA mP s26 [] [1] lv := hT
  have HB4 := Lib.hid (HB3.out.trans (ht.below (base := W.heap.size) (fun k hk => by
    rcases hk with rfl | rfl | rfl | hk
    · exact HP.out.1
    · exact HP.out.2.1
    · exact HP.out.2.2
    · simp [Value.ownBlock] at hk) HB3.out.size))
  have HK3 := Lib.hid (adtake_in hT4 (by simp) 1 1 0 0 none 0 [] (C_nil26 w4))
  rw [jok26 0 (by omega) (by omega), show askV s26 [] [1] 1 1 ([] : List Int).length true 0 = 3 from rfl] at HK3
  unfold TakeR at HK3
  rw [if_neg (by omega)] at HK3
  have HK3' := Lib.hid (show Calls Try.prog 19 #[.pointer (some ⟨p, 0, none⟩), .int .u64 1, .int .u64 1, .agg #[.int .u64 0, .slice none 0 0, .int .i64 0]] w4 _ from HK3.out)
  clear hT ht hT4 HO HK3
  go_wp2_with fail
  refine HK3'.out.mono ?_
  rintro e w5 ⟨rfl, hT5, ht⟩
  have HB5 := Lib.hid (HB4.out.trans (ht.below (base := W.heap.size) (fun k hk => by subst hk; exact HP.out.2.1) HB4.out.size))
  have HK4 := Lib.hid (adtake_in hT5 (by simp) 3 1 0 6 none 0 [] (C_nil26 w5))
  rw [jok26 6 (by omega) (by omega), show askV s26 [] [1] 3 1 ([] : List Int).length true 6 = 2 from rfl] at HK4
  unfold TakeR at HK4
  rw [if_neg (by omega)] at HK4
  have HK4' := Lib.hid (show Calls Try.prog 19 #[.pointer (some ⟨p, 0, none⟩), .int .u64 3, .int .u64 1, .agg #[.int .u64 0, .slice none 0 0, .int .i64 6]] w5 _ from HK4.out)
  clear ht hT5 HK3' HK4
  go_wp2_with fail
  refine HK4'.out.mono ?_
  rintro e w6 ⟨rfl, hT6, ht⟩
  have HB6 := Lib.hid (HB5.out.trans (ht.below (base := W.heap.size) (fun k hk => by subst hk; exact HP.out.2.1) HB5.out.size))
  have HN1 := Lib.hid (adknows_in hT6 1)
  have HN2 := Lib.hid (adknows_in hT6 2)
  rw [show ((mlook ([] : List (Int × Int)) 1).isSome || decide ((1 : Int) ∈ [(1 : Int)])) = true from rfl] at HN1
  rw [show ((mlook ([] : List (Int × Int)) 2).isSome || decide ((2 : Int) ∈ [(1 : Int)])) = false from rfl] at HN2
  clear ht hT6 HK4'
  go_wp2_with fail
  refine HN1.out.mono ?_
  rintro e w' ⟨rfl, rfl⟩
  go_wp2_with fail
  refine HN2.out.mono ?_
  rintro e w' ⟨rfl, rfl⟩
  go_wp2_with fail
  go_ret
  exact ⟨rfl, HB6.out⟩
end Go.Proofs.Ytmbhicjjbgbneaa
