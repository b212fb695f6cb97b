/- Rows mixed by weights, in the document. -/
import Derived.Test.YtgedmelohiajjaaGbK
import Derived.Test.YtgedmelohiajjaaProg
import Derived.Test.YtgedmelohiajjaaGbB
import Derived.Test.YtgedmelohiajjaaGbW
import Derived.Test.YtgedmelohiajjaaWMore
import Derived.WalkKit
import Derived.KernelRfl
import Derived.Tactics
import Derived.OwnWalk
import Derived.BigQuiet
import Derived.Deep.QuietTactic
import Derived.Lib.Hide
import Derived.Outline
import Derived.StillTailTactics
import Derived.Deep.RegionLaw
import Derived.Shelf.Abstract
import Derived.WalkSpells
namespace Go.Proofs.Ytgedmelohiajjaa
open Go.RowKit Go.Shelf Go.Proofs.YtgedmelohiajjaaW.PrintWords Go.Proofs.YtgedmelohiajjaaW.PrintLast Go.Proofs.YtgedmelohiajjaaW.PrintMore
set_option linter.unusedVariables false
set_option linter.unusedSimpArgs false
attribute [local go_sem] gb_max2 gb_min2 gb_max_two gb_min_two gb_max_three gb_min_three

/-- Behind the scaled row: what holds of both. -/
theorem rmix_mid {w wr w2 : World} {e : Nat} {v v2 : Value} {L xs : List Int} {y : Int} (hsz : w.heap.size ≤ wr.heap.size) (ho : Own wr w.heap.size e v L) (hb : Below w.heap.size w wr) (ho2 : Own w2 wr.drew.heap.size e v2 (vscale xs y)) (hb2 : Below wr.drew.heap.size wr.drew w2) (hsh : xs.length ≤ 4096) :
    Hid (Own w2 w.heap.size e v L) ∧ Hid (Below w.heap.size w w2) ∧ (vscale xs y).length ≤ 4096 ∧ w.heap.size ≤ w2.heap.size ∧ ∃ A3 c3, v = .slice A3 L.length c3 ∧ L.length ≤ c3 ∧ Hid ((Kd.int .i64).C w2 A3 L.length L) ∧ ∃ A4 c4, v2 = .slice A4 (vscale xs y).length c4 ∧ (vscale xs y).length ≤ c4 ∧ Hid ((Kd.int .i64).C w2 A4 (vscale xs y).length (vscale xs y)) := by
  have h1 : Below wr.heap.size wr w2 := (below_drew (Below.refl _ wr)).trans hb2
  have h2 := ho.below h1
  have h3 := below_then hb hsz h1
  obtain ⟨A3, c3, e3, h4, h5⟩ := h2.reads
  obtain ⟨A4, c4, e4, h6, h7⟩ := ho2.reads
  exact ⟨Lib.hid h2, Lib.hid h3, by rw [vscale_len]; exact hsh, h3.size, A3, c3, e3, h4, Lib.hid h5, A4, c4, e4, h6, Lib.hid h7⟩

theorem rvmix_nil (B A : Option Addr) (d c m : Nat) (w : World) :
    Calls Try.prog 33 #[.slice B m d, .slice A 0 c] w fun e w' => e = .returned (.slice none 0 0) ∧ w = w' := by
  go_enter Try.func33, Try.ntmps33
  go_wp2_with fail
  go_ret
  exact ⟨rfl, rfl⟩

set_option maxRecDepth 100000 in
set_option maxHeartbeats 1000000 in
theorem rvmix_some (B A : Option Addr) (d c : Nat) (ws : List Int) (xss : List (List Int)) (w : World) (hy : (Kd.int .i64).C w B ws.length ws) (hx : Rows_ w A xss) (hs : Short xss) (hc : xss.length ≤ c) (hd : ws.length ≤ d) (hn : xss.length ≤ 4096) (hm : ws.length ≤ 4096) (hp : 0 < xss.length) :
    Calls Try.prog 33 #[.slice B ws.length d, .slice A xss.length c] w fun e w' => ∃ v, e = .returned v ∧ Own w' w.heap.size 2 v (vmix ws xss) ∧ Below w.heap.size w w' := by
  have HX := Lib.hid (fun (W : World) (hb : Below w.heap.size w W) => hx.below hb)
  have HY := Lib.hid (fun (W : World) (hb : Below w.heap.size w W) => Kd.C_below hy hb)
  have HS := Lib.hid hs
  have HV := Lib.hid (show vmix ws xss = mixTo ws xss (min ws.length xss.length) by unfold vmix; rw [if_neg (by omega)])
  have HML := Lib.hid (fun i => Nat.le_trans (mixTo_len ws xss i) (hs 0))
  obtain ⟨a0, A0, c0, ea0, h0, hc0, hC0⟩ := hx.at_ 0 hp
  subst ea0
  simp only [gb_add0] at h0
  have hs0 := hs 0
  obtain ⟨z, hz⟩ : ∃ z, (xss.getD 0 []).length = z := ⟨_, rfl⟩
  have HM0 := Lib.hid (show mixTo ws xss 0 = List.replicate z 0 by rw [← hz]; rfl)
  rw [hz] at h0 hc0 hs0
  obtain ⟨n, hnn⟩ : ∃ n, xss.length = n := ⟨_, rfl⟩
  obtain ⟨m, hmm⟩ : ∃ m, ws.length = m := ⟨_, rfl⟩
  rw [hnn] at hc hn hp HV ⊢
  rw [hmm] at hd hm HV ⊢
  have HN := Lib.hid hnn
  have HM := Lib.hid hmm
  have zz : ((n : Int) == 0) = false := by simp; omega
  have hmk := print_make (P := Try.prog) 22 2 .i64 8 Try.underlying22 infoI64 (by decide) z (by omega)
  have hmo := own_made w w.heap.size 2 .i64 z (Nat.le_refl _) (by omega)
  have HMO := Lib.hid hmo
  clear hx hy hs hz hnn hmm hC0 hmo
  go_enter Try.func33, Try.ntmps33
  go_wp2_with fail
  refine (rcut_any _ _ _ _ hc0 hs0).mono ?_
  rintro e w' ⟨rfl, rfl⟩
  go_wp2_with fail
  obtain ⟨W0, hW0⟩ : ∃ W0, w.alloc (.cells (madeCells #[.int .i64 0] z) 2) = W0 := ⟨_, rfl⟩
  have HB0 := Lib.hid (show Below w.heap.size w W0 by rw [← hW0]; exact below_alloc (Below.refl _ w) _)
  have HO0 := Lib.hid (show Own W0 w.heap.size 2 (.slice (some ⟨w.heap.size, 0, none⟩) z z) (mixTo ws xss 0) by
    rw [← hW0, HM0.out]; exact Kd.R_of_own (enc := Value.int .i64) (h1 := fun _ => rfl) (by simpa [encs, nums] using HMO.out) (fun _ _ => trivial))
  rw [hW0]
  clear hW0 HMO hmk
  go_wp2_with fail
  go_loopw [5, 6] (fun v s wr => ∃ k : Nat, s = .int .i64 k ∧ k ≤ min m n ∧ Own wr w.heap.size 2 v (mixTo ws xss k) ∧ Below w.heap.size w wr) (fun _ s _ => min m n - (intOf s).toNat)
  case atStart => exact ⟨0, rfl, by omega, HO0.out, HB0.out⟩
  case round =>
    obtain ⟨k, rfl, hk, ho, hb⟩ := hrel
    have HO := Lib.hid ho
    have HB := Lib.hid hb
    have hsz := hb.size
    clear ho hb
    by_cases hkn : k < min m n
    · have hk1 : k < m := by omega
      have hk2 : k < n := by omega
      obtain ⟨a1, A', c', ea, c1, hc', hC⟩ := (HX.out _ HB.out).at_ k (by rw [HN.out]; exact hk2)
      obtain ⟨a2, eb, c2⟩ := at_nat (HY.out _ HB.out) k (by rw [HM.out]; exact hk1)
      obtain rfl := Option.some.inj ea
      subst eb
      have hsh := HS.out k
      have HST := Lib.hid (show mixTo ws xss (k + 1) = vadd (mixTo ws xss k) (vscale (xss.getD k []) (ws.getD k 0)) from rfl)
      have hml := HML.out k
      obtain ⟨L, hL⟩ : ∃ L, mixTo ws xss k = L := ⟨_, rfl⟩
      obtain ⟨xs, hxx⟩ : ∃ xs, xss.getD k [] = xs := ⟨_, rfl⟩
      obtain ⟨y, hyy⟩ : ∃ y, ws.getD k 0 = y := ⟨_, rfl⟩
      rw [hxx] at c1 hc' hC hsh HST
      rw [hyy] at c2 HST
      rw [hL] at HO HST hml
      have HC := Lib.hid hC
      clear hxx hyy hC hL
      go_wp2_with fail
      refine (rcut_any _ _ _ _ hd hm).mono ?_
      rintro e w' ⟨rfl, rfl⟩
      go_wp2_with fail
      go_region_with (first
        | (go_at_call 27; refine (rscale_vec A' c' xs y _ (Kd.C_below HC.out (below_drew (Below.refl _ _))) hc' hsh).mono ?_; rintro e w2 ⟨v2, rfl, ho2, hb2⟩; obtain ⟨HO2, HB2, hl4, hsz2, A3, c3, rfl, hc3, HC3, A4, c4, rfl, hc4, HC4⟩ := rmix_mid hsz HO.out HB.out ho2 hb2 hsh; clear ho2 hb2)
        | (go_at_call 25; refine (radd_vec _ _ _ _ _ (vscale xs y) _ HC3.out HC4.out hc3 hc4 (by omega) (by omega)).mono ?_; rintro e w3 ⟨v3, rfl, ho3, hb3⟩; have HO3 := Lib.hid (ho3.lower hsz2); have HB3 := Lib.hid (below_then HB2.out hsz2 hb3); clear ho3 hb3))
      all_goals
        go_wp2_with fail
        go_roundw
        case rel => exact ⟨k + 1, by go_num, by omega, by rw [HST.out]; exact HO3.out, HB3.out⟩
        case measure => simp [intOf]; omega
    · have HF := Lib.hid (show vmix ws xss = mixTo ws xss k by rw [HV.out, show min m n = k by omega])
      by_cases hkk : k < n
      · go_wp2_with fail
        refine (rcut_any _ _ _ _ hd hm).mono ?_
        rintro e w' ⟨rfl, rfl⟩
        go_wp2_with fail
        go_ret
        exact ⟨_, rfl, by rw [HF.out]; exact HO.out, HB.out⟩
      · go_wp2_with fail
        go_ret
        exact ⟨_, rfl, by rw [HF.out]; exact HO.out, HB.out⟩

end Go.Proofs.Ytgedmelohiajjaa
