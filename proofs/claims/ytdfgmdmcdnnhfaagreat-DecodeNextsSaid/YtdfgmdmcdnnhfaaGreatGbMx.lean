/- Tables: the products, and rows mixed, in the program and in the document; Rows mixed by weights, in the program and in the document; Rows mixed by weights, in the document; Plain laws of the layer vec; Plain laws of vec.Soft; Tables that came in, as the shell of a law tells them; the mixed rows at any number. -/
import Derived.Test.YtdfgmdmcdnnhfaaGreatGbEf
import Derived.Test.YtdfgmdmcdnnhfaaGreatProg
import Derived.Test.YtdfgmdmcdnnhfaaGreatGbB
import Derived.Test.YtdfgmdmcdnnhfaaGreatGbW
import Derived.Test.YtdfgmdmcdnnhfaaGreatWMore
import Derived.WalkKit
import Derived.KernelRfl
import Derived.Tactics
import Derived.OwnWalk
import Derived.BigQuiet
import Derived.Deep.QuietTactic
import Derived.Lib.Hide
import Derived.Outline
import Derived.StillTailTactics
import Derived.Deep.RegionLaw
import Derived.Shelf.Abstract
import Derived.WalkSpells
namespace Go.Proofs.YtdfgmdmcdnnhfaaGreat
open Go.RowKit Go.Shelf Go.Proofs.YtdfgmdmcdnnhfaaGreatW.PrintWords Go.Proofs.YtdfgmdmcdnnhfaaGreatW.PrintLast Go.Proofs.YtdfgmdmcdnnhfaaGreatW.PrintMore
set_option linter.unusedVariables false
set_option linter.unusedSimpArgs false
set_option maxRecDepth 100000
attribute [local go_sem] gb_max2 gb_min2 gb_max_two gb_min_two gb_max_three gb_min_three

def vmul (xss : List (List Int)) (ys : List Int) : List Int := tab xss.length fun j => vdot (xss.getD j []) ys
def mixTo (ws : List Int) (xss : List (List Int)) : Nat → List Int
  | 0 => List.replicate (xss.getD 0 []).length 0
  | i + 1 => vadd (mixTo ws xss i) (vscale (xss.getD i []) (ws.getD i 0))
def vmix (ws : List Int) (xss : List (List Int)) : List Int := if xss.length = 0 then [] else mixTo ws xss (min ws.length xss.length)
theorem vadd_le (xs ys : List Int) : (vadd xs ys).length ≤ xs.length := by unfold vadd; rw [tab_len]; omega
theorem vscale_len (xs : List Int) (y : Int) : (vscale xs y).length = xs.length := by unfold vscale vmap; rw [tab_len]
theorem mixTo_len (ws : List Int) (xss : List (List Int)) (i : Nat) : (mixTo ws xss i).length ≤ (xss.getD 0 []).length := by
  induction i with
  | zero => simp [mixTo]
  | succ i ih => exact Nat.le_trans (vadd_le _ _) ih
/-- Every row is short. -/
def Short (xss : List (List Int)) : Prop := ∀ j, (xss.getD j []).length ≤ 4096
theorem infoRow : (Tryz.prog.info? 55).map (fun i => (i.zero, i.size, i.bytes)) = some (some (.slice none 0 0), 1, 24) := by kernel_rfl

/-- rows[:n]. -/
theorem cutRows (A : Option Addr) (n c : Nat) (j : Int) (h0 : 0 ≤ j) (h : j ≤ n) (hc : n ≤ c) : ∀ W : World, (Instr.slice 54 (.slice A n c) none (some (.int .i64 j)) none).run Tryz.prog W = .ok (.slice A j.toNat c) W := by
  obtain ⟨i, hi, _, hs, _⟩ := info_parts infoRow
  exact cut_to (P := Tryz.prog) 54 55 .i64 Tryz.underlying54 hi A n c j h0 h hc

set_option maxRecDepth 100000 in
theorem vmul_any (A B : Option Addr) (c d : Nat) (xss : List (List Int)) (ys : List Int) (w : World) (hx : Rows_ w A xss) (hs : Short xss) (hy : (Kd.int .i64).C w B ys.length ys) (hc : xss.length ≤ c) (hd : ys.length ≤ d) (hn : xss.length ≤ 4096) (hm : ys.length ≤ 4096) :
    Calls Tryz.prog 96 #[.slice A xss.length c, .slice B ys.length d] w fun e w' => ∃ v, e = .returned v ∧ Own w' w.heap.size 2 v (vmul xss ys) ∧ Below w.heap.size w w' := by
  have HX := Lib.hid (fun (W : World) (hb : Below w.heap.size w W) => hx.below hb)
  have HY := Lib.hid (fun (W : World) (hb : Below w.heap.size w W) => Kd.C_below hy hb)
  have HS := Lib.hid hs
  obtain ⟨n, hnn⟩ : ∃ n, xss.length = n := ⟨_, rfl⟩
  have HV := Lib.hid (show vmul xss ys = tab n fun j => vdot (xss.getD j []) ys by unfold vmul; rw [hnn])
  rw [hnn] at hc hn ⊢
  have HN := Lib.hid hnn
  have s1 := cutRows A n c (min (n : Int) 4096) (by omega) (by omega) hc
  have e1 : (min (n : Int) 4096).toNat = n := by omega
  rw [e1] at s1
  clear hx hy hs hnn e1
  go_enter Tryz.func96, Tryz.ntmps96
  go_wp2_with fail
  go_loopw [5, 14] (fun v s wr => ∃ k : Nat, s = .int .i64 k ∧ k ≤ n ∧ Own wr w.heap.size 2 v (tab k fun j => vdot (xss.getD j []) ys) ∧ Below w.heap.size w wr) (fun _ s _ => n - (intOf s).toNat)
  case atStart => exact ⟨0, rfl, by omega, Kd.R_nil _ _ _ _ _, Below.refl _ _⟩
  case round =>
    obtain ⟨k, rfl, hk, ho, hb⟩ := hrel
    have HO := Lib.hid ho
    have HB := Lib.hid hb
    have hsz := hb.size
    clear ho hb
    by_cases hkn : k < n
    · obtain ⟨a1, A', c', ea, c1, hc', hC⟩ := (HX.out _ HB.out).at_ k (by rw [HN.out]; exact hkn)
      subst ea
      have HT := Lib.hid (tab_succ k (fun j => vdot (xss.getD j []) ys))
      have hsh := HS.out k
      obtain ⟨xs, hxx⟩ : ∃ xs, xss.getD k [] = xs := ⟨_, rfl⟩
      rw [hxx] at c1 hc' hC hsh
      have HXX := Lib.hid hxx
      have HC := Lib.hid hC
      clear hxx hC
      go_wp2_with fail
      refine (dot_any A' B c' d xs ys wr HC.out (HY.out _ HB.out) hc' hd hsh hm).mono ?_
      rintro e w2 ⟨rfl, hd2⟩
      have hb2 := hd2.below
      have HO2 := Lib.hid (HO.out.below hb2)
      have HB2 := Lib.hid (below_then HB.out hsz hb2)
      have hsz2 := HB2.out.size
      clear hd2 hb2
      go_wp2_with (at_builtin; refine own_append (w0 := w) w2 _ w.heap.size rfl _ _ 55 2 rfl Tryz.underlying55 infoI64 _ _ (vdot xs ys) w2.heap.size rfl rfl rfl rfl HO2.out HB2.out hsz2 (by rw [tab_len]; omega) ?_; intro v1 w1 ho1 hb1; have HO1 := Lib.hid ho1; have HB1 := Lib.hid hb1; clear ho1 hb1)
      go_roundw
      case rel => exact ⟨k + 1, by go_num, by omega, by rw [HT.out, HXX.out]; exact HO1.out, HB1.out⟩
      case measure => simp [intOf]; omega
    · have HF := Lib.hid (show vmul xss ys = tab k fun j => vdot (xss.getD j []) ys by rw [HV.out, show n = k by omega])
      go_wp2_with fail
      go_ret
      exact ⟨_, rfl, by rw [HF.out]; exact HO.out, HB.out⟩

set_option maxRecDepth 100000 in
theorem rvmul_any (A B : Option Addr) (c d : Nat) (xss : List (List Int)) (ys : List Int) (w : World) (hx : Rows_ w A xss) (hs : Short xss) (hy : (Kd.int .i64).C w B ys.length ys) (hc : xss.length ≤ c) (hd : ys.length ≤ d) (hn : xss.length ≤ 4096) (hm : ys.length ≤ 4096) :
    Calls Tryz.prog 76 #[.slice A xss.length c, .slice B ys.length d] w fun e w' => ∃ v, e = .returned v ∧ Own w' w.heap.size 2 v (vmul xss ys) ∧ Below w.heap.size w w' := by
  have HX := Lib.hid (fun (W : World) (hb : Below w.heap.size w W) => hx.below hb)
  have HY := Lib.hid (fun (W : World) (hb : Below w.heap.size w W) => Kd.C_below hy hb)
  have HS := Lib.hid hs
  obtain ⟨n, hnn⟩ : ∃ n, xss.length = n := ⟨_, rfl⟩
  have HV := Lib.hid (show vmul xss ys = tab n fun j => vdot (xss.getD j []) ys by unfold vmul; rw [hnn])
  rw [hnn] at hc hn ⊢
  have HN := Lib.hid hnn
  clear hx hy hs hnn
  go_enter Tryz.func76, Tryz.ntmps76
  go_wp2_with fail
  go_loopw [5, 6] (fun v s wr => ∃ k : Nat, s = .int .i64 k ∧ k ≤ n ∧ Own wr w.heap.size 2 v (tab k fun j => vdot (xss.getD j []) ys) ∧ Below w.heap.size w wr) (fun _ s _ => n - (intOf s).toNat)
  case atStart => exact ⟨0, rfl, by omega, Kd.R_nil _ _ _ _ _, Below.refl _ _⟩
  case round =>
    obtain ⟨k, rfl, hk, ho, hb⟩ := hrel
    have HO := Lib.hid ho
    have HB := Lib.hid hb
    have hsz := hb.size
    clear ho hb
    by_cases hkn : k < n
    · obtain ⟨a1, A', c', ea, c1, hc', hC⟩ := (HX.out _ HB.out).at_ k (by rw [HN.out]; exact hkn)
      subst ea
      have HT := Lib.hid (tab_succ k (fun j => vdot (xss.getD j []) ys))
      have hsh := HS.out k
      obtain ⟨xs, hxx⟩ : ∃ xs, xss.getD k [] = xs := ⟨_, rfl⟩
      rw [hxx] at c1 hc' hC hsh
      have HXX := Lib.hid hxx
      have HC := Lib.hid hC
      have hk4 : k < 4096 := by omega
      clear hxx hC
      go_wp2_with fail
      refine (rdot_any A' B c' d xs ys wr HC.out (HY.out _ HB.out) hc' hd hsh hm).mono ?_
      rintro e w2 ⟨rfl, hd2⟩
      have hb2 := hd2.below
      have HO2 := Lib.hid (HO.out.below hb2)
      have HB2 := Lib.hid (below_then HB.out hsz hb2)
      have hsz2 := HB2.out.size
      clear hd2 hb2
      go_wp2_with (at_builtin; refine own_append (w0 := w) w2 _ w.heap.size rfl _ _ 55 2 rfl Tryz.underlying55 infoI64 _ _ (vdot xs ys) w2.heap.size rfl rfl rfl rfl HO2.out HB2.out hsz2 (by rw [tab_len]; omega) ?_; intro v1 w1 ho1 hb1; have HO1 := Lib.hid ho1; have HB1 := Lib.hid hb1; clear ho1 hb1)
      go_roundw
      case rel => exact ⟨k + 1, by go_num, by omega, by rw [HT.out, HXX.out]; exact HO1.out, HB1.out⟩
      case measure => simp [intOf]; omega
    · have HF := Lib.hid (show vmul xss ys = tab k fun j => vdot (xss.getD j []) ys by rw [HV.out, show n = k by omega])
      go_wp2_with fail
      go_ret
      exact ⟨_, rfl, by rw [HF.out]; exact HO.out, HB.out⟩

end Go.Proofs.YtdfgmdmcdnnhfaaGreat

namespace Go.Proofs.YtdfgmdmcdnnhfaaGreat
open Go.RowKit Go.Shelf Go.Proofs.YtdfgmdmcdnnhfaaGreatW.PrintWords Go.Proofs.YtdfgmdmcdnnhfaaGreatW.PrintLast Go.Proofs.YtdfgmdmcdnnhfaaGreatW.PrintMore
set_option linter.unusedVariables false
set_option linter.unusedSimpArgs false
set_option maxRecDepth 100000
attribute [local go_sem] gb_max2 gb_min2 gb_max_two gb_min_two gb_max_three gb_min_three

theorem vmix_nil (B A : Option Addr) (d c m : Nat) (w : World) :
    Calls Tryz.prog 99 #[.slice B m d, .slice A 0 c] w fun e w' => e = .returned (.slice none 0 0) ∧ w = w' := by
  go_enter Tryz.func99, Tryz.ntmps99
  go_wp2_with fail
  go_ret
  exact ⟨rfl, rfl⟩

set_option maxRecDepth 100000 in
set_option maxHeartbeats 1000000 in
theorem vmix_some (B A : Option Addr) (d c : Nat) (ws : List Int) (xss : List (List Int)) (w : World) (hy : (Kd.int .i64).C w B ws.length ws) (hx : Rows_ w A xss) (hs : Short xss) (hc : xss.length ≤ c) (hd : ws.length ≤ d) (hn : xss.length ≤ 4096) (hm : ws.length ≤ 4096) (hp : 0 < xss.length) :
    Calls Tryz.prog 99 #[.slice B ws.length d, .slice A xss.length c] w fun e w' => ∃ v, e = .returned v ∧ Own w' w.heap.size 2 v (vmix ws xss) ∧ Below w.heap.size w w' := by
  have HX := Lib.hid (fun (W : World) (hb : Below w.heap.size w W) => hx.below hb)
  have HY := Lib.hid (fun (W : World) (hb : Below w.heap.size w W) => Kd.C_below hy hb)
  have HS := Lib.hid hs
  have HV := Lib.hid (show vmix ws xss = mixTo ws xss (min ws.length xss.length) by unfold vmix; rw [if_neg (by omega)])
  have HML := Lib.hid (fun i => Nat.le_trans (mixTo_len ws xss i) (hs 0))
  obtain ⟨a0, A0, c0, ea0, h0, hc0, hC0⟩ := hx.at_ 0 hp
  subst ea0
  simp only [gb_add0] at h0
  have hs0 := hs 0
  obtain ⟨z, hz⟩ : ∃ z, (xss.getD 0 []).length = z := ⟨_, rfl⟩
  have HM0 := Lib.hid (show mixTo ws xss 0 = List.replicate z 0 by rw [← hz]; rfl)
  rw [hz] at h0 hc0 hs0
  obtain ⟨n, hnn⟩ : ∃ n, xss.length = n := ⟨_, rfl⟩
  obtain ⟨m, hmm⟩ : ∃ m, ws.length = m := ⟨_, rfl⟩
  rw [hnn] at hc hn hp HV ⊢
  rw [hmm] at hd hm HV ⊢
  have HN := Lib.hid hnn
  have HM := Lib.hid hmm
  have zz : ((n : Int) == 0) = false := by simp; omega
  have hmk := print_make (P := Tryz.prog) 55 2 .i64 8 Tryz.underlying55 infoI64 (by decide) z (by omega)
  have hmo := own_made w w.heap.size 2 .i64 z (Nat.le_refl _) (by omega)
  have HMO := Lib.hid hmo
  have s1 := cutI64 B m d (min (m : Int) (min (n : Int) 4096)) (by omega) (by omega) hd
  have e1 : (min (m : Int) (min (n : Int) 4096)).toNat = min m n := by omega
  rw [e1] at s1
  clear e1
  clear hx hy hs hz hnn hmm hC0 hmo
  go_enter Tryz.func99, Tryz.ntmps99
  go_wp2_with fail
  refine (cut_any _ _ _ _ hc0 hs0).mono ?_
  rintro e w' ⟨rfl, rfl⟩
  go_wp2_with fail
  refine (cut_any _ _ _ _ hd hm).mono ?_
  rintro e w' ⟨rfl, rfl⟩
  go_wp2_with fail
  obtain ⟨W0, hW0⟩ : ∃ W0, w.alloc (.cells (madeCells #[.int .i64 0] z) 2) = W0 := ⟨_, rfl⟩
  have HB0 := Lib.hid (show Below w.heap.size w W0 by rw [← hW0]; exact below_alloc (Below.refl _ w) _)
  have HO0 := Lib.hid (show Own W0 w.heap.size 2 (.slice (some ⟨w.heap.size, 0, none⟩) z z) (mixTo ws xss 0) by
    rw [← hW0, HM0.out]; exact Kd.R_of_own (enc := Value.int .i64) (h1 := fun _ => rfl) (by simpa [encs, nums] using HMO.out) (fun _ _ => trivial))
  rw [hW0]
  clear hW0 HMO hmk
  go_loopw [5, 26] (fun v s wr => ∃ k : Nat, s = .int .i64 k ∧ k ≤ min m n ∧ Own wr w.heap.size 2 v (mixTo ws xss k) ∧ Below w.heap.size w wr) (fun _ s _ => min m n - (intOf s).toNat)
  case atStart => exact ⟨0, rfl, by omega, HO0.out, HB0.out⟩
  case round =>
    obtain ⟨k, rfl, hk, ho, hb⟩ := hrel
    have HO := Lib.hid ho
    have HB := Lib.hid hb
    have hsz := hb.size
    clear ho hb
    by_cases hkn : k < min m n
    · have hk1 : k < m := by omega
      have hk2 : k < n := by omega
      obtain ⟨a1, A', c', ea, c1, hc', hC⟩ := (HX.out _ HB.out).at_ k (by rw [HN.out]; exact hk2)
      obtain ⟨a2, eb, c2⟩ := at_nat (HY.out _ HB.out) k (by rw [HM.out]; exact hk1)
      obtain rfl := Option.some.inj ea
      subst eb
      have hsh := HS.out k
      have HST := Lib.hid (show mixTo ws xss (k + 1) = vadd (mixTo ws xss k) (vscale (xss.getD k []) (ws.getD k 0)) from rfl)
      have hml := HML.out k
      obtain ⟨L, hL⟩ : ∃ L, mixTo ws xss k = L := ⟨_, rfl⟩
      obtain ⟨xs, hxx⟩ : ∃ xs, xss.getD k [] = xs := ⟨_, rfl⟩
      obtain ⟨y, hyy⟩ : ∃ y, ws.getD k 0 = y := ⟨_, rfl⟩
      rw [hxx] at c1 hc' hC hsh HST
      rw [hyy] at c2 HST
      rw [hL] at HO HST hml
      have HC := Lib.hid hC
      clear hxx hyy hC hL
      have HCW := HC
      have HD := Lib.hid (Below.refl wr.heap.size wr)
      go_wp2_with fail
      refine (scale_any A' c' xs y _ HCW.out hc' hsh).mono ?_
      rintro e w2 ⟨v2, rfl, ho2, hb2⟩
      have HO2 := Lib.hid (HO.out.below (HD.out.trans (hb2.mono HD.out.size)))
      have HB2 := Lib.hid (HB.out.trans ((HD.out.trans (hb2.mono HD.out.size)).mono hsz))
      obtain ⟨A3, c3, rfl, hc3, hC3⟩ := HO2.out.reads
      obtain ⟨A4, c4, rfl, hc4, hC4⟩ := ho2.reads
      have HC3 := Lib.hid hC3
      have HC4 := Lib.hid hC4
      have hl4 : (vscale xs y).length ≤ 4096 := by rw [vscale_len]; exact hsh
      have hsz2 := HB2.out.size
      clear ho2 hb2 hC3 hC4
      go_wp2_with fail
      refine (vadd_any A3 A4 c3 c4 L (vscale xs y) w2 HC3.out HC4.out hc3 hc4 (by omega) (by omega)).mono ?_
      rintro e w3 ⟨v3, rfl, ho3, hb3⟩
      have HO3 := Lib.hid (ho3.lower hsz2)
      have HB3 := Lib.hid (below_then HB2.out hsz2 hb3)
      clear ho3 hb3
      go_wp2_with fail
      go_roundw
      case rel => exact ⟨k + 1, by go_num, by omega, by rw [HST.out]; exact HO3.out, HB3.out⟩
      case measure => simp [intOf]; omega
    · have HF := Lib.hid (show vmix ws xss = mixTo ws xss k by rw [HV.out, show min m n = k by omega])
      go_wp2_with fail
      go_ret
      exact ⟨_, rfl, by rw [HF.out]; exact HO.out, HB.out⟩

end Go.Proofs.YtdfgmdmcdnnhfaaGreat

namespace Go.Proofs.YtdfgmdmcdnnhfaaGreat
open Go.RowKit Go.Shelf Go.Proofs.YtdfgmdmcdnnhfaaGreatW.PrintWords Go.Proofs.YtdfgmdmcdnnhfaaGreatW.PrintLast Go.Proofs.YtdfgmdmcdnnhfaaGreatW.PrintMore
set_option linter.unusedVariables false
set_option linter.unusedSimpArgs false
set_option maxRecDepth 100000
attribute [local go_sem] gb_max2 gb_min2 gb_max_two gb_min_two gb_max_three gb_min_three

/-- Behind the scaled row: what holds of both. -/
theorem rmix_mid {w wr w2 : World} {e : Nat} {v v2 : Value} {L xs : List Int} {y : Int} (hsz : w.heap.size ≤ wr.heap.size) (ho : Own wr w.heap.size e v L) (hb : Below w.heap.size w wr) (ho2 : Own w2 wr.drew.heap.size e v2 (vscale xs y)) (hb2 : Below wr.drew.heap.size wr.drew w2) (hsh : xs.length ≤ 4096) :
    Hid (Own w2 w.heap.size e v L) ∧ Hid (Below w.heap.size w w2) ∧ (vscale xs y).length ≤ 4096 ∧ w.heap.size ≤ w2.heap.size ∧ ∃ A3 c3, v = .slice A3 L.length c3 ∧ L.length ≤ c3 ∧ Hid ((Kd.int .i64).C w2 A3 L.length L) ∧ ∃ A4 c4, v2 = .slice A4 (vscale xs y).length c4 ∧ (vscale xs y).length ≤ c4 ∧ Hid ((Kd.int .i64).C w2 A4 (vscale xs y).length (vscale xs y)) := by
  have h1 : Below wr.heap.size wr w2 := (below_drew (Below.refl _ wr)).trans hb2
  have h2 := ho.below h1
  have h3 := below_then hb hsz h1
  obtain ⟨A3, c3, e3, h4, h5⟩ := h2.reads
  obtain ⟨A4, c4, e4, h6, h7⟩ := ho2.reads
  exact ⟨Lib.hid h2, Lib.hid h3, by rw [vscale_len]; exact hsh, h3.size, A3, c3, e3, h4, Lib.hid h5, A4, c4, e4, h6, Lib.hid h7⟩

theorem rvmix_nil (B A : Option Addr) (d c m : Nat) (w : World) :
    Calls Tryz.prog 82 #[.slice B m d, .slice A 0 c] w fun e w' => e = .returned (.slice none 0 0) ∧ w = w' := by
  go_enter Tryz.func82, Tryz.ntmps82
  go_wp2_with fail
  go_ret
  exact ⟨rfl, rfl⟩

set_option maxRecDepth 100000 in
set_option maxHeartbeats 1000000 in
theorem rvmix_some (B A : Option Addr) (d c : Nat) (ws : List Int) (xss : List (List Int)) (w : World) (hy : (Kd.int .i64).C w B ws.length ws) (hx : Rows_ w A xss) (hs : Short xss) (hc : xss.length ≤ c) (hd : ws.length ≤ d) (hn : xss.length ≤ 4096) (hm : ws.length ≤ 4096) (hp : 0 < xss.length) :
    Calls Tryz.prog 82 #[.slice B ws.length d, .slice A xss.length c] w fun e w' => ∃ v, e = .returned v ∧ Own w' w.heap.size 2 v (vmix ws xss) ∧ Below w.heap.size w w' := by
  have HX := Lib.hid (fun (W : World) (hb : Below w.heap.size w W) => hx.below hb)
  have HY := Lib.hid (fun (W : World) (hb : Below w.heap.size w W) => Kd.C_below hy hb)
  have HS := Lib.hid hs
  have HV := Lib.hid (show vmix ws xss = mixTo ws xss (min ws.length xss.length) by unfold vmix; rw [if_neg (by omega)])
  have HML := Lib.hid (fun i => Nat.le_trans (mixTo_len ws xss i) (hs 0))
  obtain ⟨a0, A0, c0, ea0, h0, hc0, hC0⟩ := hx.at_ 0 hp
  subst ea0
  simp only [gb_add0] at h0
  have hs0 := hs 0
  obtain ⟨z, hz⟩ : ∃ z, (xss.getD 0 []).length = z := ⟨_, rfl⟩
  have HM0 := Lib.hid (show mixTo ws xss 0 = List.replicate z 0 by rw [← hz]; rfl)
  rw [hz] at h0 hc0 hs0
  obtain ⟨n, hnn⟩ : ∃ n, xss.length = n := ⟨_, rfl⟩
  obtain ⟨m, hmm⟩ : ∃ m, ws.length = m := ⟨_, rfl⟩
  rw [hnn] at hc hn hp HV ⊢
  rw [hmm] at hd hm HV ⊢
  have HN := Lib.hid hnn
  have HM := Lib.hid hmm
  have zz : ((n : Int) == 0) = false := by simp; omega
  have hmk := print_make (P := Tryz.prog) 55 2 .i64 8 Tryz.underlying55 infoI64 (by decide) z (by omega)
  have hmo := own_made w w.heap.size 2 .i64 z (Nat.le_refl _) (by omega)
  have HMO := Lib.hid hmo
  clear hx hy hs hz hnn hmm hC0 hmo
  go_enter Tryz.func82, Tryz.ntmps82
  go_wp2_with fail
  refine (rcut_any _ _ _ _ hc0 hs0).mono ?_
  rintro e w' ⟨rfl, rfl⟩
  go_wp2_with fail
  obtain ⟨W0, hW0⟩ : ∃ W0, w.alloc (.cells (madeCells #[.int .i64 0] z) 2) = W0 := ⟨_, rfl⟩
  have HB0 := Lib.hid (show Below w.heap.size w W0 by rw [← hW0]; exact below_alloc (Below.refl _ w) _)
  have HO0 := Lib.hid (show Own W0 w.heap.size 2 (.slice (some ⟨w.heap.size, 0, none⟩) z z) (mixTo ws xss 0) by
    rw [← hW0, HM0.out]; exact Kd.R_of_own (enc := Value.int .i64) (h1 := fun _ => rfl) (by simpa [encs, nums] using HMO.out) (fun _ _ => trivial))
  rw [hW0]
  clear hW0 HMO hmk
  go_wp2_with fail
  go_loopw [5, 6] (fun v s wr => ∃ k : Nat, s = .int .i64 k ∧ k ≤ min m n ∧ Own wr w.heap.size 2 v (mixTo ws xss k) ∧ Below w.heap.size w wr) (fun _ s _ => min m n - (intOf s).toNat)
  case atStart => exact ⟨0, rfl, by omega, HO0.out, HB0.out⟩
  case round =>
    obtain ⟨k, rfl, hk, ho, hb⟩ := hrel
    have HO := Lib.hid ho
    have HB := Lib.hid hb
    have hsz := hb.size
    clear ho hb
    by_cases hkn : k < min m n
    · have hk1 : k < m := by omega
      have hk2 : k < n := by omega
      obtain ⟨a1, A', c', ea, c1, hc', hC⟩ := (HX.out _ HB.out).at_ k (by rw [HN.out]; exact hk2)
      obtain ⟨a2, eb, c2⟩ := at_nat (HY.out _ HB.out) k (by rw [HM.out]; exact hk1)
      obtain rfl := Option.some.inj ea
      subst eb
      have hsh := HS.out k
      have HST := Lib.hid (show mixTo ws xss (k + 1) = vadd (mixTo ws xss k) (vscale (xss.getD k []) (ws.getD k 0)) from rfl)
      have hml := HML.out k
      obtain ⟨L, hL⟩ : ∃ L, mixTo ws xss k = L := ⟨_, rfl⟩
      obtain ⟨xs, hxx⟩ : ∃ xs, xss.getD k [] = xs := ⟨_, rfl⟩
      obtain ⟨y, hyy⟩ : ∃ y, ws.getD k 0 = y := ⟨_, rfl⟩
      rw [hxx] at c1 hc' hC hsh HST
      rw [hyy] at c2 HST
      rw [hL] at HO HST hml
      have HC := Lib.hid hC
      clear hxx hyy hC hL
      go_wp2_with fail
      refine (rcut_any _ _ _ _ hd hm).mono ?_
      rintro e w' ⟨rfl, rfl⟩
      go_wp2_with fail
      go_region_with (first
        | (go_at_call 113; refine (rscale_vec A' c' xs y _ (Kd.C_below HC.out (below_drew (Below.refl _ _))) hc' hsh).mono ?_; rintro e w2 ⟨v2, rfl, ho2, hb2⟩; obtain ⟨HO2, HB2, hl4, hsz2, A3, c3, rfl, hc3, HC3, A4, c4, rfl, hc4, HC4⟩ := rmix_mid hsz HO.out HB.out ho2 hb2 hsh; clear ho2 hb2)
        | (go_at_call 32; refine (radd_vec _ _ _ _ _ (vscale xs y) _ HC3.out HC4.out hc3 hc4 (by omega) (by omega)).mono ?_; rintro e w3 ⟨v3, rfl, ho3, hb3⟩; have HO3 := Lib.hid (ho3.lower hsz2); have HB3 := Lib.hid (below_then HB2.out hsz2 hb3); clear ho3 hb3))
      all_goals
        go_wp2_with fail
        go_roundw
        case rel => exact ⟨k + 1, by go_num, by omega, by rw [HST.out]; exact HO3.out, HB3.out⟩
        case measure => simp [intOf]; omega
    · have HF := Lib.hid (show vmix ws xss = mixTo ws xss k by rw [HV.out, show min m n = k by omega])
      by_cases hkk : k < n
      · go_wp2_with fail
        refine (rcut_any _ _ _ _ hd hm).mono ?_
        rintro e w' ⟨rfl, rfl⟩
        go_wp2_with fail
        go_ret
        exact ⟨_, rfl, by rw [HF.out]; exact HO.out, HB.out⟩
      · go_wp2_with fail
        go_ret
        exact ⟨_, rfl, by rw [HF.out]; exact HO.out, HB.out⟩

end Go.Proofs.YtdfgmdmcdnnhfaaGreat

namespace Go.Proofs.YtdfgmdmcdnnhfaaGreat
open Go.RowKit Go.Proofs.YtdfgmdmcdnnhfaaGreatW.PrintWords Go.Proofs.YtdfgmdmcdnnhfaaGreatW.PrintLast Go.Proofs.YtdfgmdmcdnnhfaaGreatW.PrintMore
set_option linter.unusedVariables false
set_option linter.unusedSimpArgs false
set_option maxRecDepth 100000

theorem fmul_comm (a b : Int) : fmul a b = fmul b a := by unfold fmul; rw [Int.mul_comm]
theorem fadd_comm (a b : Int) : fadd a b = fadd b a := by unfold fadd; rw [Int.add_comm]
theorem dotTo_comm (xs ys : List Int) (n : Nat) : dotTo xs ys n = dotTo ys xs n := by
  induction n with
  | zero => rfl
  | succ n ih => simp only [dotTo]; rw [ih, fmul_comm]
theorem vdot_comm (xs ys : List Int) : vdot xs ys = vdot ys xs := by unfold vdot; rw [dotTo_comm, Nat.min_comm]
theorem vadd_comm (xs ys : List Int) : vadd xs ys = vadd ys xs := by
  unfold vadd; rw [Nat.min_comm]
  exact tab_congr _ _ _ fun i _ => fadd_comm _ _
theorem vadd_len (xs ys : List Int) : (vadd xs ys).length ≤ xs.length := by unfold vadd; rw [tab_len]; omega

/-- Soft at any length. -/
theorem soft_any (A : Option Addr) (c : Nat) (xs : List Int) (w : World) (hx : (Kd.int .i64).C w A xs.length xs) (hc : xs.length ≤ c) (hn : xs.length ≤ 4096) :
    Calls Tryz.prog 72 #[.slice A xs.length c] w fun e w' => ∃ v, e = .returned v ∧ Own w' w.heap.size 2 v (vsoft xs) ∧ Below w.heap.size w w' := by
  by_cases hp : 0 < xs.length
  · exact soft_some A c xs w hx hc hn hp
  · obtain rfl : xs = [] := List.eq_nil_of_length_eq_zero (by omega)
    exact (soft_nil A c w).mono fun e w' ⟨h1, h2⟩ => by subst h2; exact ⟨_, h1, Kd.R_nil _ _ _ _ _, Below.refl _ _⟩
theorem rsoft_any (A : Option Addr) (c : Nat) (xs : List Int) (w : World) (hx : (Kd.int .i64).C w A xs.length xs) (hc : xs.length ≤ c) (hn : xs.length ≤ 4096) :
    Calls Tryz.prog 83 #[.slice A xs.length c] w fun e w' => ∃ v, e = .returned v ∧ Own w' w.heap.size 2 v (vsoft xs) ∧ Below w.heap.size w w' := by
  by_cases hp : 0 < xs.length
  · exact rsoft_some A c xs w hx hc hn hp
  · obtain rfl : xs = [] := List.eq_nil_of_length_eq_zero (by omega)
    exact (rsoft_nil A c w).mono fun e w' ⟨h1, h2⟩ => by subst h2; exact ⟨_, h1, Kd.R_nil _ _ _ _ _, Below.refl _ _⟩

end Go.Proofs.YtdfgmdmcdnnhfaaGreat

namespace Go.Proofs.YtdfgmdmcdnnhfaaGreat
set_option linter.unusedVariables false
set_option linter.unusedSimpArgs false
set_option maxRecDepth 100000

theorem fep_mono {f g : Int} (h0 : 0 ≤ f) (h : f ≤ g) (h1 : g ≤ 65535) : fep f ≤ fep g := by
  unfold fep
  have h2 : 43691 + f * 21845 / 65536 ≤ 43691 + g * 21845 / 65536 := by omega
  have h3 : f * (43691 + f * 21845 / 65536) ≤ g * (43691 + g * 21845 / 65536) := Int.mul_le_mul h h2 (by omega) (by omega)
  generalize f * (43691 + f * 21845 / 65536) = a at *
  generalize g * (43691 + g * 21845 / 65536) = b at *
  omega
theorem ediv_anti {p a c : Int} (hp : 0 ≤ p) (hc : 0 < c) (h : c ≤ a) : p / a ≤ p / c := by
  refine Int.le_ediv_of_mul_le hc ?_
  have h1 : p / a * c ≤ p / a * a := Int.mul_le_mul_of_nonneg_left h (Int.ediv_nonneg hp (by omega))
  have h2 : p / a * a ≤ p := Int.ediv_mul_le p (by omega)
  omega
theorem half_le {p q a b : Int} (hb : 0 < b) (ha : 2 * b ≤ a) (hp0 : 0 ≤ p) (hp : p ≤ 131072) (hq : 65536 ≤ q) : p / a ≤ q / b := by
  have h1 : p / a ≤ p / (2 * b) := ediv_anti hp0 (by omega) ha
  have h2 : p / (2 * b) ≤ 131072 / (2 * b) := Int.ediv_le_ediv (by omega) hp
  have h3 : (131072 : Int) / (2 * b) = 65536 / b := by
    rw [show (131072 : Int) = 2 * 65536 from rfl, Int.mul_ediv_mul_of_pos _ _ (by decide)]
  have h4 : 65536 / b ≤ q / b := Int.ediv_le_ediv hb hq
  omega
theorem pow_succ_le (m n : Nat) (h : m < n) : 2 * (2 : Int) ^ m ≤ 2 ^ n := by
  have : (2 : Nat) ^ (m + 1) ≤ 2 ^ n := Nat.pow_le_pow_right (by decide) h
  have h2 : ((2 ^ (m + 1) : Nat) : Int) ≤ ((2 ^ n : Nat) : Int) := by exact_mod_cast this
  rw [Nat.pow_succ] at h2
  push_cast at h2
  omega
theorem pow_pos' (m : Nat) : (0 : Int) < 2 ^ m := Int.pow_pos (by decide)
/-- Exp of what is not above 0. -/
theorem fexp_neg {z : Int} (h : wi z ≤ 0) : 0 ≤ fexp z ∧ fexp z ≤ 65536 := by
  have hl := wi_lo z
  unfold fexp fey
  generalize hy : wi z * 94548 / 65536 = y
  have hy0 : y ≤ 0 := by omega
  have hf := fep_in (y % 65536) (by omega) (by omega)
  rw [if_neg (by omega)]
  by_cases hk : 0 ≤ y / 65536
  · have : y = 0 := by omega
    subst this
    rw [if_pos hk]
    decide
  · rw [if_neg hk]
    have h1 := pow_succ_le 0 (min (-(y / 65536)) 62).toNat (by omega)
    constructor
    · exact Int.ediv_nonneg (by omega) (by omega)
    · have := half_le (p := fep (y % 65536)) (q := 65536) (a := 2 ^ (min (-(y / 65536)) 62).toNat) (b := 1) (by omega) (by simpa using h1) (by omega) (by omega) (by omega)
      simpa using this
theorem fexp_mono {z u : Int} (h : wi z ≤ wi u) (hu : wi u ≤ 0) : fexp z ≤ fexp u := by
  have hz := fexp_neg (z := z) (by omega)
  have hl := wi_lo z
  unfold fexp fey at *
  generalize hy : wi z * 94548 / 65536 = y at *
  generalize hv : wi u * 94548 / 65536 = v at *
  have hyv : y ≤ v := by omega
  have hv0 : v ≤ 0 := by omega
  have hf := fep_in (y % 65536) (by omega) (by omega)
  have hg := fep_in (v % 65536) (by omega) (by omega)
  rw [if_neg (by omega)] at *
  rw [if_neg (by omega : ¬ 16 ≤ v / 65536)]
  by_cases hk : 0 ≤ v / 65536
  · have : v = 0 := by omega
    subst this
    rw [if_pos hk, show wi (fep (0 % 65536) * 2 ^ (0 / 65536 : Int).toNat) = 65536 by decide]
    exact hz.2
  · rw [if_neg hk]
    rw [if_neg (by omega : ¬ 0 ≤ y / 65536)]
    by_cases he : y / 65536 = v / 65536
    · rw [he]
      exact Int.ediv_le_ediv (pow_pos' _) (fep_mono (by omega) (by omega) (by omega))
    · by_cases hbig : 62 ≤ -(v / 65536)
      · rw [show (min (-(y / 65536)) 62).toNat = (min (-(v / 65536)) 62).toNat by omega]
        rw [pow_big _ _ (by omega) (by omega) (by omega), pow_big _ _ (by omega) (by omega) (by omega)]
        exact Int.le_refl _
      · exact half_le (pow_pos' _) (pow_succ_le _ _ (by omega)) (by omega) (by omega) (by omega)
theorem maxTo_ge (xs : List Int) (n : Nat) : ∀ j, j ≤ n → xs.getD j 0 ≤ maxTo xs n := by
  induction n with
  | zero => intro j hj; obtain rfl : j = 0 := by omega
            exact Int.le_refl _
  | succ n ih =>
    intro j hj
    simp only [maxTo]
    by_cases e : j = n + 1
    · subst e; omega
    · have := ih j (by omega); omega
theorem maxTo_is (xs : List Int) (n : Nat) : ∃ j, j ≤ n ∧ xs.getD j 0 = maxTo xs n := by
  induction n with
  | zero => exact ⟨0, by omega, rfl⟩
  | succ n ih =>
    obtain ⟨j, h1, h2⟩ := ih
    simp only [maxTo]
    by_cases c : maxTo xs n ≤ xs.getD (n + 1) 0
    · exact ⟨n + 1, by omega, by omega⟩
    · exact ⟨j, by omega, by omega⟩
theorem vmax_ge (xs : List Int) (j : Nat) (h : j < xs.length) : xs.getD j 0 ≤ vmax xs := maxTo_ge xs _ j (by omega)
theorem vexp_arg (xs : List Int) (j : Nat) (h : j < xs.length) : wi (fadd (xs.getD j 0) (-(wi (vmax xs)))) ≤ 0 := by
  have h1 := wi_mono (vmax_ge xs j h)
  have h2 := wi_lo (vmax xs); have h3 := wi_hi (vmax xs)
  have h4 := wi_lo (xs.getD j 0)
  unfold fadd
  rw [wi_wi]
  generalize wi (vmax xs) = t at *
  generalize wi (xs.getD j 0) = x at *
  unfold wi
  omega
theorem vexp_in (xs : List Int) (j : Nat) (h : j < xs.length) : 0 ≤ vexp xs j ∧ vexp xs j ≤ 65536 := fexp_neg (vexp_arg xs j h)
theorem vexp_mono (xs : List Int) (i k : Nat) (hi : i < xs.length) (hk : k < xs.length) (h : wi (xs.getD i 0) ≤ wi (xs.getD k 0)) : vexp xs i ≤ vexp xs k := by
  refine fexp_mono ?_ (vexp_arg xs k hk)
  unfold fadd
  rw [wi_wi, wi_wi]
  exact wi_mono (by omega)
theorem sumTo_is (f : Nat → Int) (n : Nat) (hn : n ≤ 4096) : (∀ j, j < n → 0 ≤ f j ∧ f j ≤ 65536) → 0 ≤ sumTo f n ∧ sumTo f n ≤ (n : Int) * 65536 ∧ ∀ j, j < n → f j ≤ sumTo f n := by
  induction n with
  | zero => intro _; exact ⟨by simp [sumTo], by simp [sumTo], fun j hj => absurd hj (Nat.not_lt_zero _)⟩
  | succ n ih =>
    intro h
    obtain ⟨h1, h2, h3⟩ := ih (by omega) (fun j hj => h j (by omega))
    have h4 := h n (by omega)
    have e : sumTo f (n + 1) = sumTo f n + f n := by
      simp only [sumTo]
      unfold fadd
      rw [wi_id (sumTo f n) (by omega) (by omega), wi_id (f n) (by omega) (by omega), wi_id _ (by omega) (by omega)]
    rw [e]
    refine ⟨by omega, by push_cast; omega, fun j hj => ?_⟩
    by_cases c : j = n
    · subst c; omega
    · have := h3 j (by omega); omega
theorem vsum_pos (xs : List Int) (hn : xs.length ≤ 4096) (hp : 0 < xs.length) : 0 < sumTo (vexp xs) xs.length := by
  obtain ⟨j, h1, h2⟩ := maxTo_is xs (xs.length - 1)
  have h3 := (sumTo_is (vexp xs) xs.length hn (fun j hj => vexp_in xs j hj)).2.2 j (by omega)
  have h4 : 65534 ≤ vexp xs j := by
    have e : wi (xs.getD j 0) = wi (vmax xs) := by unfold vmax; rw [h2]
    have h5 := wi_lo (vmax xs); have h6 := wi_hi (vmax xs)
    have h7 : wi (fadd (xs.getD j 0) (-(wi (vmax xs)))) = 0 ∨ wi (fadd (xs.getD j 0) (-(wi (vmax xs)))) = -1 := by
      unfold fadd
      rw [wi_wi, e]
      generalize wi (vmax xs) = t at *
      unfold wi; omega
    unfold vexp
    have key : ∀ z : Int, wi z = 0 ∨ wi z = -1 → 65534 ≤ fexp z := by
      intro z hz
      unfold fexp fey
      rcases hz with hz | hz <;> rw [hz] <;> decide
    exact key _ h7
  omega
theorem fdiv_pos {e S : Int} (h0 : 0 ≤ e) (h1 : e ≤ 65536) (hS : 0 < S) (hS1 : S ≤ 2147483647) : fdiv e S = wi (e * 65536 / S) := by
  unfold fdiv
  rw [wi_id S (by omega) (by omega), wi_id e (by omega) (by omega), if_neg (by omega)]
  unfold ffl
  rw [Int.fdiv_eq_ediv_of_nonneg _ (by omega)]
/-- The law of vec.Soft. -/
theorem vsoft_law (xs : List Int) (hn : xs.length ≤ 4096) (i : Nat) (hi : i < xs.length) :
    0 ≤ (vsoft xs).getD i 0 ∧ (vsoft xs).getD i 0 ≤ 65536 ∧ ∀ k, k < xs.length → wi (xs.getD i 0) ≤ wi (xs.getD k 0) → (vsoft xs).getD i 0 ≤ (vsoft xs).getD k 0 := by
  have hs := sumTo_is (vexp xs) xs.length hn (fun j hj => vexp_in xs j hj)
  have hp := vsum_pos xs hn (by omega)
  have hi1 := vexp_in xs i hi
  have hle := hs.2.2 i hi
  unfold vsoft
  rw [tab_get _ _ _ hi, fdiv_pos hi1.1 hi1.2 hp (by omega)]
  have e1 : 0 ≤ vexp xs i * 65536 / sumTo (vexp xs) xs.length := Int.ediv_nonneg (by omega) (by omega)
  have e2 : vexp xs i * 65536 / sumTo (vexp xs) xs.length ≤ 65536 := by
    have : vexp xs i * 65536 / sumTo (vexp xs) xs.length ≤ (65536 * sumTo (vexp xs) xs.length) / sumTo (vexp xs) xs.length := Int.ediv_le_ediv hp (by omega)
    rwa [Int.mul_ediv_cancel _ (by omega)] at this
  refine ⟨by unfold wi; omega, by unfold wi; omega, fun k hk h => ?_⟩
  have hk1 := vexp_in xs k hk
  rw [tab_get _ _ _ hk, fdiv_pos hk1.1 hk1.2 hp (by omega)]
  refine wi_mono (Int.ediv_le_ediv hp ?_)
  have := vexp_mono xs i k hi hk h
  omega

end Go.Proofs.YtdfgmdmcdnnhfaaGreat

namespace Go.Proofs.YtdfgmdmcdnnhfaaGreat
open Go.RowKit Go.Shelf Go.Proofs.YtdfgmdmcdnnhfaaGreatW.PrintWords Go.Proofs.YtdfgmdmcdnnhfaaGreatW.PrintLast Go.Proofs.YtdfgmdmcdnnhfaaGreatW.PrintMore
set_option linter.unusedVariables false
set_option linter.unusedSimpArgs false
set_option maxRecDepth 100000

/-- A slice of slices of integers that came in. -/
theorem istab_rows {w : World} {a : Option Addr} {len cap : Nat} {A : Nat → Option Addr} {L C : Nat → Nat} {Z : Nat → List Int}
    (h : (a = none ∧ len = 0 ∧ cap = 0) ∨ ∃ x, a = some x ∧ len ≤ cap ∧ cap ≤ maxLen ∧ ∀ r, r < cap → w.cell? (x.add r) = some (.slice (A r) (L r) (C r)) ∧ L r ≤ C r ∧
      ((A r = none ∧ L r = 0 ∧ C r = 0 ∧ Z r = []) ∨ ∃ x, A r = some x ∧ L r ≤ C r ∧ C r ≤ maxLen ∧ (Z r).length = C r ∧ (∀ i, i < (Z r).length → w.cell? (x.add i) = some (.int .i64 ((Z r).getD i 0))) ∧ ∀ n ∈ Z r, (Lit.int .i64 n).wf = true)) :
    ∃ xss : List (List Int), len = xss.length ∧ Rows_ w a xss ∧ xss.length ≤ cap ∧ xss.length ≤ 9223372036854775807 := by
  rcases h with ⟨rfl, rfl, rfl⟩ | ⟨x, rfl, h1, h2, h3⟩
  · exact ⟨[], rfl, ⟨rfl, by simp, fun h => absurd h (Nat.lt_irrefl 0)⟩, by simp, by simp⟩
  · have h4 : ∀ r, ∃ xs : List Int, r < cap → L r = xs.length ∧ (Kd.int .i64).C w (A r) xs.length xs ∧ xs.length ≤ C r := by
      intro r
      by_cases hr : r < cap
      · obtain ⟨xs, e1, e2, e3, -⟩ := isrow_C (h3 r hr).2.2
        exact ⟨xs, fun _ => ⟨e1, e2, e3⟩⟩
      · exact ⟨[], fun h => absurd h hr⟩
    obtain ⟨f, hf⟩ := Classical.axiomOfChoice h4
    have hml : maxLen ≤ 9223372036854775807 := by unfold maxLen; omega
    refine ⟨(List.range len).map f, by simp, ⟨rfl, by rw [List.length_map, List.length_range]; unfold maxLen at h2; omega, fun _ => ⟨x, rfl, fun j p hj => ?_⟩⟩, by simpa using h1, by simp; omega⟩
    obtain ⟨hj1, hj2⟩ := List.getElem?_eq_some_iff.1 hj
    have hjl : j < len := by simpa using hj1
    obtain rfl : f j = p := by simpa using hj2
    obtain ⟨e1, e2, e3⟩ := hf j (by omega)
    refine ⟨[.slice (A j) (f j).length (C j)], rfl, ⟨A j, C j, rfl, e3, e2⟩, fun i u hu => ?_⟩
    cases i with
    | zero =>
      have : Value.slice (A j) (f j).length (C j) = u := by simpa using hu
      subst this
      rw [show (Kd.slice 2 (Kd.int .i64)).sz = 1 from rfl, Nat.mul_one, Nat.add_zero, (h3 j (by omega)).1, e1]
    | succ i => simp at hu
theorem vmix_len (ws : List Int) (xss : List (List Int)) : (vmix ws xss).length ≤ (xss.getD 0 []).length := by
  unfold vmix
  split
  · simp
  · exact mixTo_len _ _ _
theorem vmul_len (xss : List (List Int)) (ys : List Int) : (vmul xss ys).length = xss.length := by unfold vmul; rw [tab_len]
theorem vmix_any (B A : Option Addr) (d c : Nat) (ws : List Int) (xss : List (List Int)) (w : World) (hy : (Kd.int .i64).C w B ws.length ws) (hx : Rows_ w A xss) (hs : Short xss) (hc : xss.length ≤ c) (hd : ws.length ≤ d) (hn : xss.length ≤ 4096) (hm : ws.length ≤ 4096) :
    Calls Tryz.prog 99 #[.slice B ws.length d, .slice A xss.length c] w fun e w' => ∃ v, e = .returned v ∧ Own w' w.heap.size 2 v (vmix ws xss) ∧ Below w.heap.size w w' := by
  by_cases hp : 0 < xss.length
  · exact vmix_some B A d c ws xss w hy hx hs hc hd hn hm hp
  · obtain rfl : xss = [] := List.eq_nil_of_length_eq_zero (by omega)
    exact (vmix_nil B A d c ws.length w).mono fun e w' ⟨h1, h2⟩ => by subst h2; exact ⟨_, h1, Kd.R_nil _ _ _ _ _, Below.refl _ _⟩
theorem rvmix_any (B A : Option Addr) (d c : Nat) (ws : List Int) (xss : List (List Int)) (w : World) (hy : (Kd.int .i64).C w B ws.length ws) (hx : Rows_ w A xss) (hs : Short xss) (hc : xss.length ≤ c) (hd : ws.length ≤ d) (hn : xss.length ≤ 4096) (hm : ws.length ≤ 4096) :
    Calls Tryz.prog 82 #[.slice B ws.length d, .slice A xss.length c] w fun e w' => ∃ v, e = .returned v ∧ Own w' w.heap.size 2 v (vmix ws xss) ∧ Below w.heap.size w w' := by
  by_cases hp : 0 < xss.length
  · exact rvmix_some B A d c ws xss w hy hx hs hc hd hn hm hp
  · obtain rfl : xss = [] := List.eq_nil_of_length_eq_zero (by omega)
    exact (rvmix_nil B A d c ws.length w).mono fun e w' ⟨h1, h2⟩ => by subst h2; exact ⟨_, h1, Kd.R_nil _ _ _ _ _, Below.refl _ _⟩

end Go.Proofs.YtdfgmdmcdnnhfaaGreat
