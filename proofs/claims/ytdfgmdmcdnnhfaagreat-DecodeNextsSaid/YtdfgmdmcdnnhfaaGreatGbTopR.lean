/- The contract of the document's Top. -/
import Derived.Test.YtdfgmdmcdnnhfaaGreatGbHh
import Derived.Test.YtdfgmdmcdnnhfaaGreatGbMx
import Derived.Test.YtdfgmdmcdnnhfaaGreatProg
import Derived.Test.YtdfgmdmcdnnhfaaGreatGbB
import Derived.Test.YtdfgmdmcdnnhfaaGreatGbW
import Derived.Test.YtdfgmdmcdnnhfaaGreatWMore
import Derived.WalkKit
import Derived.KernelRfl
import Derived.Tactics
import Derived.OwnWalk
import Derived.BigQuiet
import Derived.Deep.QuietTactic
import Derived.Lib.Hide
import Derived.Outline
import Derived.StillTailTactics
import Derived.Deep.RegionLaw
import Derived.Shelf.Abstract
import Derived.WalkSpells
namespace Go.Proofs.YtdfgmdmcdnnhfaaGreat
open Go.RowKit Go.Shelf Go.Proofs.YtdfgmdmcdnnhfaaGreatW.PrintWords Go.Proofs.YtdfgmdmcdnnhfaaGreatW.PrintLast Go.Proofs.YtdfgmdmcdnnhfaaGreatW.PrintMore
set_option linter.unusedVariables false
set_option linter.unusedSimpArgs false
set_option maxRecDepth 100000
attribute [local go_sem] gb_max2 gb_min2 gb_max_two gb_min_two gb_max_three gb_min_three

theorem infoBool : (Tryz.prog.info? 4).map (fun i => (i.zero, i.size, i.bytes)) = some (some (.bool false), 1, 1) := by kernel_rfl
/-- A row of one's own, of bools. -/
def OwnB (w : World) (base e g n : Nat) (xs : List Bool) : Prop := xs.length = n ∧ w.ownsRow base e 1 (.slice (some ⟨g, 0, none⟩) n n) n (encs Value.bool xs)
theorem OwnB.at_ {w : World} {base e g n : Nat} {xs : List Bool} (h : OwnB w base e g n xs) (i : Nat) (hi : i < n) : w.cell? ⟨g, i, none⟩ = some (.bool (xs.getD i false)) ∧ w.frozen? ⟨g, i, none⟩ = false := by
  have := own_at_of (d := false) h.2 (i : Int) (by omega) (by omega)
  simpa [rdOf] using this
theorem OwnB.store {w : World} {base e g n : Nat} {xs : List Bool} (h : OwnB w base e g n xs) (i : Nat) (x : Bool) : OwnB (w.setCell ⟨g, i, none⟩ (.bool x)) base e g n (xs.set i x) := by
  have := (own_store_of h.2 (i : Int) x).1
  exact ⟨by rw [List.length_set]; exact h.1, by simpa using this⟩
theorem OwnB.move {w w1 : World} {base e g n : Nat} {xs : List Bool} (h : OwnB w base e g n xs) (hm : w1.heap[g]? = w.heap[g]?) : OwnB w1 base e g n xs :=
  ⟨h.1, own_move h.2 (fun k hk => by
    have : k = g := by simpa [Value.ownBlock] using hk.symm
    subst this; exact hm)⟩
theorem OwnB.drew_ {w : World} {base e g n : Nat} {xs : List Bool} (h : OwnB w base e g n xs) (q : Nat) : OwnB (w.drewN q) base e g n xs := h.move rfl

/-- The same append, with where the new row lies. -/
theorem own_append_at {P : Program} {ops : Array Oper} {rest : List Oper} {o : Oper} {a : Act} {Q : Exit → Act → World → Prop} {w0 : World} (W W' : World) (base : Nat) (hgd : o.guard = none) (s x : Operand) (t e : TypeId)
    (ho : o.op = .call { callee := .builtin .append, args := #[s, x], argTypes := #[t, t] })
    (ht : P.underlying t = some (.slice e)) (hinfo : (P.info? e).map (fun i => (i.zero, i.size, i.bytes)) = some (some (.int .i64 0), 1, 8))
    (v : Value) (xs : List Int) (y : Int) (g : Nat) (hs : a.eval s = v) (hx : a.eval x = .slice (some ⟨g, 0, none⟩) 1 1) (hg : g = W.heap.size) (hW : W' = W.alloc (.cells #[.int .i64 y] e))
    (HO : Own W base e v xs) (HB : Below base w0 W) (hbase : base ≤ W.heap.size) (hl : xs.length ≤ 1000000)
    (h : ∀ v1 w1, Own w1 base e v1 (xs ++ [y]) → Below base w0 w1 → W.grownBy w1 v.ownBlock → (v1.ownBlock = v.ownBlock ∨ ∃ b, v1.ownBlock = some b ∧ W.heap.size ≤ b) → wpList P ops Q rest (a.put o.dst v1) w1) :
    wpList P ops Q (o :: rest) a W' := by
  subst hW hg
  refine print_append_num (w0 := w0) base hgd s x t e .i64 8 ho ht hinfo (by decide) v xs y hs hx (Kd.own_of_R (enc := Value.int .i64) (h1 := fun _ => rfl) HO) HB hbase (by omega) ?_
  intro v1 w1 hr hb hg hat
  exact h v1 w1 (Kd.R_of_own (enc := Value.int .i64) (h1 := fun _ => rfl) hr (fun _ _ => trivial)) hb hg hat
theorem own_block_lt {w : World} {base e : Nat} {v : Value} {xs : List Int} (h : Own w base e v xs) (k : Nat) (hk : v.ownBlock = some k) : k < w.heap.size := own_lt (Kd.own_of_R (enc := Value.int .i64) (h1 := fun _ => rfl) h) k hk

set_option maxRecDepth 100000 in
set_option maxHeartbeats 2000000 in
theorem rtop_any (A : Option Addr) (c : Nat) (xs : List Int) (k : Int) (w : World) (hx : (Kd.int .i64).C w A xs.length xs) (hc : xs.length ≤ c) (hn : xs.length ≤ 4096) :
    Calls Tryz.prog 90 #[.slice A xs.length c, .int .i64 k] w fun e w' => ∃ v, e = .returned v ∧ Own w' w.heap.size 3 v (vtop xs k) ∧ Below w.heap.size w w' := by
  have HX := Lib.hid (fun (W : World) (hb : Below w.heap.size w W) => Kd.C_below hx hb)
  obtain ⟨n, hnn⟩ : ∃ n, xs.length = n := ⟨_, rfl⟩
  have HV := Lib.hid (fun j hj => rtop_vtop xs k j hj)
  have HSP := Lib.hid (fun met i => rbest_spec xs met i)
  have HRM := Lib.hid (fun j => show rmet xs (j + 1) = (rmet xs j).set (rbest xs (rmet xs j) n).toNat true by rw [← hnn]; rfl)
  have HRO := Lib.hid (fun j => show rout xs (j + 1) = rout xs j ++ [rbest xs (rmet xs j) n] by unfold rout; rw [tab_succ, hnn])
  have HPOS := Lib.hid (fun j hj => lft_len_pos xs j hj (rout_inv xs j (Nat.le_of_lt hj)).1)
  have HM0 := Lib.hid (show rmet xs 0 = List.replicate n false by rw [← hnn]; rfl)
  rw [hnn] at hc hn HV HPOS ⊢
  have HN := Lib.hid hnn
  clear hx hnn
  have hmk := print_make_of (P := Tryz.prog) 140 4 (.bool false) 1 Tryz.underlying140 infoBool rfl (by decide) n (by omega)
  have HMO := Lib.hid (own_made_of (enc := Value.bool) (d := false) w w.heap.size 4 n (Nat.le_refl _) (by omega))
  go_enter Tryz.func90, Tryz.ntmps90
  go_wp2_with fail
  refine (rcut_any _ _ _ _ hc hn).mono ?_
  rintro e w' ⟨rfl, rfl⟩
  go_wp2_with fail
  obtain ⟨W0, hW0⟩ : ∃ W0, w.alloc (.cells (madeCells #[.bool false] n) 4) = W0 := ⟨_, rfl⟩
  obtain ⟨g, hg⟩ : ∃ g, w.heap.size = g := ⟨_, rfl⟩
  have HB0 := Lib.hid (show Below g w W0 by rw [← hW0, ← hg]; exact below_alloc (Below.refl _ w) _)
  have HOB0 := Lib.hid (show OwnB W0 g 4 g n (rmet xs 0) by
    rw [← hW0, ← hg, HM0.out]; exact ⟨by simp, HMO.out⟩)
  have hg0 : g < W0.heap.size := by rw [← hW0, ← hg]; simp
  rw [hg] at HX
  rw [hW0, hg]
  have HGG := Lib.hid hg
  clear hW0 HMO hmk hg
  go_loopw [5, 7] (fun v s wr => ∃ j : Nat, s = .int .i64 j ∧ j ≤ n ∧ (j : Int) ≤ max k 0 ∧ Own wr g 3 v (rout xs j) ∧ OwnB wr g 4 g n (rmet xs j) ∧ Below g w wr ∧ Hid (v.ownBlock ≠ some g)) (fun _ s _ => n - (intOf s).toNat)
  case atStart => exact ⟨0, rfl, by omega, by omega, Kd.R_nil _ _ _ _ _, HOB0.out, HB0.out, Lib.hid (by simp [Value.ownBlock])⟩
  case round =>
    obtain ⟨j, rfl, hj, hjk, ho, hm, hb, hvg⟩ := hrel
    have HO := Lib.hid ho
    have HM := Lib.hid hm
    have HB := Lib.hid hb
    clear ho hm hb HOB0 HB0
    by_cases hjn : j < n
    · by_cases hjk2 : (j : Int) < k
      · obtain ⟨wo, rfl⟩ : ∃ wo : World, wo = wr := ⟨_, rfl⟩
        have hml := HM.out.1
        obtain ⟨met, hmet⟩ : ∃ met, rmet xs j = met := ⟨_, rfl⟩
        rw [hmet] at HM hml
        have HMT := Lib.hid hmet
        have HSP2 := Lib.hid (HSP.out met)
        have HML := Lib.hid hml
        clear hmet hml
        have HRB := Lib.hid (fun i => show rbest xs met (i + 1) = if met.getD i false = false ∧ (rbest xs met i < 0 ∨ wi (xs.getD (rbest xs met i).toNat 0) < wi (xs.getD i 0)) then (i : Int) else rbest xs met i from rfl)
        have hgo : g < wo.heap.size := own_lt HM.out.2 g (by simp [Value.ownBlock])
        have hwo : w.heap.size ≤ wo.heap.size := by have h1 := HB.out.size; omega
        go_wp2_with fail
        go_loopw [8, 9] (fun b s wq => ∃ (i : Nat) (bi : Int), b = .int .i64 bi ∧ s = .int .i64 i ∧ i ≤ n ∧ Hid (bi = rbest xs met i) ∧ Below wo.heap.size wo wq ∧ OwnB wq g 4 g n met) (fun _ s _ => n - (intOf s).toNat)
        case atStart => exact ⟨0, -1, rfl, rfl, by omega, Lib.hid rfl, Below.refl _ _, HM.out⟩
        case round =>
          obtain ⟨i, bi, rfl, rfl, hi, hbi, hb, hm⟩ := hrel
          have HB2 := Lib.hid hb
          have HM2 := Lib.hid hm
          have HB3 := Lib.hid (HB.out.trans (hb.mono (Nat.le_of_lt hgo)))
          clear hb hm
          by_cases hin : i < n
          · obtain ⟨m1, -⟩ := HM2.out.at_ i hin
            obtain ⟨a1, ea, c1⟩ := at_nat (HX.out _ HB3.out) i (by rw [HN.out]; exact hin)
            subst ea
            have hr := HRB.out i
            rw [← hbi.out] at hr
            have hsp := HSP2.out i
            rw [← hbi.out] at hsp
            obtain ⟨x, hxx⟩ : ∃ x, xs.getD i 0 = x := ⟨_, rfl⟩
            rw [hxx] at c1 hr
            obtain ⟨mb, hmb⟩ : ∃ mb, met.getD i false = mb := ⟨_, rfl⟩
            rw [hmb] at m1 hr
            clear hxx hmb
            cases mb with
            | true =>
              have HR := Lib.hid (show bi = rbest xs met (i + 1) by rw [hr, if_neg (by simp)])
              clear hr hsp
              go_wp2_with fail
              go_quiet ((first | (go_at_call 86; exact Calls.quiet_of_same (Calls.flip (rwithin_any _ _)))))
              go_wp2_with fail
              go_roundw
              case rel => exact ⟨i + 1, bi, rfl, by go_num, by omega, Lib.hid HR.out, pw_below_drewN HB2.out _, HM2.out.drew_ _⟩
              case measure => simp [intOf]; omega
            | false =>
              rcases hsp with ⟨hb1, -⟩ | ⟨b, hb1, hb2, -, -⟩
              · have HR := Lib.hid (show (i : Int) = rbest xs met (i + 1) by rw [hr, if_pos ⟨rfl, .inl (by omega)⟩])
                clear hr
                subst hb1
                go_wp2_with fail
                go_quiet ((first | (go_at_call 86; exact Calls.quiet_of_same (Calls.flip (rwithin_any _ _)))))
                go_wp2_with fail
                go_roundw
                case rel => exact ⟨i + 1, (i : Int), rfl, by go_num, by omega, Lib.hid HR.out, pw_below_drewN HB2.out _, HM2.out.drew_ _⟩
                case measure => simp [intOf]; omega
              · subst hb1
                obtain ⟨a2, eb, c2⟩ := at_nat (HX.out _ HB3.out) b (by rw [HN.out]; omega)
                obtain rfl := Option.some.inj eb
                obtain ⟨y, hyy⟩ : ∃ y, xs.getD b 0 = y := ⟨_, rfl⟩
                rw [Int.toNat_natCast, hyy] at hr
                rw [hyy] at c2
                clear hyy
                have hbn : b < n := by omega
                have g0 : decide ((b : Int) < 0) = false := decide_eq_false (by omega)
                by_cases hc : wi y < wi x
                · have HR := Lib.hid (show (i : Int) = rbest xs met (i + 1) by rw [hr, if_pos ⟨rfl, .inr hc⟩])
                  have g1 : decide (wi y < wi x) = true := decide_eq_true hc
                  clear hr hc
                  go_wp2_with fail
                  go_quiet ((first | (go_at_call 86; exact Calls.quiet_of_same (Calls.flip (rwithin_any _ _)))))
                  go_wp2_with fail
                  go_roundw
                  case rel => exact ⟨i + 1, (i : Int), rfl, by go_num, by omega, Lib.hid HR.out, pw_below_drewN HB2.out _, HM2.out.drew_ _⟩
                  case measure => simp [intOf]; omega
                · have HR := Lib.hid (show (b : Int) = rbest xs met (i + 1) by
                    rw [hr, if_neg]
                    rintro ⟨-, h | h⟩
                    · omega
                    · exact hc h)
                  have g1 : decide (wi y < wi x) = false := decide_eq_false hc
                  clear hr hc
                  go_wp2_with fail
                  go_quiet ((first | (go_at_call 86; exact Calls.quiet_of_same (Calls.flip (rwithin_any _ _)))))
                  go_wp2_with fail
                  go_roundw
                  case rel => exact ⟨i + 1, (b : Int), rfl, by go_num, by omega, Lib.hid HR.out, pw_below_drewN HB2.out _, HM2.out.drew_ _⟩
                  case measure => simp [intOf]; omega
          · obtain rfl : i = n := by omega
            obtain ⟨b, hb1, hb2, -⟩ := HPOS.out j hjn
            rw [HMT.out, ← hbi.out] at hb1
            subst hb1
            have HRM2 := Lib.hid (show rmet xs (j + 1) = met.set b true by rw [HRM.out, HMT.out, ← hbi.out]; simp)
            have HRO2 := Lib.hid (show rout xs (j + 1) = rout xs j ++ [(b : Int)] by rw [HRO.out, HMT.out, ← hbi.out])
            obtain ⟨m1, f1⟩ := HM2.out.at_ b hb2
            have HO3 := Lib.hid (HO.out.below HB2.out)
            obtain ⟨L, hL⟩ : ∃ L, rout xs j = L := ⟨_, rfl⟩
            have hLl : L.length ≤ 1000000 := by rw [← hL]; unfold rout; rw [tab_len]; omega
            rw [hL] at HO3 HRO2
            clear hL
            obtain ⟨mb, hmb⟩ : ∃ mb, met.getD b false = mb := ⟨_, rfl⟩
            rw [hmb] at m1
            clear hmb
            have hgr : g ≤ wr.heap.size := Nat.le_trans (Nat.le_of_lt hgo) HB2.out.size
            have hgr2 : g < wr.heap.size := Nat.lt_of_lt_of_le hgo HB2.out.size
            have HOW := Lib.hid (HO3.out.move (w1 := wr.setCell ⟨g, b, none⟩ (.bool true)) (fun q hq => Below.heap_setCell _ _ _ q (fun e => hvg.out (by rw [hq, e]))))
            go_wp2_with (at_builtin; refine own_append_at (w0 := w) (wr.setCell ⟨g, b, none⟩ (.bool true)) _ g rfl _ _ 25 3 rfl Tryz.underlying25 infoInt _ L b wr.heap.size rfl rfl (by simp) rfl HOW.out (HB3.out.setCell (p := ⟨g, b, none⟩) (Nat.le_refl _) _) (by simpa using hgr) hLl ?_; intro v1 w1 ho1 hb1 hg1 hat1; have HO1 := Lib.hid ho1; have HB1 := Lib.hid hb1; have HG1 := Lib.hid hg1; have HA1 := Lib.hid hat1; clear ho1 hb1 hg1 hat1)
            go_roundw
            case rel => exact ⟨j + 1, by go_num, by omega, by omega, by rw [HRO2.out]; exact HO1.out, by rw [HRM2.out]; exact (HM2.out.store b true).move (HG1.out.block g (by simpa using hgr2) (fun e => hvg.out e.symm)), HB1.out, Lib.hid (by
              rcases HA1.out with h | ⟨q, h, hq⟩
              · rw [h]; exact hvg.out
              · rw [h]; intro e; have e2 : q = g := by simpa using e
                subst e2; simp at hq; omega)⟩
            case measure => simp [intOf]; omega
      · have HF := Lib.hid (HV.out j (by omega))
        go_wp2_with fail
        go_ret
        exact ⟨_, rfl, by rw [HGG.out, ← HF.out]; exact HO.out, by rw [HGG.out]; exact HB.out⟩
    · have HF := Lib.hid (HV.out j (by omega))
      go_wp2_with fail
      all_goals (go_ret; exact ⟨_, rfl, by rw [HGG.out, ← HF.out]; exact HO.out, by rw [HGG.out]; exact HB.out⟩)

end Go.Proofs.YtdfgmdmcdnnhfaaGreat
