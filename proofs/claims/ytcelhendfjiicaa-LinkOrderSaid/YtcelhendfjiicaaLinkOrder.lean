/- As long as nothing is dropped, doubled, put later or turned, all comes in order. -/
import Derived.Test.YtcelhendfjiicaaRows
import Derived.WalkKit
import Derived.ProofKit
import Derived.OpenShut
import Derived.ShutString
import Derived.ChangeOld
import Derived.Below
import Derived.Test.YtcelhendfjiicaaOpn
import Derived.Test.YtcelhendfjiicaaLkU
namespace Go.Proofs.Ytcelhendfjiicaa.linkOrder
open Go.ChangeShapes Go.WideShapes Go.ChangeAt Go.RowKit
open Go.ChangeMaps (open_string shut_string)
set_option linter.unusedVariables false
set_option linter.unusedSimpArgs false
open Go.Proofs.YtcelhendfjiicaaW.PrintWords Go.Proofs.YtcelhendfjiicaaW.PrintLast Go.Proofs.YtcelhendfjiicaaW.PrintMore

theorem own : ownKnob Try.prog.godebug = none := by kernel_rfl
theorem laidOut : laidOutB Try.prog = true := by kernel_rfl

set_option maxRecDepth 100000
abbrev KB8 : Kd (List Int) := Kd.slice 5 (Kd.int .u8)
abbrev KTx : Kd (List (List Int)) := Kd.slice 28 KB8
theorem op_txs : Opens Try.prog 22 KTx (fun xss => (∀ xs ∈ xss, (∀ x ∈ xs, (Lit.int .u8 x).wf = true) ∧ xs.length ≤ maxLen) ∧ xss.length ≤ maxLen) :=
  Opens.slice Try.underlying22 (by kernel_rfl) (Opens.slice Try.underlying28 (by kernel_rfl) (Opens.int Try.underlying5))
theorem slice_came {α : Type} {e : Nat} {d : Kd α} {w : World} {a : Option Addr} {len cap : Nat} {xs : List α} (h : (Kd.slice e d).K w xs [.slice a len cap]) : len = xs.length ∧ xs.length ≤ cap ∧ d.C w a xs.length xs := by
  obtain ⟨A, c, he, hl, hC⟩ := h
  simp only [List.cons.injEq, Value.slice.injEq, and_true] at he
  obtain ⟨rfl, rfl, rfl⟩ := he
  exact ⟨rfl, hl, hC⟩
theorem txs_at {w : World} {A : Option Addr} {xss : List (List Int)} (h : KB8.C w A xss.length xss) (k : Nat) (hk : k < xss.length) :
    ∃ (ad : Addr) (A' : Option Addr) (c' : Nat), A = some ad ∧ w.cell? (ad.add k) = some (.slice A' (xss.getD k []).length c') ∧ (xss.getD k []).length ≤ c' ∧ (Kd.int .u8).C w A' (xss.getD k []).length (xss.getD k []) := by
  obtain ⟨ad, c, e, hl, hK, hcell⟩ := Kd.C_get h [] (k : Int) (by omega) (by omega)
  obtain ⟨A', c', rfl, h1, h2⟩ := hK
  refine ⟨ad, A', c', e, ?_, by simpa using h1, by simpa using h2⟩
  have := hcell 0 _ rfl
  simpa [show KB8.sz = 1 from rfl] using this
def Qd (l : List (List Int)) (i a : Nat) : List (List Int) := (l.take i).drop a
theorem Qd_len (l : List (List Int)) (i a : Nat) (hi : i ≤ l.length) : (Qd l i a).length = i - a := by unfold Qd; rw [List.length_drop, List.length_take]; omega
theorem Qd_put (l : List (List Int)) (i a : Nat) (hi : i < l.length) (ha : a ≤ i) : Qd l i a ++ [l.getD i []] = Qd l (i + 1) a := by
  unfold Qd
  rw [List.take_succ_eq_append_getElem hi, List.drop_append_of_le_length (by rw [List.length_take]; omega), List.getD_eq_getElem?_getD, List.getElem?_eq_getElem hi]; rfl
theorem Qd_get (l : List (List Int)) (i a : Nat) (hi : i ≤ l.length) (ha : a < i) : (Qd l i a).getD 0 [] = l.getD a [] := by
  unfold Qd
  rw [List.getD_eq_getElem?_getD, List.getElem?_drop, List.getElem?_take_of_lt (by omega), List.getD_eq_getElem?_getD]; rfl
theorem Qd_del (l : List (List Int)) (i a : Nat) : erase (Qd l i a) 0 = Qd l i (a + 1) := by
  unfold erase Qd; rw [List.take_zero, List.nil_append, List.drop_drop]
attribute [local go_sem] gb_max2 gb_min2 gb_max_two gb_min_two gb_max_three gb_min_three
set_option maxHeartbeats 2000000 in
theorem walk (a0 : Option Addr) (len0 cap0 : Nat) (x0 : List (List Int)) (a1 : Int) (w : World) (k0 : KTx.K w x0 [.slice a0 len0 cap0]) (gd0 : (fun xss => (∀ xs ∈ xss, (∀ x ∈ xs, (Lit.int .u8 x).wf = true) ∧ xs.length ≤ maxLen) ∧ xss.length ≤ maxLen) x0) (gd1 : (Lit.int .u8 a1).wf = true) :
    Calls Try.prog 3 #[.slice a0 len0 cap0, .int .u8 a1] w fun e w' => e = .returned (.bool true) ∧ Below w.heap.size w w' := by
  obtain ⟨rfl, hcx, hx⟩ := slice_came k0
  obtain ⟨l, hl⟩ : ∃ l, x0 = l := ⟨_, rfl⟩
  subst hl
  have hm0 : 0 ≤ a1 ∧ a1 ≤ 255 := by
    have h := gd1
    change (decide ((0 : Int) ≤ a1) && decide (a1 ≤ (255 : Int))) = true at h
    simpa using h
  have HX := Lib.hid (fun (W' : World) (hb : Below w.heap.size w W') => Kd.C_below hx hb)
  obtain ⟨n, hn⟩ : ∃ n, x0.length = n := ⟨_, rfl⟩
  have hn9 : n ≤ 9223372036854775807 := by rw [← hn]; exact hx.2.1
  rw [hn] at hcx
  rw [hn]
  have HN := Lib.hid hn
  clear k0 gd0 gd1 hx hn
  go_enter Try.func3, Try.ntmps3
  go_wp2_with fail
  refine (lnew_any 256 _ (by omega) (by omega)).mono ?_
  unfold LkNew
  rintro e w1 ⟨p, rfl, hL, hb⟩
  have HL := Lib.hid hL
  have HB := Lib.hid hb
  clear hL hb
  by_cases h200 : 200 < n
  · go_wp2_with fail
    refine (alive21_any _).mono ?_
    rintro e w2 ⟨rfl, hb⟩
    have HB := Lib.hid (below_then HB.out HB.out.size hb)
    clear hb
    go_wp2_with fail
    go_ret
    exact ⟨rfl, HB.out⟩
  · go_wp2_with fail
    go_loopw [7, 38] (fun x s wr => ∃ i a : Nat, x = .int .i64 a ∧ s = .int .i64 i ∧ i ≤ n ∧ a ≤ i ∧ Hid (Lk wr w.heap.size p 256 (Qd x0 i a) i a 0 0) ∧ Hid (Below w.heap.size w wr)) (fun _ s _ => n - (intOf s).toNat)
    case atStart => exact ⟨0, 0, rfl, rfl, by omega, by omega, HL, HB⟩
    case round =>
      obtain ⟨i, a, rfl, rfl, hi, ha, HLr, HBr⟩ := hrel
      by_cases hin : i < n
      · obtain ⟨b, A', c', e1, q0, hc', hC'⟩ := txs_at (HX.out w (Below.refl _ _)) i (by rw [HN.out]; exact hin)
        have q1 := pw_cell_below HBr.out q0
        subst e1
        clear q0
        obtain ⟨m, hm⟩ : ∃ m, (x0.getD i []).length = m := ⟨_, rfl⟩
        rw [hm] at q1 hc' hC'
        have HM := Lib.hid hm
        have HC0 := Lib.hid hC'
        clear hm hC'
        by_cases h100 : 100 < m
        · go_wp2_with fail
          refine (alive21_any _).mono ?_
          rintro e w2 ⟨rfl, hb⟩
          have HB := Lib.hid (below_then HBr.out HBr.out.size hb)
          clear hb
          go_wp2_with fail
          go_ret
          exact ⟨rfl, HB.out⟩
        · have hlt := HLr.out.1
          have HS := Lib.hid (send_ok wr w.heap.size p 256 (Qd x0 i a) i a 0 0 HLr.out (by omega) (by rw [Qd_len _ _ _ (by rw [HN.out]; omega)]; omega) (by rw [Qd_len _ _ _ (by rw [HN.out]; omega)]; omega) (by omega) (by omega) (by omega) (by omega) A' c' (x0.getD i []) (fun W' hk => C_kb (W := wr) (w := w) (by rw [HM.out]; exact HC0.out) HBr.out hlt hk) (by rw [HM.out]; exact hc') (by rw [HM.out]; omega))
          rw [HM.out, Qd_put _ _ _ (by rw [HN.out]; omega) ha, show up (i : Int) 1 = ((i + 1 : Nat) : Int) by unfold up; omega] at HS
          have e1 : ((i + 1 : Nat) : Int) = (i : Int) + 1 := by omega
          clear hlt
          go_wp2_with fail
          refine HS.out.mono ?_
          rintro e w2 ⟨rfl, hL, hb⟩
          have HL2 := Lib.hid hL
          have HB2 := Lib.hid (HBr.out.trans hb)
          clear hL hb HS
          obtain ⟨N, hN⟩ : ∃ N : Int, a1 % 3 + (i : Int) % 2 = N := ⟨_, rfl⟩
          have hN3 : N ≤ 3 := by omega
          go_wp2_with fail
          go_loopw [7, 57] (fun x s wr => ∃ j d : Nat, x = .int .i64 d ∧ s = .int .i64 j ∧ (j : Int) ≤ 3 ∧ d ≤ i + 1 ∧ Hid (Lk wr w.heap.size p 256 (Qd x0 (i + 1) d) (i + 1 : Nat) d 0 0) ∧ Hid (Below w.heap.size w wr)) (fun _ s _ => (4 - intOf s).toNat)
          case atStart => exact ⟨0, a, rfl, rfl, by omega, by omega, HL2, HB2⟩
          case round =>
            obtain ⟨j, d, rfl, rfl, hj, hd, HL3, HB3⟩ := hrel
            by_cases hjN : (j : Int) < N
            · have HLN := Lib.hid (len_any wr w.heap.size p 256 (Qd x0 (i + 1) d) (i + 1 : Nat) d 0 0 HL3.out (by omega) (i + 1 - d) (Qd_len _ _ _ (by rw [HN.out]; omega)))
              by_cases hdi : d < i + 1
              · have HDV := Lib.hid (deliver_in wr w.heap.size p 256 (Qd x0 (i + 1) d) (i + 1 : Nat) d 0 0 HL3.out (by omega) 0 (by rw [Qd_len _ _ _ (by rw [HN.out]; omega)]; omega) (by rw [Qd_len _ _ _ (by rw [HN.out]; omega)]; omega) (by omega) (by omega))
                unfold DelR at HDV
                rw [Qd_get _ _ _ (by rw [HN.out]; omega) hdi, Qd_del, show up (d : Int) 1 = ((d + 1 : Nat) : Int) by unfold up; omega] at HDV
                have g1 : decide ((0 : Int) < ((i + 1 - d : Nat) : Int)) = true := decide_eq_true (by omega)
                go_wp2_with fail
                refine HLN.out.mono ?_
                rintro e w3 ⟨rfl, hw⟩
                subst hw
                go_wp2_with fail
                have hdn : d < n := by omega
                obtain ⟨bd, Ad, cd, ed, qd, -, hCd⟩ := txs_at (HX.out w (Below.refl _ _)) d (by rw [HN.out]; exact hdn)
                obtain rfl : b = bd := by injection ed
                obtain ⟨D, hD⟩ : ∃ D, x0.getD d [] = D := ⟨_, rfl⟩
                rw [hD] at HDV qd hCd
                obtain ⟨k, hk⟩ : ∃ k, D.length = k := ⟨_, rfl⟩
                rw [hk] at HDV qd hCd
                have HK := Lib.hid hk
                have HCd := Lib.hid hCd
                clear hD hk hCd ed
                refine HDV.out.mono ?_
                rintro e w4 ⟨A5, m5, rfl, hm5, hR, hL, hb⟩
                have HL4 := Lib.hid hL
                have HB4 := Lib.hid (HB3.out.trans hb)
                obtain ⟨A6, m6, e6, -, hC6⟩ := Kd.R_reads hR
                obtain ⟨rfl, -, rfl⟩ : A5 = A6 ∧ k = D.length ∧ m5 = m6 := by simpa using e6
                rw [HK.out] at hC6
                obtain ⟨S, hS⟩ : ∃ S, strOfNums D = S := ⟨_, rfl⟩
                have hCe := Kd.C_below HCd.out HB4.out
                have kd1 : ∀ u : Nat, (convert 28 9 (.slice A5 k m5)).run Try.prog (w4.drewN u) = .ok (.string S) (w4.drewN u) := fun u => by
                  have h := Kd.C_string (P := Try.prog) (w := w4.drewN u) (c := m5) Try.underlying28 Try.underlying5 Try.underlying9 hC6
                  rw [hS] at h; exact h
                have kd2 : ∀ u : Nat, (convert 28 9 (.slice Ad k cd)).run Try.prog (w4.drewN u) = .ok (.string S) (w4.drewN u) := fun u => by
                  have h := Kd.C_string (P := Try.prog) (w := w4.drewN u) (c := cd) Try.underlying28 Try.underlying5 Try.underlying9 hCe
                  rw [hS] at h; exact h
                have q4 := pw_cell_below HB4.out qd
                have g2 : decide (n ≤ d) = false := decide_eq_false (by omega)
                clear hL hb hR hC6 e6 hS qd HDV hCe
                go_wp2_with fail
                go_quiet (fail)
                have bdn : Below w4.heap.size w4 (w4.drewN nq) := ⟨rfl, rfl, rfl, Nat.le_refl _, fun _ _ => rfl⟩
                have HL5 := Lib.hid (HL4.out.below bdn)
                have HB5 := Lib.hid (below_then HB4.out HB4.out.size bdn)
                clear bdn
                go_wp2_with fail
                go_roundw
                case rel => exact ⟨j + 1, d + 1, by go_num, by go_num, by omega, by omega, HL5, HB5⟩
                case measure => simp [intOf]; omega
              · have g1 : decide ((0 : Int) < ((i + 1 - d : Nat) : Int)) = false := decide_eq_false (by omega)
                go_wp2_with fail
                refine HLN.out.mono ?_
                rintro e w3 ⟨rfl, hw⟩
                subst hw
                go_wp2_with fail
                go_roundw
                case rel => exact ⟨j + 1, d, rfl, by go_num, by omega, by omega, HL3, HB3⟩
                case measure => simp [intOf]; omega
            · go_wp2_with fail
              go_roundw
              case rel => exact ⟨i + 1, d, rfl, by go_num, by omega, by omega, HL3, HB3⟩
              case measure => simp [intOf]; omega
      · have hin' : i = n := by omega
        subst hin'
        have HLN := Lib.hid (len_any wr w.heap.size p 256 (Qd x0 i a) i a 0 0 HLr.out (by omega) (i - a) (Qd_len _ _ _ (by rw [HN.out]; omega)))
        have z : (((i - a : Nat) : Int) == (i : Int) - (a : Int)) = true := by simp; omega
        go_wp2_with fail
        refine HLN.out.mono ?_
        rintro e w2 ⟨rfl, hw⟩
        subst hw
        go_wp2_with fail
        refine (alive21_any _).mono ?_
        rintro e w2 ⟨rfl, hb⟩
        have HB := Lib.hid (below_then HBr.out HBr.out.size hb)
        clear hb
        go_wp2_with fail
        go_ret
        exact ⟨rfl, HB.out⟩

set_option maxRecDepth 100000 in
theorem lifted (os : Os) (started : os.Started) (H : Type) (enc : TypeId × Value → H) :
    ReturnsInHanded {} Try.checked os 3 .any (Rows.linkOrderSpec.pre6 enc Try.prog Try.f3 Rows.linkOrderRow.domain false) (Rows.linkOrderSpec.post enc Try.prog Try.f3 false true false false) := by
  refine returnsInHanded_of_change (C := Try.checked) own started (by kernel_rfl) Try.func3
    (ChangeSpec.witness6 (enc := enc) (C := Try.checked) false ⟨#[], #[.slice none 0 0, .int .u8 0], []⟩ 8 (by kernel_rfl) (by kernel_rfl) (by kernel_rfl) (by kernel_rfl)) ?_
  intro W base args ds gs before hval0 hW hcnd _
  have hval : ∀ (j : Nat) t v, Try.f3.params[j]? = some t → args[j]? = some v → Value.okWide Try.prog W .any base t v := hval0
  have hW' := hW
  obtain ⟨p, q, hA0, hV, rfl, hfz, hnd⟩ := hW
  have hA : DataW.TrodAll enc Try.prog W 0 (fun _ => true) true Try.f3.params.toList args.toList ds p := hA0
  rw [Try.params3] at hA hval
  obtain ⟨v0, vs0, d0, ds0, p0, q0, hargs, rfl, rfl, h0, r0⟩ := trodAll_cons hA
  obtain ⟨v1, vs1, d1, ds1, p1, q1, rfl, rfl, rfl, h1, r1⟩ := trodAll_cons r0
  obtain ⟨rfl, rfl, rfl⟩ := trodAll_nil r1
  obtain rfl : args = #[v0, v1] := by cases args; simp_all
  obtain ⟨rfl, rfl⟩ := trodVars_none hV
  have k0 := h0
  have lt0 : ∀ x ∈ p0, x.block < W.heap.size := by obtain ⟨m, hm⟩ := k0; exact DataW.trod_lt m _ _ _ hm
  obtain ⟨a0, len0, cap0, rfl⟩ := okWide_slice Try.underlying22 (hval 0 22 v0 rfl rfl)
  obtain ⟨x0, y0, g0⟩ : ∃ x, KTx.K W x [.slice a0 len0 cap0] ∧ (fun xss => (∀ xs ∈ xss, (∀ x ∈ xs, (Lit.int .u8 x).wf = true) ∧ xs.length ≤ maxLen) ∧ xss.length ≤ maxLen) x := by obtain ⟨m, hm⟩ := k0; exact op_txs _ _ _ m _ _ hm
  have k1 := h1
  have lt1 : ∀ x ∈ p1, x.block < W.heap.size := by obtain ⟨m, hm⟩ := k1; exact DataW.trod_lt m _ _ _ hm
  obtain ⟨a1, rfl, rfl, rfl, g1⟩ := open_int Try.underlying5 (hval 1 5 v1 rfl rfl) h1
  clear hA0 hval0
  refine (walk a0 len0 cap0 x0 a1 W y0 g0 g1).mono fun e W' ⟨he, bel⟩ => ?_
  subst he
  exact ⟨_, rfl, _, _, _, [], _, [], hW', trodAll_mk1 (shut_bool Try.underlying4 _), (trodAll_cons_mk (Below.trod laidOut (by kernel_rfl) (of_decide_eq_true (by kernel_rfl)) k0 bel lt0) (trodAll_cons_mk (Below.trod laidOut (by kernel_rfl) (of_decide_eq_true (by kernel_rfl)) k1 bel lt1) trodAll_mk0)), rfl, bel.frame _, fun h => by cases h⟩

theorem over : Rows.linkOrderRow.holds Try.pinned (OpenSpec.ofChange Rows.linkOrderSpec) :=
  OpenClaim.holds_of_wide 3 Try.f3 rfl rfl rfl rfl rfl rfl rfl ⟨rfl, rfl, rfl, rfl, rfl⟩ rfl rfl rfl rfl rfl (by kernel_rfl) Try.func3 (by kernel_rfl)
    (of_decide_eq_true (by kernel_rfl)) (by unfold Func.isWrapper; first | (rw [if_pos (by decide +kernel)]; kernel_rfl) | (rw [if_neg (by decide +kernel)]; exact ⟨rfl, rfl⟩))
    (fun os started H enc _ => lifted os started H enc)

theorem proved : Rows.LinkOrderSaid := over
end Go.Proofs.Ytcelhendfjiicaa.linkOrder
