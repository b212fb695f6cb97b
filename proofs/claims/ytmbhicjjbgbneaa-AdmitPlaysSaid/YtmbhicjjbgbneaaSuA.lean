/- Sorting whole numbers of 64 bits: a row, cmp.Less, insertion sort. -/
import Derived.Test.YtmbhicjjbgbneaaTnA
import Derived.Sort.Defs
import Derived.Sort.LotA
import Derived.BigQuiet
import Derived.BigRegion
namespace Go.Proofs.Ytmbhicjjbgbneaa
open Go.RowKit Go.Shelf Go.Proofs.YtmbhicjjbgbneaaW.PrintWords Go.Proofs.YtmbhicjjbgbneaaW.PrintLast Go.Proofs.YtmbhicjjbgbneaaW.PrintMore
set_option linter.unusedVariables false
set_option linter.unusedSimpArgs false
set_option maxRecDepth 100000
def ltZ (x y : Int) : Bool := decide (x < y)
/-- The first n places of block g hold d. -/
structure SR (W : World) (g n c : Nat) (d : Array Int) : Prop where
  row : W.ownsRow 0 22 1 (.slice (some ⟨g, 0, none⟩) n c) n (nums .u64 d.toList)
  sz : d.size = n
section
variable {W W' : World} {g n c : Nat} {d : Array Int}
theorem SR.at_ (h : SR W g n c d) (i : Nat) (hi : i < n) : W.cell? ⟨g, i, none⟩ = some (.int .u64 d[i]!) ∧ W.frozen? ⟨g, i, none⟩ = false := by
  have h1 := own_at h.row (i : Int) (by omega) (by omega)
  rw [Int.toNat_natCast] at h1
  refine ⟨?_, h1.2⟩
  rw [h1.1]
  congr 2
  have hs : i < d.size := by rw [h.sz]; exact hi
  rw [getElem!_pos d i hs]
  show d.toList.getD (i : Int).toNat 0 = _
  rw [Int.toNat_natCast, List.getD_eq_getElem?_getD, Array.getElem?_toList, Array.getElem?_eq_getElem hs]
  rfl
theorem SR.put (h : SR W g n c d) (i : Nat) (x : Int) : SR (W.setCell ⟨g, i, none⟩ (.int .u64 x)) g n c (d.setIfInBounds i x) := by
  have h1 := (own_store h.row (i : Int) x).1
  rw [Int.toNat_natCast] at h1
  exact ⟨by rw [Array.toList_setIfInBounds]; exact h1, by rw [Array.size_setIfInBounds]; exact h.sz⟩
theorem SR.below (h : SR W g n c d) (hb : Below W.heap.size W W') : SR W' g n c d :=
  ⟨own_move h.row (fun k hk => hb.block k (own_lt h.row k hk)), h.sz⟩
theorem SR.swap (h : SR W g n c d) (i j : Nat) : SR ((W.setCell ⟨g, i, none⟩ (.int .u64 d[j]!)).setCell ⟨g, j, none⟩ (.int .u64 d[i]!)) g n c (Sort.swp d i j) := (h.put i _).put j _
theorem less_any (x y : Int) (W : World) : Calls Try.prog 93 #[.int .u64 x, .int .u64 y] W fun e w' => e = .returned (.bool (ltZ x y)) ∧ w' = W := by
  unfold ltZ
  go_enter Try.func93, Try.ntmps93
  go_wp2
  go_ret
  exact ⟨rfl, rfl⟩
set_option maxHeartbeats 2000000 in
theorem su_ins (h : SR W g n c d) (a b : Nat) (hb : b ≤ n) (hn : n ≤ 1000) (ha : a ≤ b) : Calls Try.prog 87 #[.slice (some ⟨g, 0, none⟩) n c, .int .i64 a, .int .i64 b] W fun e w' => e = .returned (.tuple #[]) ∧ SR w' g n c (Sort.insertionSort ltZ d a b) ∧ Tn (fun k => k = g) W w' := by
  have H := Lib.hid h
  have HL := Lib.hid (fun x y (w : World) => less_any x y w)
  unfold Sort.insertionSort
  obtain ⟨D, hD⟩ : ∃ D, Sort.insOuter ltZ a b (a + 1) d = D := ⟨_, rfl⟩
  rw [hD]
  have HD := Lib.hid hD
  clear h hD
  go_enter Try.func87, Try.ntmps87
  go_wp2
  go_loopw [6] (fun iv wr => ∃ (i : Nat) (e : Array Int), iv = .int .i64 (i + 1 : Nat) ∧ a ≤ i ∧ (i + 1 ≤ b ∨ i = a) ∧ Hid (SR wr g n c e) ∧ Hid (Tn (fun k => k = g) W wr) ∧ Hid (Sort.insOuter ltZ a b (i + 1) e = D)) (fun iv _ => b - (intOf iv).toNat)
  case atStart => exact ⟨a, d, by go_num, by omega, by omega, H, Lib.hid (Tn.refl _ _), HD⟩
  case round =>
    obtain ⟨i, e, rfl, hai, hib, HR, HT, HO⟩ := hrel
    by_cases hin : i + 1 < b
    · have HO2 := Lib.hid (show Sort.insOuter ltZ a b (i + 2) (Sort.insInner ltZ a (i + 1) e) = D from by
        have h := HO.out
        rw [Sort.insOuter, if_pos hin] at h
        exact h)
      obtain ⟨wo, hwo⟩ : ∃ w, w = wr := ⟨_, rfl⟩
      subst hwo
      obtain ⟨E, hE⟩ : ∃ E, Sort.insInner ltZ a (i + 1) e = E := ⟨_, rfl⟩
      rw [hE] at HO2
      have HE := Lib.hid hE
      clear hE HO
      go_wp2
      go_loopw [7] (fun jv wr => ∃ (j : Nat) (f : Array Int), jv = .int .i64 j ∧ j ≤ i + 1 ∧ a ≤ j ∧ Hid (SR wr g n c f) ∧ Hid (Tn (fun k => k = g) W wr) ∧ Hid (Sort.insInner ltZ a j f = E)) (fun jv _ => (intOf jv).toNat)
      case atStart => exact ⟨i + 1, e, by go_num, by omega, by omega, HR, HT, HE⟩
      case round =>
        obtain ⟨j, f, rfl, hji, haj, HRj, HTj, HEj⟩ := hrel
        cases j with
        | zero =>
          have ha0 : a = 0 := by omega
          subst ha0
          have HF := Lib.hid (show f = E from HEj.out)
          have HS1 := Lib.hid (fun u : Nat => HRj.out.below (pw_below_drewN (Below.refl _ _) u))
          have HT1 := Lib.hid (fun u : Nat => HTj.out.bel (pw_below_drewN (Below.refl _ _) u))
          go_wp2_with fail
          go_quiet (fail)
          go_wp2_with fail
          go_roundw
          case rel => exact ⟨i + 1, f, by go_num, by omega, by omega, Lib.hid (HS1.out _), Lib.hid (HT1.out _), by rw [HF.out]; exact HO2⟩
          case measure => simp [intOf]; omega
        | succ k =>
          have hidx : k + 1 < n := by omega
          obtain ⟨c1, f1⟩ := HRj.out.at_ (k + 1) (by omega)
          obtain ⟨c0, f0⟩ := HRj.out.at_ k (by omega)
          have HS1 := Lib.hid (fun u : Nat => HRj.out.below (pw_below_drewN (Below.refl _ _) u))
          have HT1 := Lib.hid (fun u : Nat => HTj.out.bel (pw_below_drewN (Below.refl _ _) u))
          have HSW := Lib.hid (fun u : Nat => ((HS1.out u).swap (k + 1) k).below (below_drew (Below.refl _ _)))
          have HTW := Lib.hid (fun (u : Nat) (x y : Int) => (((HT1.out u).put g (k + 1) (.int .u64 y) (.inl rfl)).put g k (.int .u64 x) (.inl rfl)).drew)
          obtain ⟨x, hx⟩ : ∃ x, f[k + 1]! = x := ⟨_, rfl⟩
          obtain ⟨y, hy⟩ : ∃ y, f[k]! = y := ⟨_, rfl⟩
          have hst := HEj.out
          unfold Sort.insInner at hst
          rw [hx, hy] at hst
          rw [hx] at c1
          rw [hy] at c0
          rw [hx, hy] at HSW
          clear hx hy
          have hwk : IntKind.i64.wrap (((k : Int) + 1) - 1) = (k : Int) := by unfold IntKind.wrap; simp [IntKind.bits, IntKind.signed]; omega
          by_cases hak : a < k + 1
          · have hg : decide ((a : Int) < (k : Int) + 1) = true := decide_eq_true (by omega)
            cases hl : ltZ x y with
            | true =>
              have HEn := Lib.hid (show Sort.insInner ltZ a k (Sort.swp f (k + 1) k) = E by rw [hl, if_pos (by simp; omega)] at hst; exact hst)
              have HLs := Lib.hid (fun w : World => less_any x y w)
              rw [hl] at HLs
              have HAK := Lib.hid hak
              clear hst hl
              go_wp2_with fail
              go_quiet ((go_at_call 93; exact Calls.quiet_of_same (HLs.out _)))
              obtain ⟨wq, hwq⟩ : ∃ wq, wr.drewN nq = wq := ⟨_, rfl⟩
              have HSQ := Lib.hid (HSW.out nq)
              have HTQ := Lib.hid (HTW.out nq x y)
              have hq1 := ((HS1.out nq).at_ (k + 1) (by omega)).2
              have hq0 := ((HS1.out nq).at_ k (by omega)).2
              have cq1 : (wr.drewN nq).cell? ⟨g, k + 1, none⟩ = some (.int .u64 x) := c1
              have cq0 : (wr.drewN nq).cell? ⟨g, k, none⟩ = some (.int .u64 y) := c0
              rw [hwq] at HSQ HTQ hq1 hq0 cq1 cq0 ⊢
              clear hwq HS1 HT1 HSW HTW c1 c0 f1 f0
              go_upto_region 6 with fail
              go_region
              go_wp2
              go_roundw
              case rel => exact ⟨k, Sort.swp f (k + 1) k, by go_num, by omega, by omega, HSQ, HTQ, HEn⟩
              case measure => simp [intOf]
            | false =>
              have HF := Lib.hid (show f = E by rw [hl, if_neg (by simp)] at hst; exact hst)
              have HLs := Lib.hid (fun w : World => less_any x y w)
              rw [hl] at HLs
              clear hst hl
              go_wp2_with fail
              go_quiet ((go_at_call 93; exact Calls.quiet_of_same (HLs.out _)))
              go_wp2_with fail
              go_roundw
              case rel => exact ⟨i + 1, f, by go_num, by omega, by omega, Lib.hid (HS1.out _), Lib.hid (HT1.out _), by rw [HF.out]; exact HO2⟩
              case measure => simp [intOf]; omega
          · have HF := Lib.hid (show f = E by rw [if_neg (by simp; omega)] at hst; exact hst)
            have hg : decide ((a : Int) < (k : Int) + 1) = false := decide_eq_false (by omega)
            clear hst
            go_wp2_with fail
            go_quiet (fail)
            go_wp2_with fail
            go_roundw
            case rel => exact ⟨i + 1, f, by go_num, by omega, by omega, Lib.hid (HS1.out _), Lib.hid (HT1.out _), by rw [HF.out]; exact HO2⟩
            case measure => simp [intOf]; omega
    · have HF := Lib.hid (show e = D from by
        have h := HO.out
        rw [Sort.insOuter, if_neg hin] at h
        exact h)
      go_wp2
      go_end0
      exact ⟨rfl, HF.out ▸ HR.out, HT.out⟩
end
end Go.Proofs.Ytmbhicjjbgbneaa
