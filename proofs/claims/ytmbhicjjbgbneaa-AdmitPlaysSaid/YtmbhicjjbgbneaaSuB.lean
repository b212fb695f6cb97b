/- Sorting whole numbers of 64 bits: reverseRange, siftDown. -/
import Derived.Test.YtmbhicjjbgbneaaSuA
namespace Go.Proofs.Ytmbhicjjbgbneaa
open Go.RowKit Go.Shelf Go.Proofs.YtmbhicjjbgbneaaW.PrintWords Go.Proofs.YtmbhicjjbgbneaaW.PrintLast Go.Proofs.YtmbhicjjbgbneaaW.PrintMore
set_option linter.unusedVariables false
set_option linter.unusedSimpArgs false
set_option maxRecDepth 100000
section
variable {W W' : World} {g n c : Nat} {d : Array Int}
set_option maxHeartbeats 2000000 in
theorem su_rev (h : SR W g n c d) (a b : Nat) (hb : b + 1 ≤ n) (hn : n ≤ 1000) : Calls Try.prog 91 #[.slice (some ⟨g, 0, none⟩) n c, .int .i64 a, .int .i64 ((b + 1 : Nat) : Int)] W fun e w' => e = .returned (.tuple #[]) ∧ SR w' g n c (Sort.reverseRange d a (b + 1)) ∧ Tn (fun k => k = g) W w' := by
  have H := Lib.hid h
  unfold Sort.reverseRange
  rw [Nat.add_sub_cancel]
  obtain ⟨D, hD⟩ : ∃ D, Sort.reverseLoop a b d = D := ⟨_, rfl⟩
  rw [hD]
  have HD := Lib.hid hD
  clear h hD
  go_enter Try.func91, Try.ntmps91
  go_wp2
  go_loopw [6, 7] (fun iv jv wr => ∃ (i j : Nat) (e : Array Int), iv = .int .i64 i ∧ jv = .int .i64 j ∧ j ≤ b ∧ Hid (SR wr g n c e) ∧ Hid (Tn (fun k => k = g) W wr) ∧ Hid (Sort.reverseLoop i j e = D)) (fun iv jv _ => (intOf jv).toNat - (intOf iv).toNat)
  case atStart => exact ⟨a, b, d, rfl, by go_num, by omega, H, Lib.hid (Tn.refl _ _), HD⟩
  case round =>
    obtain ⟨i, j, e, rfl, rfl, hj, HR, HT, HO⟩ := hrel
    by_cases hij : i < j
    · obtain ⟨k, rfl⟩ : ∃ k, j = k + 1 := ⟨j - 1, by omega⟩
      have HO2 := Lib.hid (show Sort.reverseLoop (i + 1) k (Sort.swp e i (k + 1)) = D from by
        have h := HO.out
        rw [Sort.reverseLoop, if_pos hij] at h
        exact h)
      obtain ⟨c1, f1⟩ := HR.out.at_ (k + 1) (by omega)
      obtain ⟨c0, f0⟩ := HR.out.at_ i (by omega)
      have HSQ := Lib.hid (((HR.out).swap i (k + 1)).below (below_drew (Below.refl _ _)))
      obtain ⟨x, hx⟩ : ∃ x, e[k + 1]! = x := ⟨_, rfl⟩
      obtain ⟨y, hy⟩ : ∃ y, e[i]! = y := ⟨_, rfl⟩
      rw [hx] at c1 HSQ
      rw [hy] at c0 HSQ
      have HTQ := Lib.hid (((HT.out.put g i (.int .u64 x) (.inl rfl)).put g (k + 1) (.int .u64 y) (.inl rfl)).drew)
      clear hx hy HO
      go_upto_region 3 with fail
      go_region
      go_wp2
      go_roundw
      case rel => exact ⟨i + 1, k, Sort.swp e i (k + 1), by go_num, by go_num, by omega, HSQ, HTQ, HO2⟩
      case measure => simp [intOf]; omega
    · have HF := Lib.hid (show e = D from by
        have h := HO.out
        rw [Sort.reverseLoop, if_neg hij] at h
        exact h)
      go_wp2
      go_end0
      exact ⟨rfl, HF.out ▸ HR.out, HT.out⟩
end
end Go.Proofs.Ytmbhicjjbgbneaa
