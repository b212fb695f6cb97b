/- Sorting whole numbers of 64 bits: heapSort. -/
import Derived.Test.YtmbhicjjbgbneaaSuC
namespace Go.Proofs.Ytmbhicjjbgbneaa
open Go.RowKit Go.Shelf Go.Proofs.YtmbhicjjbgbneaaW.PrintWords Go.Proofs.YtmbhicjjbgbneaaW.PrintLast Go.Proofs.YtmbhicjjbgbneaaW.PrintMore
set_option linter.unusedVariables false
set_option linter.unusedSimpArgs false
set_option maxRecDepth 100000
theorem sift_size (lt : Int → Int → Bool) (hi first root : Nat) (d : Array Int) : (Sort.siftDown lt hi first root d).size = d.size := by
  fun_induction Sort.siftDown lt hi first root d <;> simp_all [Sort.swp]
section
variable {W W' : World} {g n c : Nat} {d : Array Int}
set_option maxHeartbeats 4000000 in
theorem su_heap (h : SR W g n c d) (a hi : Nat) (hb : a + (hi + 1) ≤ n) (hn : n ≤ 1000) : Calls Try.prog 88 #[.slice (some ⟨g, 0, none⟩) n c, .int .i64 a, .int .i64 ((a + (hi + 1) : Nat) : Int)] W fun e w' => e = .returned (.tuple #[]) ∧ SR w' g n c (Sort.heapSort ltZ d a (a + (hi + 1))) ∧ Tn (fun k => k = g) W w' := by
  have H := Lib.hid h
  unfold Sort.heapSort
  rw [show a + (hi + 1) - a = hi + 1 by omega, Nat.add_sub_cancel (n := hi) (m := 1)]
  obtain ⟨B, hB⟩ : ∃ B, Sort.heapBuild ltZ (hi + 1) a (hi / 2 + 1) d = B := ⟨_, rfl⟩
  rw [hB]
  have HBB := Lib.hid hB
  obtain ⟨D, hD⟩ : ∃ D, Sort.heapPop ltZ a (hi + 1) B = D := ⟨_, rfl⟩
  rw [hD]
  have HD := Lib.hid hD
  have hb2 := hb
  have HCA := Lib.hid (fun (w : World) (e : Array Int) (h : SR w g n c e) (k : Nat) (hk : k ≤ 1000) => su_sift h k (hi + 1) a hb hn hk)
  clear h hD hB
  obtain ⟨b, hbb⟩ : ∃ b, a + (hi + 1) = b := ⟨_, rfl⟩
  rw [hbb]
  have hq : (b : Int) - (a : Int) = (hi : Int) + 1 := by omega
  rw [hbb] at hb
  have hq2 : ((hi : Int) + 1) - 1 = (hi : Int) := by omega
  go_enter Try.func88, Try.ntmps88
  go_wp2
  clear hq
  go_loopw [9] (fun iv wr => ∃ (k : Nat) (e : Array Int), iv = .int .i64 ((k : Int) - 1) ∧ k ≤ hi / 2 + 1 ∧ Hid (SR wr g n c e) ∧ Hid (Tn (fun k => k = g) W wr) ∧ Hid (Sort.heapBuild ltZ (hi + 1) a k e = B)) (fun iv _ => (intOf iv + 1).toNat)
  case atStart => exact ⟨hi / 2 + 1, d, by rw [show ((hi / 2 + 1 : Nat) : Int) - 1 = (hi : Int) / 2 by omega], by omega, H, Lib.hid (Tn.refl _ _), HBB⟩
  case round =>
    obtain ⟨k, e, rfl, hk, HR, HT, HO⟩ := hrel
    cases k with
    | zero =>
      have HF := Lib.hid (show e = B from HO.out)
      have HR2 := Lib.hid (show SR wr g n c B from HF.out ▸ HR.out)
      obtain ⟨wo, hwo⟩ : ∃ w, w = wr := ⟨_, rfl⟩
      subst hwo
      have e0 : ((0 : Nat) : Int) - 1 = -1 := by omega
      rw [e0]
      go_wp2
      go_loopw [10] (fun iv wr => ∃ (k : Nat) (e : Array Int), iv = .int .i64 ((k : Int) - 1) ∧ k ≤ hi + 1 ∧ Hid (SR wr g n c e) ∧ Hid (Tn (fun k => k = g) W wr) ∧ Hid (Sort.heapPop ltZ a k e = D)) (fun iv _ => (intOf iv + 1).toNat)
      case atStart => exact ⟨hi + 1, B, by rw [show ((hi + 1 : Nat) : Int) - 1 = (hi : Int) by omega], by omega, HR2, HT, HD⟩
      case round =>
        obtain ⟨k, f, rfl, hk, HR, HT, HO⟩ := hrel
        cases k with
        | zero =>
          have HF := Lib.hid (show f = D from HO.out)
          rw [e0]
          go_wp2
          go_end0
          exact ⟨rfl, HF.out ▸ HR.out, HT.out⟩
        | succ k =>
          have e1 : ((k + 1 : Nat) : Int) - 1 = (k : Int) := by omega
          rw [e1]
          have HO2 := Lib.hid (show Sort.heapPop ltZ a k (Sort.siftDown ltZ k a 0 (Sort.swp f a (a + k))) = D from HO.out)
          obtain ⟨p, hp⟩ : ∃ p, a + k = p := ⟨_, rfl⟩
          have hp1 : (a : Int) + (k : Int) = (p : Int) := by omega
          rw [hp] at HO2
          obtain ⟨cp, fp⟩ := HR.out.at_ p (by omega)
          obtain ⟨ca, fa⟩ := HR.out.at_ a (by omega)
          have HSQ := Lib.hid ((HR.out.swap a p).below (below_drew (Below.refl _ _)))
          obtain ⟨x, hx⟩ : ∃ x, f[p]! = x := ⟨_, rfl⟩
          obtain ⟨y, hy⟩ : ∃ y, f[a]! = y := ⟨_, rfl⟩
          rw [hx, hy] at HSQ
          rw [hx] at cp
          rw [hy] at ca
          have HTQ := Lib.hid (((HT.out.put g a (.int .u64 x) (.inl rfl)).put g p (.int .u64 y) (.inl rfl)).drew)
          have HCB := Lib.hid (su_sift HSQ.out 0 k a (by omega) hn (by omega))
          have hapk : a ≤ p := by omega
          by_cases hpa : a = p
          · subst hpa
            obtain rfl : x = y := by rw [← hx, ← hy]
            clear hx hy HO HR HT hp
            go_upto_region 10 with fail
            go_region
            go_wp2_with fail
            refine HCB.out.mono ?_
            rintro e w5 ⟨rfl, hs5, ht5⟩
            have HS5 := Lib.hid hs5
            have HT5 := Lib.hid (HTQ.out.trans ht5 (fun k hk => .inl hk))
            clear hs5 ht5
            go_wp2_with fail
            go_roundw
            case rel => exact ⟨k, _, by go_num, by omega, HS5, HT5, HO2⟩
            case measure => simp [intOf]
          · clear hx hy HO HR HT hp
            go_upto_region 10 with fail
            go_region
            go_wp2_with fail
            refine HCB.out.mono ?_
            rintro e w5 ⟨rfl, hs5, ht5⟩
            have HS5 := Lib.hid hs5
            have HT5 := Lib.hid (HTQ.out.trans ht5 (fun k hk => .inl hk))
            clear hs5 ht5
            go_wp2_with fail
            go_roundw
            case rel => exact ⟨k, _, by go_num, by omega, HS5, HT5, HO2⟩
            case measure => simp [intOf]
    | succ k =>
      have e1 : ((k + 1 : Nat) : Int) - 1 = (k : Int) := by omega
      rw [e1]
      have HC := Lib.hid (show Calls Try.prog 106 #[.slice (some ⟨g, 0, none⟩) n c, .int .i64 k, .int .i64 ((hi : Int) + 1), .int .i64 a] wr _ from HCA.out wr e HR.out k (by omega))
      have HO2 := Lib.hid (show Sort.heapBuild ltZ (hi + 1) a k (Sort.siftDown ltZ (hi + 1) a k e) = B from HO.out)
      go_wp2_with fail
      refine HC.out.mono ?_
      rintro e' w5 ⟨rfl, hs5, ht5⟩
      have HS5 := Lib.hid hs5
      have HT5 := Lib.hid (HT.out.trans ht5 (fun k hk => .inl hk))
      clear hs5 ht5
      go_wp2_with fail
      go_roundw
      case rel => exact ⟨k, _, by go_num, by omega, HS5, HT5, HO2⟩
      case measure => simp [intOf]
end
end Go.Proofs.Ytmbhicjjbgbneaa
