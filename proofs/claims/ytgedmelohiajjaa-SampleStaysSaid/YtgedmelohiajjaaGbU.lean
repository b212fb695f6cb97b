/- Contracts of container/heap over vec.places. -/
import Derived.Test.YtgedmelohiajjaaGbQ
import Derived.Test.YtgedmelohiajjaaProg
import Derived.Test.YtgedmelohiajjaaGbB
import Derived.Test.YtgedmelohiajjaaGbW
import Derived.Test.YtgedmelohiajjaaWMore
import Derived.WalkKit
import Derived.KernelRfl
import Derived.Tactics
import Derived.OwnWalk
import Derived.BigQuiet
import Derived.Deep.QuietTactic
import Derived.Lib.Hide
import Derived.Outline
import Derived.StillTailTactics
import Derived.BigRegion
import Derived.Deep.RegionLaw
import Derived.Shelf.Abstract
import Derived.WalkSpells
namespace Go.Proofs.Ytgedmelohiajjaa
open Go.RowKit Go.Shelf Go.Proofs.YtgedmelohiajjaaW.PrintWords Go.Proofs.YtgedmelohiajjaaW.PrintLast Go.Proofs.YtgedmelohiajjaaW.PrintMore
set_option linter.unusedVariables false
set_option linter.unusedSimpArgs false
attribute [local go_sem] gb_max2 gb_min2 gb_max_two gb_min_two gb_max_three gb_min_three

theorem meth_Len (a : Addr) (w : World) : (method 224 59 (.pointer (some a)) "Len").run Try.prog w = .ok (51, .pointer (some a)) w := by kernel_rfl
theorem meth_Less (a : Addr) (w : World) : (method 224 59 (.pointer (some a)) "Less").run Try.prog w = .ok (123, .pointer (some a)) w := by kernel_rfl
theorem meth_Pop (a : Addr) (w : World) : (method 224 59 (.pointer (some a)) "Pop").run Try.prog w = .ok (124, .pointer (some a)) w := by kernel_rfl
theorem meth_Push (a : Addr) (w : World) : (method 224 59 (.pointer (some a)) "Push").run Try.prog w = .ok (125, .pointer (some a)) w := by kernel_rfl
theorem meth_Swap (a : Addr) (w : World) : (method 224 59 (.pointer (some a)) "Swap").run Try.prog w = .ok (126, .pointer (some a)) w := by kernel_rfl

/-- What a heap's function does: the box stays, its row becomes another. -/
def HeapR (B p : Nat) (w : World) (L' : List (Int × Int)) (e : Ending) (w' : World) : Prop := ∃ v', e = .returned (.tuple #[]) ∧ HS w' B p v' L' ∧ Below B w w'

theorem up_any (j : Nat) : ∀ (p B : Nat) (v : Value) (L : List (Int × Int)) (w : World), HS w B p v L → j < L.length → L.length ≤ 100000 →
    Calls Try.prog 84 #[.iface 59 (.pointer (some ⟨p, 0, none⟩)), .int .i64 j] w (HeapR B p w (hup L j)) := by
  intro p B v L w h hj hn
  have m1 := meth_Less
  have m2 := meth_Swap
  have HH := Lib.hid h
  obtain ⟨R, hR⟩ : ∃ R, hup L j = R := ⟨_, rfl⟩
  rw [hR]
  have HL := Lib.hid hR
  have hlow := h.low
  have hBs : B ≤ w.heap.size := by have := blk_lt h.box; omega
  clear h hR
  go_enter Try.func84, Try.ntmps84
  go_wp2_with fail
  go_loopw [1] (fun s wr => ∃ (k : Nat) (L1 : List (Int × Int)), s = .int .i64 k ∧ k < L1.length ∧ L1.length = L.length ∧ HS wr B p v L1 ∧ Below B w wr ∧ Hid (hup L1 k = R)) (fun s _ => (intOf s).toNat)
  case atStart => exact ⟨j, L, rfl, hj, rfl, HH.out, Below.refl _ _, HL⟩
  case round =>
    obtain ⟨k, L1, rfl, hk, hl1, hs, hb, hup1⟩ := hrel
    have HS1 := Lib.hid hs
    have HB1 := Lib.hid hb
    have HN1 := Lib.hid (show L1.length ≤ 100000 by omega)
    have HL1 := Lib.hid hl1
    have hBr : B ≤ wr.heap.size := by have := blk_lt hs.box; have := hs.low; omega
    have hk9 : k ≤ 100000 := by omega
    clear hs hb HL hl1
    by_cases h0 : k = 0
    · subst h0
      have e1 := Lib.hid (show hup L1 0 = L1 by unfold hup; simp)
      go_wp2
      go_end0
      exact ⟨v, rfl, by rw [← hup1.out, e1.out]; exact HS1.out, HB1.out⟩
    · obtain ⟨i, hi⟩ : ∃ i, (k - 1) / 2 = i := ⟨_, rfl⟩
      have hik : i < k := by omega
      have z1 : ((k : Int) - 1) / 2 = (i : Int) := by omega
      have z2 : ((i : Int) == (k : Int)) = false := by simp; omega
      obtain ⟨b, hb⟩ : ∃ b, ahd (L1.getD i (0, 0)) (L1.getD k (0, 0)) = b := ⟨_, rfl⟩
      have HU := Lib.hid (show hup L1 k = if b = true then hup (swp L1 i k) i else L1 by rw [hup, dif_neg h0, hi, hb])
      have HA := Lib.hid hb
      clear hi hb
      go_wp2_with fail
      refine (less_any p B k i v L1 wr HS1.out hk (by omega) HN1.out).mono ?_
      rw [HA.out]
      rintro e w2 ⟨rfl, hb2⟩
      have HS2 := Lib.hid (HS1.out.below hb2)
      have HB2 := Lib.hid (HB1.out.trans (hb2.mono hBr))
      have hBr2 : B ≤ w2.heap.size := Nat.le_trans hBr hb2.size
      clear hb2
      cases b with
      | false =>
        go_wp2_with fail
        go_end0
        exact ⟨v, rfl, by rw [← hup1.out, HU.out]; exact HS2.out, HB2.out⟩
      | true =>
        go_wp2_with fail
        refine (swap_any p B i k v L1 w2 HS2.out (by omega) hk HN1.out).mono ?_
        rintro e w3 ⟨rfl, hs3, hb3, -⟩
        have HS3 := Lib.hid hs3
        have HB3 := Lib.hid (HB2.out.trans hb3)
        clear hs3 hb3
        go_wp2_with fail
        go_roundw
        case rel => exact ⟨i, swp L1 i k, rfl, by rw [swp_len]; omega, by rw [swp_len, HL1.out], HS3.out, HB3.out, Lib.hid (by rw [← hup1.out, HU.out]; rfl)⟩
        case measure => simp [intOf]; omega

def DownR (B p : Nat) (v : Value) (w : World) (L' : List (Int × Int)) (e : Ending) (w' : World) : Prop := (∃ b, e = .returned (.bool b)) ∧ HS w' B p v L' ∧ Below B w w' ∧ Fr p v w w'

set_option maxHeartbeats 2000000 in
theorem down_any (i n : Nat) : ∀ (p B : Nat) (v : Value) (L : List (Int × Int)) (w : World), HS w B p v L → n ≤ L.length → L.length ≤ 100000 → i ≤ 100000 →
    Calls Try.prog 86 #[.iface 59 (.pointer (some ⟨p, 0, none⟩)), .int .i64 i, .int .i64 n] w (DownR B p v w (hdown L i n)) := by
  intro p B v L w h hj hn hi9
  have m1 := meth_Less
  have m2 := meth_Swap
  have HH := Lib.hid h
  obtain ⟨R, hR⟩ : ∃ R, hdown L i n = R := ⟨_, rfl⟩
  rw [hR]
  have HL := Lib.hid hR
  have hlow := h.low
  have hBs : B ≤ w.heap.size := by have := blk_lt h.box; omega
  clear h hR
  go_enter Try.func86, Try.ntmps86
  go_wp2_with fail
  go_loopw [7] (fun s wr => ∃ (k : Nat) (L1 : List (Int × Int)), s = .int .i64 k ∧ k ≤ 100000 ∧ L1.length = L.length ∧ HS wr B p v L1 ∧ Below B w wr ∧ Hid (hdown L1 k n = R) ∧ Fr p v w wr) (fun s _ => 100000 - (intOf s).toNat)
  case atStart => exact ⟨i, L, rfl, hi9, rfl, HH.out, Below.refl _ _, HL, Fr.refl _ _ _⟩
  case round =>
    obtain ⟨k, L1, rfl, hk, hl1, hs, hb, hup1, hfr⟩ := hrel
    have HF1 := Lib.hid hfr
    clear hfr
    have HS1 := Lib.hid hs
    have HB1 := Lib.hid hb
    have hj1 : n ≤ L1.length := by omega
    have HN1 := Lib.hid (show L1.length ≤ 100000 by omega)
    have HL1 := Lib.hid hl1
    have hBr : B ≤ wr.heap.size := by have := blk_lt hs.box; have := hs.low; omega
    clear hs hb HL hl1
    by_cases h0 : n ≤ 2 * k + 1
    · have e1 := Lib.hid (show hdown L1 k n = L1 by rw [hdown, dif_pos h0])
      go_wp2
      go_ret
      exact ⟨⟨_, rfl⟩, by rw [← hup1.out, e1.out]; exact HS1.out, HB1.out, HF1.out⟩
    · have q1 : 2 * k + 1 < n := by omega
      obtain ⟨b, hb⟩ : ∃ b, ahd (L1.getD (2 * k + 1) (0, 0)) (L1.getD (2 * k + 2) (0, 0)) = b := ⟨_, rfl⟩
      obtain ⟨m, hm⟩ : ∃ m, hkid L1 k n = m := ⟨_, rfl⟩
      have hkm : k < m := by rw [← hm]; exact hkid_lt _ _ _
      have hmn : m < n := by rw [← hm]; unfold hkid; split <;> omega
      obtain ⟨d, hd⟩ : ∃ d, ahd (L1.getD k (0, 0)) (L1.getD m (0, 0)) = d := ⟨_, rfl⟩
      have HU := Lib.hid (show hdown L1 k n = if d = true then hdown (swp L1 k m) m n else L1 by rw [hdown, dif_neg h0, hm, hd])
      have HA := Lib.hid hb
      have HD := Lib.hid hd
      have HM := Lib.hid (show m = if 2 * k + 2 < n ∧ b = true then 2 * k + 2 else 2 * k + 1 by rw [← hm, ← hb]; rfl)
      have z1 : ((2 * k + 1 : Nat) : Int) = 2 * (k : Int) + 1 := by omega
      have z2 : ((2 * k + 2 : Nat) : Int) = 2 * (k : Int) + 2 := by omega
      have Z1 := Lib.hid z1
      have Z2 := Lib.hid z2
      clear hm hb hd z1 z2 h0
      have hk9 : k ≤ 50000 := by omega
      by_cases h2 : 2 * k + 2 < n
      · have c1 := less_any p B (2 * k + 2) (2 * k + 1) v L1 wr HS1.out (by omega) (by omega) HN1.out
        rw [Z1.out, Z2.out, HA.out] at c1
        have C1 := Lib.hid c1
        clear c1
        go_wp2_with fail
        refine C1.out.mono ?_
        rintro e w4 ⟨rfl, hb4⟩
        have HS4 := Lib.hid (HS1.out.below hb4)
        have HB4 := Lib.hid (HB1.out.trans (hb4.mono hBr))
        have HF4 := Lib.hid (HF1.out.trans (Fr.of_below hb4))
        have hBr4 : B ≤ w4.heap.size := Nat.le_trans hBr hb4.size
        clear hb4
        cases b with
        | true =>
          obtain rfl : m = 2 * k + 2 := by rw [HM.out]; simp [h2]
          have c2 := less_any p B (2 * k + 2) k v L1 w4 HS4.out (by omega) (by omega) HN1.out
          rw [Z2.out, HD.out] at c2
          have C2 := Lib.hid c2
          clear c2
          go_wp2_with fail
          refine C2.out.mono ?_
          rintro e w5 ⟨rfl, hb5⟩
          have HS5 := Lib.hid (HS4.out.below hb5)
          have HB5 := Lib.hid (HB4.out.trans (hb5.mono hBr4))
          have HF5 := Lib.hid (HF4.out.trans (Fr.of_below hb5))
          clear hb5
          cases d with
          | false =>
            go_wp2_with fail
            go_ret
            exact ⟨⟨_, rfl⟩, by rw [← hup1.out, HU.out]; exact HS5.out, HB5.out, HF5.out⟩
          | true =>
            have c3 := swap_any p B k (2 * k + 2) v L1 w5 HS5.out (by omega) (by omega) HN1.out
            rw [Z2.out] at c3
            have C3 := Lib.hid c3
            clear c3
            go_wp2_with fail
            refine C3.out.mono ?_
            rintro e w6 ⟨rfl, hs6, hb6, hf6⟩
            have HS6 := Lib.hid hs6
            have HB6 := Lib.hid (HB5.out.trans hb6)
            have HF6 := Lib.hid (HF5.out.trans hf6)
            clear hs6 hb6 hf6
            go_wp2_with fail
            go_roundw
            case rel => exact ⟨2 * k + 2, swp L1 k (2 * k + 2), by rw [Z2.out]; congr 1, by omega, by rw [swp_len, HL1.out], HS6.out, HB6.out, Lib.hid (by rw [← hup1.out, HU.out]; rfl), HF6.out⟩
            case measure => simp [intOf]; omega
        | false =>
          obtain rfl : m = 2 * k + 1 := by rw [HM.out]; simp [h2]
          have c2 := less_any p B (2 * k + 1) k v L1 w4 HS4.out (by omega) (by omega) HN1.out
          rw [Z1.out, HD.out] at c2
          have C2 := Lib.hid c2
          clear c2
          go_wp2_with fail
          refine C2.out.mono ?_
          rintro e w5 ⟨rfl, hb5⟩
          have HS5 := Lib.hid (HS4.out.below hb5)
          have HB5 := Lib.hid (HB4.out.trans (hb5.mono hBr4))
          have HF5 := Lib.hid (HF4.out.trans (Fr.of_below hb5))
          clear hb5
          cases d with
          | false =>
            go_wp2_with fail
            go_ret
            exact ⟨⟨_, rfl⟩, by rw [← hup1.out, HU.out]; exact HS5.out, HB5.out, HF5.out⟩
          | true =>
            have c3 := swap_any p B k (2 * k + 1) v L1 w5 HS5.out (by omega) (by omega) HN1.out
            rw [Z1.out] at c3
            have C3 := Lib.hid c3
            clear c3
            go_wp2_with fail
            refine C3.out.mono ?_
            rintro e w6 ⟨rfl, hs6, hb6, hf6⟩
            have HS6 := Lib.hid hs6
            have HB6 := Lib.hid (HB5.out.trans hb6)
            have HF6 := Lib.hid (HF5.out.trans hf6)
            clear hs6 hb6 hf6
            go_wp2_with fail
            go_roundw
            case rel => exact ⟨2 * k + 1, swp L1 k (2 * k + 1), by rw [Z1.out], by omega, by rw [swp_len, HL1.out], HS6.out, HB6.out, Lib.hid (by rw [← hup1.out, HU.out]; rfl), HF6.out⟩
            case measure => simp [intOf]; omega
      · skip
        obtain rfl : m = 2 * k + 1 := by rw [HM.out]; simp [h2]
        have c2 := less_any p B (2 * k + 1) k v L1 wr HS1.out (by omega) (by omega) HN1.out
        rw [Z1.out, HD.out] at c2
        have C2 := Lib.hid c2
        clear c2
        go_wp2_with fail
        refine C2.out.mono ?_
        rintro e w5 ⟨rfl, hb5⟩
        have HS5 := Lib.hid (HS1.out.below hb5)
        have HB5 := Lib.hid (HB1.out.trans (hb5.mono hBr))
        have HF5 := Lib.hid (HF1.out.trans (Fr.of_below hb5))
        clear hb5
        cases d with
        | false =>
          go_wp2_with fail
          go_ret
          exact ⟨⟨_, rfl⟩, by rw [← hup1.out, HU.out]; exact HS5.out, HB5.out, HF5.out⟩
        | true =>
          have c3 := swap_any p B k (2 * k + 1) v L1 w5 HS5.out (by omega) (by omega) HN1.out
          rw [Z1.out] at c3
          have C3 := Lib.hid c3
          clear c3
          go_wp2_with fail
          refine C3.out.mono ?_
          rintro e w6 ⟨rfl, hs6, hb6, hf6⟩
          have HS6 := Lib.hid hs6
          have HB6 := Lib.hid (HB5.out.trans hb6)
          have HF6 := Lib.hid (HF5.out.trans hf6)
          clear hs6 hb6 hf6
          go_wp2_with fail
          go_roundw
          case rel => exact ⟨2 * k + 1, swp L1 k (2 * k + 1), by rw [Z1.out], by omega, by rw [swp_len, HL1.out], HS6.out, HB6.out, Lib.hid (by rw [← hup1.out, HU.out]; rfl), HF6.out⟩
          case measure => simp [intOf]; omega

theorem hpush_any (p B : Nat) (v : Value) (L : List (Int × Int)) (a x : Int) (w : World) (h : HS w B p v L) (hn : L.length < 100000) :
    Calls Try.prog 49 #[.iface 59 (.pointer (some ⟨p, 0, none⟩)), .iface 64 (.agg #[.int .i64 a, .int .i64 x])] w (HeapR B p w (hup (L ++ [(a, x)]) L.length)) := by
  have m1 := meth_Push
  have m2 := meth_Len
  have HH := Lib.hid h
  obtain ⟨R, hR⟩ : ∃ R, hup (L ++ [(a, x)]) L.length = R := ⟨_, rfl⟩
  rw [hR]
  have HR := Lib.hid hR
  clear h hR
  go_enter Try.func49, Try.ntmps49
  go_wp2_with fail
  refine (pushm_walk p B v L a x w HH.out (by omega)).mono ?_
  rintro e w1 ⟨v1, rfl, hs1, hb1⟩
  have HS1 := Lib.hid hs1
  have HB1 := Lib.hid hb1
  clear hs1 hb1
  go_wp2_with fail
  refine (len_any p B v1 _ w1 HS1.out).mono ?_
  rintro e w2 ⟨rfl, rfl⟩
  have c1 := up_any L.length p B v1 (L ++ [(a, x)]) w1 HS1.out (by simp) (by simp; omega)
  rw [HR.out] at c1
  have C1 := Lib.hid c1
  clear c1
  go_wp2_with fail
  refine C1.out.mono ?_
  rintro e w3 ⟨v3, rfl, hs3, hb3⟩
  have HS3 := Lib.hid hs3
  have HB3 := Lib.hid hb3
  clear hs3 hb3
  go_wp2_with fail
  go_end0
  exact ⟨v3, rfl, HS3.out, HB1.out.trans HB3.out⟩

/-- What Pop hands back, and what is left. -/
def PopR (B p : Nat) (v : Value) (w : World) (x : Int × Int) (L' : List (Int × Int)) (e : Ending) (w' : World) : Prop := ∃ v', e = .returned (.iface 64 (.agg #[.int .i64 x.1, .int .i64 x.2])) ∧ HS w' B p v' L' ∧ Below B w w' ∧ Fr p v w w' ∧ v'.ownBlock = v.ownBlock

theorem hpop_any (p B : Nat) (v : Value) (L : List (Int × Int)) (w : World) (h : HS w B p v L) (hp : 0 < L.length) (hn : L.length ≤ 100000) :
    Calls Try.prog 52 #[.iface 59 (.pointer (some ⟨p, 0, none⟩))] w (PopR B p v w ((hdown (swp L 0 (L.length - 1)) 0 (L.length - 1)).getD (L.length - 1) (0, 0)) ((hdown (swp L 0 (L.length - 1)) 0 (L.length - 1)).take (L.length - 1))) := by
  have m1 := meth_Pop
  have m2 := meth_Len
  have m3 := meth_Swap
  have HH := Lib.hid h
  obtain ⟨n, hnn⟩ : ∃ n, L.length = n + 1 := ⟨L.length - 1, by omega⟩
  obtain ⟨R, hR⟩ : ∃ R, hdown (swp L 0 n) 0 n = R := ⟨_, rfl⟩
  rw [show L.length - 1 = n by omega, hR]
  have HR := Lib.hid hR
  have HRL := Lib.hid (show R.length = n + 1 by rw [← hR, hdown_len _ _ _ _ rfl, swp_len, hnn])
  have HN := Lib.hid hnn
  have hn9 : n + 1 ≤ 100000 := by omega
  clear h hR hnn hp hn
  go_enter Try.func52, Try.ntmps52
  go_wp2_with fail
  refine (len_any p B v L w HH.out).mono ?_
  rw [HN.out]
  rintro e w0 ⟨rfl, rfl⟩
  go_wp2_with fail
  refine (swap_any p B 0 n v L w HH.out (by rw [HN.out]; omega) (by rw [HN.out]; omega) (by rw [HN.out]; exact hn9)).mono ?_
  rintro e w1 ⟨rfl, hs1, hb1, hf1⟩
  have HF1 := Lib.hid hf1
  clear hf1
  have HS1 := Lib.hid hs1
  have HB1 := Lib.hid hb1
  clear hs1 hb1
  have c1 := down_any 0 n p B v (swp L 0 n) w1 HS1.out (by rw [swp_len, HN.out]; omega) (by rw [swp_len, HN.out]; exact hn9) (by omega)
  rw [HR.out] at c1
  have C1 := Lib.hid c1
  clear c1
  go_wp2_with fail
  refine C1.out.mono ?_
  rintro e w2 ⟨⟨b, rfl⟩, hs2, hb2, hf2⟩
  have HF2 := Lib.hid hf2
  clear hf2
  have HS2 := Lib.hid hs2
  have HB2 := Lib.hid hb2
  clear hs2 hb2
  have c2 := popm_any p B v R w2 HS2.out (by rw [HRL.out]; omega) (by rw [HRL.out]; exact hn9)
  rw [HRL.out, show n + 1 - 1 = n by omega] at c2
  have C2 := Lib.hid c2
  clear c2
  go_wp2_with fail
  refine C2.out.mono ?_
  rintro e w3 ⟨v3, rfl, hs3, hb3, hf3, ho3⟩
  have HF3 := Lib.hid hf3
  have HO3 := Lib.hid ho3
  clear hf3 ho3
  have HS3 := Lib.hid hs3
  have HB3 := Lib.hid hb3
  clear hs3 hb3
  go_wp2_with fail
  go_ret
  exact ⟨v3, rfl, HS3.out, (HB1.out.trans HB2.out).trans HB3.out, (HF1.out.trans HF2.out).trans HF3.out, HO3.out⟩

end Go.Proofs.Ytgedmelohiajjaa
