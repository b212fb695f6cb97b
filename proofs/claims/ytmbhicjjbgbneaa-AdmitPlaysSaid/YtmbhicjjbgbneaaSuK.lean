/- Sorting whole numbers of 64 bits: breakPatterns. -/
import Derived.Test.YtmbhicjjbgbneaaSuI
import Derived.Sort.LotD5
import Derived.Laws.Bits64
import Derived.Laws.Bits64b
import Derived.Lib.BitFns
import Derived.Lib.Strings
import Derived.Lib.Slices
import Derived.Lib.Small
import Derived.Lib.Walk
namespace Go.Proofs.Ytmbhicjjbgbneaa
open Go.RowKit Go.Shelf Go.Proofs.YtmbhicjjbgbneaaW.PrintWords Go.Proofs.YtmbhicjjbgbneaaW.PrintLast Go.Proofs.YtmbhicjjbgbneaaW.PrintMore
set_option linter.unusedVariables false
set_option linter.unusedSimpArgs false
set_option maxRecDepth 100000
def SX (W : World) (rb X : Nat) : Prop := W.heap[rb]? = some (.cells #[.int .u64 X] 155 (0, 0))
theorem SX.ne {W : World} {g n c rb X : Nat} {d : Array Int} (h : SR W g n c d) (hs : SX W rb X) : some rb ≠ (Value.slice (some ⟨g, 0, none⟩) n c).ownBlock := by
  intro he
  obtain ⟨cells, hc⟩ := own_typed h.row rb he.symm
  rw [hs] at hc
  injection hc with hc
  injection hc with _ hc
  exact absurd hc (by decide)
theorem bits_len8 : ∀ x : Fin 256, Lib.bitLen x.val = Sort.bitsLen x.val := by decide +kernel
set_option maxHeartbeats 4000000 in
theorem su_len64 (x : Int) (W : World) (h0 : 0 ≤ x) (h1 : x ≤ 255) : Calls Try.prog 97 #[.int .u64 x] W fun e w' => e = .returned (.int .i64 (Lib.bitLen x.toNat)) ∧ w' = W := by
  go_enter Try.func97, Try.ntmps97
  go_wp2
  go_ret
  refine ⟨congrArg Ending.returned (congrArg (Value.int IntKind.i64) ?_), rfl⟩
  first
    | (rw [Lib.len8_of (x % 256) (by omega) (by omega)]; rw [show (x % 256).toNat = x.toNat by omega]; done)
    | (rw [Lib.len8_of (x % 256) (by omega) (by omega)]; rw [show (x % 256).toNat = x.toNat by omega]; omega)
    | (rw [Lib.len8_of x (by omega) (by omega)]; done)
    | (rw [Lib.len8_of x (by omega) (by omega)]; have l := Lib.bitLen_le8' x h0 h1; unfold wrap64; omega)
theorem su_len (n : Nat) (hn : n < 256) (W : World) : Calls Try.prog 84 #[.int .u64 n] W fun e w' => e = .returned (.int .i64 (Sort.bitsLen n)) ∧ W = w' := by
  have HL := Lib.hid (su_len64 n W (by omega) (by omega))
  have hbl := bits_len8 ⟨n, hn⟩
  dsimp only at hbl
  rw [Int.toNat_natCast, hbl] at HL
  clear hbl
  obtain ⟨m, hm⟩ : ∃ m, Sort.bitsLen n = m := ⟨_, rfl⟩
  rw [hm] at HL ⊢
  clear hm
  go_enter Try.func84, Try.ntmps84
  go_wp2_with fail
  refine HL.out.mono ?_
  rintro e w' ⟨rfl, rfl⟩
  go_wp2_with fail
  go_ret
  exact ⟨rfl, rfl⟩
theorem bits_len_le : ∀ x : Fin 256, Sort.bitsLen x.val ≤ 8 := by decide +kernel
theorem bits_pow : ∀ x : Fin 9, IntKind.u64.wrap ((2 : Int) ^ x.val) = ((1 <<< x.val : Nat) : Int) := by decide +kernel
theorem su_pow2 (n : Nat) (hn : n < 256) (W : World) : Calls Try.prog 107 #[.int .i64 n] W fun e w' => e = .returned (.int .u64 ((1 <<< Sort.bitsLen n : Nat) : Int)) ∧ W = w' := by
  have HL := Lib.hid (su_len n hn W)
  have h8 := bits_len_le ⟨n, hn⟩
  dsimp only at h8
  obtain ⟨m, hm⟩ : ∃ m, Sort.bitsLen n = m := ⟨_, rfl⟩
  rw [hm] at HL h8 ⊢
  have hp := bits_pow ⟨m, by omega⟩
  dsimp only at hp
  clear hm
  go_enter Try.func107, Try.ntmps107
  go_wp2_with fail
  refine HL.out.mono ?_
  rintro e w' ⟨rfl, rfl⟩
  go_wp2_with fail
  go_ret
  exact ⟨rfl, rfl⟩
section
variable {W W' : World} {g n c rb X : Nat} {d : Array Int}
theorem SX.put (h : SX W rb X) (Y : Nat) : SX ((W.setCell ⟨rb, 0, none⟩ (.int .u64 Y)).drew) rb Y := blk_set h 0 _
set_option maxHeartbeats 2000000 in
theorem su_next (h : SR W g n c d) (hs : SX W rb X) (hX : X < 18446744073709551616) : Calls Try.prog 108 #[.pointer (some ⟨rb, 0, none⟩)] W fun e w' => e = .returned (.int .u64 (Sort.xorNextN X : Nat)) ∧ SR w' g n c d ∧ SX w' rb (Sort.xorNextN X) ∧ Tn (fun k => k = rb) W w' := by
  have hne := SX.ne h hs
  obtain ⟨A, hA⟩ : ∃ A : Nat, A = X ^^^ (X * 8192 % 18446744073709551616) := ⟨_, rfl⟩
  obtain ⟨B, hB⟩ : ∃ B : Nat, B = A ^^^ (A / 128) := ⟨_, rfl⟩
  obtain ⟨C, hC⟩ : ∃ C : Nat, C = B ^^^ (B * 131072 % 18446744073709551616) := ⟨_, rfl⟩
  have lA : A < 18446744073709551616 := by rw [hA]; exact Nat.xor_lt_two_pow (n := 64) (by omega) (by omega)
  have lB : B < 18446744073709551616 := by rw [hB]; exact Nat.xor_lt_two_pow (n := 64) (by omega) (by omega)
  have e1 : bits .xor .u64 (X : Int) (IntKind.u64.wrap ((X : Int) * 8192)) = (A : Int) := by
    rw [IntKind.wrap_u64, show ((X : Int) * 8192 % 18446744073709551616) = ((X * 8192 % 18446744073709551616 : Nat) : Int) by omega, bits_xor_u64_nat _ _ hX (by omega), hA]
  have e2 : bits .xor .u64 (A : Int) ((A : Int) / 128) = (B : Int) := by
    rw [show ((A : Int) / 128) = ((A / 128 : Nat) : Int) by omega, bits_xor_u64_nat _ _ lA (by omega), hB]
  have e3 : bits .xor .u64 (B : Int) (IntKind.u64.wrap ((B : Int) * 131072)) = (C : Int) := by
    rw [IntKind.wrap_u64, show ((B : Int) * 131072 % 18446744073709551616) = ((B * 131072 % 18446744073709551616 : Nat) : Int) by omega, bits_xor_u64_nat _ _ lB (by omega), hC]
  have hv : Sort.xorNextN X = C := by unfold Sort.xorNextN; simp only []; rw [← hA, ← hB, ← hC]
  rw [hv]
  clear hA hB hC hv
  have k0 := blk_cell hs 0
  have f0 := blk_frozen hs 0
  have HSR := Lib.hid h
  have HSX := Lib.hid hs
  have HNE := Lib.hid hne
  have HT := Lib.hid (Tn.refl (fun k => k = rb) W)
  clear h hs hne
  go_enter Try.func108, Try.ntmps108
  go_wp2
  go_region
  have HSR1 := Lib.hid (show SR (W.setCell ⟨rb, 0, none⟩ (.int .u64 A)).drew g n c d from ⟨own_setCell HSR.out.row HNE.out _, HSR.out.sz⟩)
  have HSX1 := Lib.hid (HSX.out.put A)
  have HT1 := Lib.hid ((HT.out.put rb 0 (.int .u64 A) (.inl rfl)).drew)
  obtain ⟨w1, hw1⟩ : ∃ w1, (W.setCell ⟨rb, 0, none⟩ (.int .u64 A)).drew = w1 := ⟨_, rfl⟩
  rw [hw1] at HSR1 HSX1 HT1 ⊢
  clear hw1 k0 f0
  have k0 := blk_cell HSX1.out 0
  have f0 := blk_frozen HSX1.out 0
  go_wp2
  go_region
  have HSR2 := Lib.hid (show SR (w1.setCell ⟨rb, 0, none⟩ (.int .u64 B)).drew g n c d from ⟨own_setCell HSR1.out.row HNE.out _, HSR.out.sz⟩)
  have HSX2 := Lib.hid (HSX1.out.put B)
  have HT2 := Lib.hid ((HT1.out.put rb 0 (.int .u64 B) (.inl rfl)).drew)
  obtain ⟨w2, hw2⟩ : ∃ w2, (w1.setCell ⟨rb, 0, none⟩ (.int .u64 B)).drew = w2 := ⟨_, rfl⟩
  rw [hw2] at HSR2 HSX2 HT2 ⊢
  clear hw2 k0 f0
  have k0 := blk_cell HSX2.out 0
  have f0 := blk_frozen HSX2.out 0
  go_wp2
  go_region
  have HSR3 := Lib.hid (show SR (w2.setCell ⟨rb, 0, none⟩ (.int .u64 C)).drew g n c d from ⟨own_setCell HSR2.out.row HNE.out _, HSR.out.sz⟩)
  have HSX3 := Lib.hid (HSX2.out.put C)
  have HT3 := Lib.hid ((HT2.out.put rb 0 (.int .u64 C) (.inl rfl)).drew)
  obtain ⟨w3, hw3⟩ : ∃ w3, (w2.setCell ⟨rb, 0, none⟩ (.int .u64 C)).drew = w3 := ⟨_, rfl⟩
  rw [hw3] at HSR3 HSX3 HT3 ⊢
  clear hw3 k0 f0
  have k0 := blk_cell HSX3.out 0
  go_wp2
  go_ret
  exact ⟨rfl, HSR3.out, HSX3.out, HT3.out⟩
end
/-- So many rounds are left, from the place i on. -/
def bpR (a L M : Nat) : Nat → Nat → UInt64 × Array Int → Array Int
  | 0, _, st => st.2
  | k + 1, i, st => bpR a L M k (i + 1) (Sort.breakStep a L M st i)
theorem bpR_all (d : Array Int) (a L : Nat) (h8 : 8 ≤ L) : Sort.breakPatterns d a (a + L) = bpR a L (1 <<< Sort.bitsLen L) 3 (a + L / 4 * 2 - 1) (UInt64.ofNat L, d) := by
  unfold Sort.breakPatterns
  simp only [Nat.add_sub_cancel_left]
  rw [if_pos h8]
  rfl
theorem bpR_step (a L M k i : Nat) (r : UInt64) (d : Array Int) (o : Nat) (ho : (if (Sort.xorNext r).toNat &&& (M - 1) ≥ L then ((Sort.xorNext r).toNat &&& (M - 1)) - L else (Sort.xorNext r).toNat &&& (M - 1)) = o) :
    bpR a L M (k + 1) i (r, d) = bpR a L M k (i + 1) (Sort.xorNext r, Sort.swp d i (a + o)) := by
  rw [bpR]
  unfold Sort.breakStep
  simp only [ho]
theorem pow_bits : ∀ x : Fin 256, 0 < x.val → 1 ≤ (1 <<< Sort.bitsLen x.val) ∧ (1 <<< Sort.bitsLen x.val) ≤ 2 * x.val := by decide +kernel
section
variable {W W' : World} {g n c : Nat} {d : Array Int}
set_option maxHeartbeats 4000000 in
theorem su_brk (h : SR W g n c d) (a L : Nat) (hb : a + L ≤ n) (hn : n ≤ 255) (h8 : 8 ≤ L) : Calls Try.prog 89 #[.slice (some ⟨g, 0, none⟩) n c, .int .i64 a, .int .i64 ((a + L : Nat) : Int)] W fun e w' => e = .returned (.tuple #[]) ∧ SR w' g n c (Sort.breakPatterns d a (a + L)) ∧ Tn (fun k => k = g) W w' := by
  rw [bpR_all d a L h8]
  have hpw := pow_bits ⟨L, by omega⟩ (by dsimp only; omega)
  dsimp only at hpw
  have HP := Lib.hid (fun W => su_pow2 L (by omega) W)
  obtain ⟨M, hM⟩ : ∃ M : Nat, 1 <<< Sort.bitsLen L = M := ⟨_, rfl⟩
  rw [hM] at HP hpw ⊢
  obtain ⟨hM1, hM2⟩ := hpw
  obtain ⟨i0, hi0⟩ : ∃ i0, a + L / 4 * 2 - 1 = i0 := ⟨_, rfl⟩
  rw [hi0]
  obtain ⟨D, hD⟩ : ∃ D, bpR a L M 3 i0 (UInt64.ofNat L, d) = D := ⟨_, rfl⟩
  rw [hD]
  have HD := Lib.hid hD
  obtain ⟨b, hbb⟩ : ∃ b, a + L = b := ⟨_, rfl⟩
  rw [hbb] at hb ⊢
  have z1 : (b : Int) - (a : Int) = (L : Int) := by omega
  obtain ⟨qq, hq⟩ : ∃ qq, L / 4 = qq := ⟨_, rfl⟩
  have z2 : (L : Int) / 4 = (qq : Int) := by omega
  have z3 : (a : Int) + (qq : Int) * 2 - 1 = (i0 : Int) := by omega
  have z4 : (a : Int) + (qq : Int) * 2 + 1 = (i0 : Int) + 2 := by omega
  have hi1 : i0 + 2 < n := by omega
  obtain ⟨W1, hW1⟩ : ∃ W1, W.alloc (.cells #[.int .u64 L] 155) = W1 := ⟨_, rfl⟩
  obtain ⟨rb, hrb⟩ : ∃ rb, W.heap.size = rb := ⟨_, rfl⟩
  have hbl : Below W.heap.size W W1 := by rw [← hW1]; exact below_alloc (Below.refl _ _) _
  have hbx := heap_alloc_new W (.cells #[.int .u64 L] 155)
  rw [hW1, hrb] at hbx
  have HSR := Lib.hid (h.below hbl)
  have HSX := Lib.hid (show SX W1 rb ((UInt64.ofNat L).toNat) by rw [show (UInt64.ofNat L).toNat = L from by simp; omega]; exact hbx)
  have HT := Lib.hid ((Tn.refl (fun k => k = g) W).bel hbl)
  have HRB := Lib.hid (show W.heap.size ≤ rb by omega)
  clear h hbl hbx hD hM hi0 hq
  go_enter Try.func89, Try.ntmps89
  go_wp2_with fail
  refine (HP.out _).mono ?_
  rintro e w' ⟨rfl, rfl⟩
  clear hW1 hrb
  go_wp2_with fail
  go_loopw [9, 10] (fun vi vo wr => ∃ (k i : Nat) (r : UInt64) (e : Array Int), vi = .int .i64 i ∧ k ≤ 3 ∧ i + k = i0 + 3 ∧ Hid (SR wr g n c e) ∧ Hid (SX wr rb r.toNat) ∧ Hid (Tn (fun k => k = g) W wr) ∧ Hid (bpR a L M k i (r, e) = D)) (fun vi _ _ => i0 + 3 - (intOf vi).toNat)
  case atStart => exact ⟨3, i0, UInt64.ofNat L, d, by go_num, by omega, by omega, HSR, HSX, HT, HD⟩
  case round =>
    obtain ⟨k, i, r, e, rfl, hk, hik, HR, HX, HTr, HO⟩ := hrel
    cases k with
    | zero =>
      have HF := Lib.hid (show e = D from HO.out)
      go_wp2_with fail
      go_end0
      exact ⟨rfl, HF.out ▸ HR.out, HTr.out⟩
    | succ k =>
      have hR64 : r.toNat < 18446744073709551616 := r.toNat_lt
      have HC := Lib.hid (su_next HR.out HX.out hR64)
      have hR' : Sort.xorNextN r.toNat = (Sort.xorNext r).toNat := (Sort.xorNext_toNat r).symm
      rw [hR'] at HC
      obtain ⟨R, hRR⟩ : ∃ R, (Sort.xorNext r).toNat = R := ⟨_, rfl⟩
      have hRl : R < 18446744073709551616 := by rw [← hRR]; exact (Sort.xorNext r).toNat_lt
      rw [hRR] at HC
      obtain ⟨O, hO⟩ : ∃ O : Nat, R &&& (M - 1) = O := ⟨_, rfl⟩
      have lO : O ≤ M - 1 := by rw [← hO]; exact Nat.and_le_right
      have eAnd : bits .and .u64 (R : Int) ((M : Int) - 1) = (O : Int) := by
        rw [show ((M : Int) - 1) = ((M - 1 : Nat) : Int) by omega, bits_and_u64_nat _ _ hRl (by omega), hO]
      have HN := Lib.hid (And.intro hRR hO)
      clear hRR hO hR' hR64
      by_cases hLO : L ≤ O
      · obtain ⟨o, ho⟩ : ∃ o, a + (O - L) = o := ⟨_, rfl⟩
        have HNX := Lib.hid (show bpR a L M k (i + 1) (Sort.xorNext r, Sort.swp e i o) = D by
          have h := HO.out
          rw [bpR_step a L M k i r e (O - L) (by rw [HN.out.1, HN.out.2, if_pos hLO]), ho] at h
          exact h)
        have z5 : (a : Int) + ((O : Int) - (L : Int)) = (o : Int) := by omega
        have hon : o < n := by omega
        clear ho
        go_wp2_with fail
        refine HC.out.mono ?_
        rintro e' w2 ⟨rfl, hr2, hx2, ht2⟩
        have HR2 := Lib.hid hr2
        rw [← HN.out.1] at hx2
        have HX2 := Lib.hid hx2
        have HT2 := Lib.hid (HTr.out.trans ht2 (fun k hk => .inr (by rw [hk]; exact HRB.out)))
        clear hr2 hx2 ht2
        obtain ⟨ci, fi⟩ := HR2.out.at_ i (by omega)
        obtain ⟨co, fo⟩ := HR2.out.at_ o hon
        have HSQ := Lib.hid ((HR2.out.swap i o).below (below_drew (Below.refl _ _)))
        obtain ⟨x, hx⟩ : ∃ x, e[o]! = x := ⟨_, rfl⟩
        obtain ⟨y, hy⟩ : ∃ y, e[i]! = y := ⟨_, rfl⟩
        rw [hx, hy] at HSQ
        rw [hx] at co
        rw [hy] at ci
        have HTQ := Lib.hid (((HT2.out.put g i (.int .u64 x) (.inl rfl)).put g o (.int .u64 y) (.inl rfl)).drew)
        have HXQ := Lib.hid (show SX (((w2.setCell ⟨g, i, none⟩ (.int .u64 x)).setCell ⟨g, o, none⟩ (.int .u64 y)).drew) rb (Sort.xorNext r).toNat from by
          have hne : g ≠ rb := fun e => SX.ne HR2.out HX2.out (by rw [← e]; rfl)
          show (((w2.setCell ⟨g, i, none⟩ (.int .u64 x)).setCell ⟨g, o, none⟩ (.int .u64 y))).heap[rb]? = _
          rw [Below.heap_setCell _ _ _ _ (fun e => hne e.symm), Below.heap_setCell _ _ _ _ (fun e => hne e.symm)]
          exact HX2.out)
        by_cases hEq : i = o
        · subst hEq
          obtain rfl : x = y := by rw [← hx, ← hy]
          clear hx hy
          go_wp2_with fail
          go_region
          go_wp2_with fail
          go_roundw
          case rel => exact ⟨k, i + 1, Sort.xorNext r, _, by go_num, by omega, by omega, HSQ, HXQ, HTQ, HNX⟩
          case measure => simp [intOf]; omega
        · clear hx hy
          go_wp2_with fail
          go_region
          go_wp2_with fail
          go_roundw
          case rel => exact ⟨k, i + 1, Sort.xorNext r, _, by go_num, by omega, by omega, HSQ, HXQ, HTQ, HNX⟩
          case measure => simp [intOf]; omega
      · obtain ⟨o, ho⟩ : ∃ o, a + O = o := ⟨_, rfl⟩
        have HNX := Lib.hid (show bpR a L M k (i + 1) (Sort.xorNext r, Sort.swp e i o) = D by
          have h := HO.out
          rw [bpR_step a L M k i r e O (by rw [HN.out.1, HN.out.2, if_neg hLO]), ho] at h
          exact h)
        have z5 : (a : Int) + (O : Int) = (o : Int) := by omega
        have hon : o < n := by omega
        clear ho
        go_wp2_with fail
        refine HC.out.mono ?_
        rintro e' w2 ⟨rfl, hr2, hx2, ht2⟩
        have HR2 := Lib.hid hr2
        rw [← HN.out.1] at hx2
        have HX2 := Lib.hid hx2
        have HT2 := Lib.hid (HTr.out.trans ht2 (fun k hk => .inr (by rw [hk]; exact HRB.out)))
        clear hr2 hx2 ht2
        obtain ⟨ci, fi⟩ := HR2.out.at_ i (by omega)
        obtain ⟨co, fo⟩ := HR2.out.at_ o hon
        have HSQ := Lib.hid ((HR2.out.swap i o).below (below_drew (Below.refl _ _)))
        obtain ⟨x, hx⟩ : ∃ x, e[o]! = x := ⟨_, rfl⟩
        obtain ⟨y, hy⟩ : ∃ y, e[i]! = y := ⟨_, rfl⟩
        rw [hx, hy] at HSQ
        rw [hx] at co
        rw [hy] at ci
        have HTQ := Lib.hid (((HT2.out.put g i (.int .u64 x) (.inl rfl)).put g o (.int .u64 y) (.inl rfl)).drew)
        have HXQ := Lib.hid (show SX (((w2.setCell ⟨g, i, none⟩ (.int .u64 x)).setCell ⟨g, o, none⟩ (.int .u64 y)).drew) rb (Sort.xorNext r).toNat from by
          have hne : g ≠ rb := fun e => SX.ne HR2.out HX2.out (by rw [← e]; rfl)
          show (((w2.setCell ⟨g, i, none⟩ (.int .u64 x)).setCell ⟨g, o, none⟩ (.int .u64 y))).heap[rb]? = _
          rw [Below.heap_setCell _ _ _ _ (fun e => hne e.symm), Below.heap_setCell _ _ _ _ (fun e => hne e.symm)]
          exact HX2.out)
        by_cases hEq : i = o
        · subst hEq
          obtain rfl : x = y := by rw [← hx, ← hy]
          clear hx hy
          go_wp2_with fail
          go_region
          go_wp2_with fail
          go_roundw
          case rel => exact ⟨k, i + 1, Sort.xorNext r, _, by go_num, by omega, by omega, HSQ, HXQ, HTQ, HNX⟩
          case measure => simp [intOf]; omega
        · clear hx hy
          go_wp2_with fail
          go_region
          go_wp2_with fail
          go_roundw
          case rel => exact ⟨k, i + 1, Sort.xorNext r, _, by go_num, by omega, by omega, HSQ, HXQ, HTQ, HNX⟩
          case measure => simp [intOf]; omega
end
end Go.Proofs.Ytmbhicjjbgbneaa
