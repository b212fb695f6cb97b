/- Bits of a burst. -/
import Derived.Test.YtcelhendfjiicaaLnD
namespace Go.Proofs.Ytcelhendfjiicaa
open Go.RowKit Go.Shelf Go.Proofs.YtcelhendfjiicaaW.PrintWords Go.Proofs.YtcelhendfjiicaaW.PrintLast Go.Proofs.YtcelhendfjiicaaW.PrintMore
set_option linter.unusedVariables false
set_option linter.unusedSimpArgs false
set_option maxRecDepth 100000
attribute [local go_sem] gb_max2 gb_min2 gb_max_two gb_min_two gb_max_three gb_min_three
/-- The k-th bit of a mask. -/
def mbit (mask : Int) (k : Nat) : Int := bits .and .u32 (mask / 2 ^ k) 1
/-- Bit t turned, if m is 1. -/
def bstep (bs : List Int) (t : Nat) (m : Int) : List Int := bs.set (t / 8) (bits .xor .u8 (bs.getD (t / 8) 0) (m % 256 * 2 ^ (t % 8) % 256))
/-- The first k bits of the mask laid over. -/
def bur (n : Nat) (at_ mask : Int) : Nat → List Int → List Int
  | 0, bs => bs
  | k + 1, bs => if 0 ≤ at_ + (k : Int) ∧ at_ + (k : Int) < 8 * (n : Int) then bstep (bur n at_ mask k bs) (at_ + (k : Int)).toNat (mbit mask k) else bur n at_ mask k bs
theorem bur_succ (n : Nat) (at_ mask : Int) (k : Nat) (bs : List Int) : bur n at_ mask (k + 1) bs = if 0 ≤ at_ + (k : Int) ∧ at_ + (k : Int) < 8 * (n : Int) then bstep (bur n at_ mask k bs) (at_ + (k : Int)).toNat (mbit mask k) else bur n at_ mask k bs := rfl
theorem bur_len (n : Nat) (at_ mask : Int) (k : Nat) (bs : List Int) : (bur n at_ mask k bs).length = bs.length := by
  induction k with
  | zero => rfl
  | succ k ih =>
    unfold bur
    split
    · unfold bstep; rw [List.length_set, ih]
    · exact ih
theorem bur_low (n : Nat) (at_ mask : Int) (k : Nat) (bs : List Int) (h : at_ + (k : Int) ≤ 0) : bur n at_ mask k bs = bs := by
  induction k with
  | zero => rfl
  | succ k ih =>
    unfold bur
    rw [if_neg (by omega), ih (by omega)]
theorem bur_high (n : Nat) (at_ mask : Int) (k j : Nat) (bs : List Int) (h : 8 * (n : Int) ≤ at_ + (k : Int)) : bur n at_ mask (k + j) bs = bur n at_ mask k bs := by
  induction j with
  | zero => rfl
  | succ j ih =>
    rw [show k + (j + 1) = (k + j) + 1 by omega, bur_succ, if_neg (by omega), ih]
/-- What a burst makes of bytes. -/
def vburst (bs : List Int) (at_ mask : Int) : List Int := bur bs.length at_ mask 32 bs
theorem vburst_len (bs : List Int) (at_ mask : Int) : (vburst bs at_ mask).length = bs.length := bur_len _ _ _ _ _
theorem vburst_out (bs : List Int) (at_ mask : Int) (h : at_ ≤ -32 ∨ 8 * (bs.length : Int) ≤ at_) : vburst bs at_ mask = bs := by
  rcases h with h | h
  · exact bur_low _ _ _ _ _ (by omega)
  · have := bur_high bs.length at_ mask 0 32 bs (by omega)
    exact this
def BurR (bs : List Int) (W : World) (e : Ending) (w' : World) : Prop := ∃ v, e = .returned v ∧ Tx8 w' W.heap.size v bs ∧ Below W.heap.size W w'
set_option maxHeartbeats 2000000 in
theorem crc_any (bs : List Int) (n : Nat) (hn : bs.length = n) (h9 : n ≤ 140737488351232) (at_ mask : Int) (hat0 : -9223372036854775808 ≤ at_) (hat1 : at_ ≤ 9223372036854775807) (A : Option Addr) (c0 : Nat) (W : World) (hx : (Kd.int .u8).C W A n bs) (hc : n ≤ c0) :
    Calls Try.prog 55 #[.slice A n c0, .int .i64 at_, .int .u32 mask] W (BurR (vburst bs at_ mask) W) := by
  have HCL := Lib.hid (clone8_k A c0 bs n hn W hx hc h9)
  unfold CloneR at HCL
  unfold BurR
  have HN := Lib.hid hn
  have hw : IntKind.i64.wrap (8 * (n : Int)) = 8 * n := by unfold IntKind.wrap; simp [IntKind.bits, IntKind.signed]; omega
  clear hx hc hn
  go_enter Try.func55, Try.ntmps55
  go_wp2_with fail
  refine HCL.out.mono ?_
  rintro e w1 ⟨v, rfl, ho, hb⟩
  have ho' : Tx8 w1 W.heap.size v bs := ho
  obtain ⟨A1, c1, hv, hc1, -⟩ := ho'.reads
  rw [HN.out] at hv hc1
  subst hv
  have HO := Lib.hid ho'
  have HB := Lib.hid hb
  clear ho ho' hb
  by_cases h0 : at_ ≤ -32
  · have HE := Lib.hid (vburst_out bs at_ mask (.inl h0))
    go_wp2_with fail
    go_ret
    exact ⟨_, rfl, by rw [HE.out]; exact HO.out, HB.out⟩
  · by_cases h1 : 8 * (n : Int) ≤ at_
    · have HE := Lib.hid (vburst_out bs at_ mask (.inr (by rw [HN.out]; exact h1)))
      go_wp2_with fail
      go_ret
      exact ⟨_, rfl, by rw [HE.out]; exact HO.out, HB.out⟩
    · have hw2 : IntKind.i64.wrap (at_ + 32) = at_ + 32 := by unfold IntKind.wrap; simp [IntKind.bits, IntKind.signed]; omega
      go_wp2_with fail
      go_loopw [8] (fun iv wr => ∃ i : Int, iv = .int .i64 i ∧ 0 ≤ i ∧ at_ ≤ i ∧ i ≤ at_ + 32 ∧ i ≤ 8 * (n : Int) ∧ Hid (Tx8 wr W.heap.size (.slice A1 n c1) (bur n at_ mask (i - at_).toNat bs)) ∧ Hid (Below W.heap.size W wr)) (fun iv _ => (min (at_ + 32) (8 * n) - intOf iv).toNat)
      case atStart => exact ⟨_, rfl, by first | omega | (split <;> omega), by first | omega | (split <;> omega), by first | omega | (split <;> omega), by first | omega | (split <;> omega), Lib.hid (by
          rcases Int.le_total at_ 0 with h | h
          · rw [bur_low _ _ _ _ _ (by omega)]; exact HO.out
          · rw [show (max at_ 0 - at_).toNat = 0 by omega]; exact HO.out), HB⟩
      case round =>
        obtain ⟨i, rfl, hi0, hi1, hi2, hi3, HOi, HBi⟩ := hrel
        by_cases hc : i < min (at_ + 32) (8 * n)
        · have hs : IntKind.i64.wrap (i - at_) = i - at_ := by unfold IntKind.wrap; simp [IntKind.bits, IntKind.signed]; omega
          have hq : i / 8 < n := by omega
          have hq0 : 0 ≤ i / 8 := by omega
          have hlen : (bur n at_ mask (i - at_).toNat bs).length = n := by rw [bur_len, HN.out]
          obtain ⟨g, cells, e1, hbg, -, -⟩ := HOi.out.form (by omega)
          subst e1
          have hst : bur n at_ mask (i + 1 - at_).toNat bs = bstep (bur n at_ mask (i - at_).toNat bs) i.toNat (mbit mask (i - at_).toNat) := by
            rw [show (i + 1 - at_).toNat = (i - at_).toNat + 1 by omega, bur_succ, if_pos (by omega)]
            congr 1
            omega
          have HST := Lib.hid hst
          obtain ⟨r, hr⟩ : ∃ r, bur n at_ mask (i - at_).toNat bs = r := ⟨_, rfl⟩
          rw [hr] at HOi HST hlen
          obtain ⟨b, hb⟩ : ∃ b, r.getD (i / 8).toNat 0 = b := ⟨_, rfl⟩
          obtain ⟨q0, f0⟩ := HOi.out.cell (i / 8).toNat (by omega)
          rw [hb] at q0
          have HBB := Lib.hid hb
          have HNX := Lib.hid (show bstep r i.toNat (mbit mask (i - at_).toNat) = r.set (i / 8).toNat (bits .xor .u8 b (bits .and .u32 (mask / 2 ^ (i - at_).toNat) 1 % 256 * 2 ^ (i % 8).toNat % 256)) by
            unfold bstep mbit
            rw [show i.toNat / 8 = (i / 8).toNat by omega, show i.toNat % 8 = (i % 8).toNat by omega, HBB.out])
          have HG := Lib.hid hbg
          have hi9 : i < 8 * (n : Int) := by omega
          clear hst hr hb hlen hbg
          go_upto_region 7 with fail
          go_region
          go_wp2_with fail
          go_roundw
          case rel => exact ⟨i + 1, by go_num, by omega, by omega, by omega, by omega, Lib.hid (by rw [HST.out, HNX.out]; exact (HOi.out.store _ _)), Lib.hid ((HBi.out.setCell (p := ⟨g, (i / 8).toNat, none⟩) HG.out _).drew)⟩
          case measure => simp [intOf]; omega
        · have HE := Lib.hid (show vburst bs at_ mask = bur n at_ mask (i - at_).toNat bs by
            unfold vburst
            rw [HN.out]
            by_cases hf : at_ + 32 ≤ 8 * n
            · rw [show (i - at_).toNat = 32 by omega]
            · have h8 : 8 * (n : Int) ≤ i := by omega
              have := bur_high n at_ mask (i - at_).toNat (32 - (i - at_).toNat) bs (by omega)
              rwa [show (i - at_).toNat + (32 - (i - at_).toNat) = 32 by omega] at this)
          go_wp2_with fail
          go_ret
          exact ⟨_, rfl, by rw [HE.out]; exact HOi.out, HBi.out⟩
end Go.Proofs.Ytcelhendfjiicaa
