/- Bits of a burst, as the document has them. -/
import Derived.Test.YtcelhendfjiicaaLnE
namespace Go.Proofs.Ytcelhendfjiicaa
open Go.RowKit Go.Shelf Go.Proofs.YtcelhendfjiicaaW.PrintWords Go.Proofs.YtcelhendfjiicaaW.PrintLast Go.Proofs.YtcelhendfjiicaaW.PrintMore
set_option linter.unusedVariables false
set_option linter.unusedSimpArgs false
set_option maxRecDepth 100000
attribute [local go_sem] gb_max2 gb_min2 gb_max_two gb_min_two gb_max_three gb_min_three
theorem infoU8b : (Try.prog.info? 5).map (fun i => (i.zero, i.size, i.bytes)) = some (some (.int .u8 0), 1, 1) := by kernel_rfl
theorem mbit_two (mask : Int) (k : Nat) : mbit mask k = 0 ∨ mbit mask k = 1 := by
  unfold mbit bits
  have h : (BitVec.ofInt 32 (mask / 2 ^ k) &&& BitVec.ofInt 32 1).toNat ≤ 1 := by
    rw [BitVec.toNat_and]
    exact Nat.and_le_right
  show IntKind.u32.wrap ((BitVec.ofInt 32 (mask / 2 ^ k) &&& BitVec.ofInt 32 1).toNat : Nat) = 0 ∨ IntKind.u32.wrap ((BitVec.ofInt 32 (mask / 2 ^ k) &&& BitVec.ofInt 32 1).toNat : Nat) = 1
  generalize (BitVec.ofInt 32 (mask / 2 ^ k) &&& BitVec.ofInt 32 1).toNat = x at h
  have : IntKind.u32.wrap (x : Int) = (x : Int) % 4294967296 := by simp [IntKind.wrap, IntKind.bits, IntKind.signed]
  rw [this]
  omega
theorem xor_u8 (b c : Int) : 0 ≤ bits .xor .u8 b c ∧ bits .xor .u8 b c ≤ 255 := by
  have hw : ∀ x : Int, IntKind.u8.wrap x = x % 256 := fun x => by simp [IntKind.wrap, IntKind.bits, IntKind.signed]
  unfold bits
  rw [hw]
  omega
theorem xor_u8_zero (b : Int) (h0 : 0 ≤ b) (h1 : b ≤ 255) : bits .xor .u8 b 0 = b := by
  have hw : ∀ x : Int, IntKind.u8.wrap x = x % 256 := fun x => by simp [IntKind.wrap, IntKind.bits, IntKind.signed]
  unfold bits
  rw [hw]
  show ((BitVec.ofInt 8 b ^^^ BitVec.ofInt 8 0).toNat : Int) % 256 = b
  rw [BitVec.toNat_xor, BitVec.toNat_ofInt, BitVec.toNat_ofInt]
  have : ((0 : Int) % ((2 ^ 8 : Nat) : Int)).toNat = 0 := by decide
  rw [this, Nat.xor_zero]
  omega
def By8 (bs : List Int) : Prop := ∀ x ∈ bs, 0 ≤ x ∧ x ≤ 255
theorem By8.bur {n : Nat} {at_ mask : Int} {bs : List Int} (h : By8 bs) (k : Nat) : By8 (bur n at_ mask k bs) := by
  induction k with
  | zero => exact h
  | succ k ih =>
    rw [bur_succ]
    split
    · intro x hx
      rcases List.mem_or_eq_of_mem_set hx with hx | hx
      · exact ih x hx
      · rw [hx]; exact xor_u8 _ _
    · exact ih
theorem bstep_zero (bs : List Int) (t : Nat) (h : By8 bs) (ht : t / 8 < bs.length) : bstep bs t 0 = bs := by
  unfold bstep
  have hb := h (bs.getD (t / 8) 0) (by rw [List.getD_eq_getElem?_getD, List.getElem?_eq_getElem ht]; exact List.getElem_mem ht)
  rw [show (0 : Int) % 256 * 2 ^ (t % 8) % 256 = 0 by rw [show (0 : Int) % 256 = 0 from rfl, Int.zero_mul]; rfl, xor_u8_zero _ hb.1 hb.2]
  rw [List.getD_eq_getElem?_getD, List.getElem?_eq_getElem ht]
  exact List.set_getElem_self ht
theorem bstep_one (bs : List Int) (t : Nat) : bstep bs t 1 = bs.set (t / 8) (bits .xor .u8 (bs.getD (t / 8) 0) (2 ^ (t % 8) % 256)) := by
  unfold bstep
  rw [show (1 : Int) % 256 = 1 from rfl, Int.one_mul]
set_option maxHeartbeats 2000000 in
theorem rburst_any (bs : List Int) (hby : By8 bs) (n : Nat) (hn : bs.length = n) (h9 : n ≤ 140737488351232) (at_ mask : Int) (hat0 : -9223372036854775808 ≤ at_) (hat1 : at_ ≤ 9223372036854775807) (A : Option Addr) (c0 : Nat) (W : World) (hx : (Kd.int .u8).C W A n bs) (hc : n ≤ c0) :
    Calls Try.prog 56 #[.slice A n c0, .int .i64 at_, .int .u32 mask] W (BurR (vburst bs at_ mask) W) := by
  unfold BurR
  have HN := Lib.hid hn
  have HX := Lib.hid hx
  have HBY := Lib.hid hby
  have hw : IntKind.i64.wrap (8 * (n : Int)) = 8 * n := by unfold IntKind.wrap; simp [IntKind.bits, IntKind.signed]; omega
  clear hx hc hn hby
  go_enter Try.func56, Try.ntmps56
  go_wp2_with (at_builtin; refine Kd.R_append_row (w0 := W) (W := W) (Value.int .u8) 0 (h1 := fun _ => rfl) W.heap.size rfl _ _ 28 5 (.int .u8 0) 1 rfl Try.underlying28 infoU8b rfl (by decide) (.slice none 0 0) [] bs A n c0 (fun _ => True) (by rfl) (by rfl) (fun _ _ => trivial) (Kd.R_nil _ _ _ _ _) HX.out (Below.refl _ _) (Nat.le_refl _) (by simp; omega) ?_; intro v1 w1 hr hb hg hat; obtain ⟨A1, c1, hv1, hc1, -⟩ := Kd.R_reads hr; rw [List.nil_append, HN.out] at hv1; subst hv1; have HO := Lib.hid (show Tx8 w1 W.heap.size (.slice A1 n c1) bs from hr); have HB := Lib.hid hb; clear hr hb hg hat hc1)
  go_loopw [8] (fun iv wr => ∃ i : Nat, iv = .int .i64 i ∧ i ≤ 32 ∧ Hid (Tx8 wr W.heap.size (.slice A1 n c1) (bur n at_ mask i bs)) ∧ Hid (Below W.heap.size W wr)) (fun iv _ => 32 - (intOf iv).toNat)
  case atStart => exact ⟨0, rfl, by omega, HO, HB⟩
  case round =>
    obtain ⟨i, rfl, hi, HOi, HBi⟩ := hrel
    by_cases hi32 : i < 32
    · have hlen : (bur n at_ mask i bs).length = n := by rw [bur_len, HN.out]
      have hBY := HBY.out.bur (n := n) (at_ := at_) (mask := mask) i
      have HSU := Lib.hid (bur_succ n at_ mask i bs)
      obtain ⟨r, hr⟩ : ∃ r, bur n at_ mask i bs = r := ⟨_, rfl⟩
      rw [hr] at HOi HSU hlen hBY
      have HBR := Lib.hid hBY
      have HLN := Lib.hid hlen
      clear hr hBY hlen
      rcases mbit_two mask i with hm | hm
      · have HE := Lib.hid (show bur n at_ mask (i + 1) bs = r by
          rw [HSU.out]
          split
          · rename_i hin
            rw [hm]
            exact bstep_zero r _ HBR.out (by rw [HLN.out]; omega)
          · rfl)
        have hm' : bits .and .u32 (mask / 2 ^ i) 1 = 0 := hm
        clear hm
        go_wp2_with fail
        go_roundw
        case rel => exact ⟨i + 1, by go_num, by omega, by rw [HE.out]; exact HOi, HBi⟩
        case measure => simp [intOf]; omega
      · have hm' : bits .and .u32 (mask / 2 ^ i) 1 = 1 := hm
        have HM := Lib.hid hm
        clear hm
        by_cases hlo : at_ < -32
        · have HE := Lib.hid (show bur n at_ mask (i + 1) bs = r by rw [HSU.out, if_neg (by omega)])
          go_wp2_with fail
          go_roundw
          case rel => exact ⟨i + 1, by go_num, by omega, by rw [HE.out]; exact HOi, HBi⟩
          case measure => simp [intOf]; omega
        · by_cases hhi : 8 * (n : Int) < at_
          · have HE := Lib.hid (show bur n at_ mask (i + 1) bs = r by rw [HSU.out, if_neg (by omega)])
            go_wp2_with fail
            go_roundw
            case rel => exact ⟨i + 1, by go_num, by omega, by rw [HE.out]; exact HOi, HBi⟩
            case measure => simp [intOf]; omega
          · have hws : IntKind.i64.wrap (at_ + (i : Int)) = at_ + i := by unfold IntKind.wrap; simp [IntKind.bits, IntKind.signed]; omega
            obtain ⟨k, hk⟩ : ∃ k, at_ + (i : Int) = k := ⟨_, rfl⟩
            rw [hk] at hws HSU
            by_cases hk0 : 0 ≤ k
            · by_cases hk1 : k < 8 * (n : Int)
              · have hq : k / 8 < n := by omega
                have hq0 : 0 ≤ k / 8 := by omega
                obtain ⟨g, cells, e1, hbg, -, -⟩ := HOi.out.form (by omega)
                subst e1
                obtain ⟨b, hb⟩ : ∃ b, r.getD (k / 8).toNat 0 = b := ⟨_, rfl⟩
                obtain ⟨q0, f0⟩ := HOi.out.cell (k / 8).toNat (by omega)
                rw [hb] at q0
                have HE := Lib.hid (show bur n at_ mask (i + 1) bs = r.set (k / 8).toNat (bits .xor .u8 b (2 ^ (k % 8).toNat % 256)) by
                  rw [HSU.out, if_pos ⟨hk0, hk1⟩, HM.out, bstep_one, show k.toNat / 8 = (k / 8).toNat by omega, show k.toNat % 8 = (k % 8).toNat by omega, hb])
                have HG := Lib.hid hbg
                clear hbg hb
                go_wp2_with fail
                go_region
                go_wp2_with fail
                go_roundw
                case rel => exact ⟨i + 1, by go_num, by omega, Lib.hid (by rw [HE.out]; exact HOi.out.store _ _), Lib.hid ((HBi.out.setCell (p := ⟨g, (k / 8).toNat, none⟩) HG.out _).drew)⟩
                case measure => simp [intOf]; omega
              · have HE := Lib.hid (show bur n at_ mask (i + 1) bs = r by rw [HSU.out, if_neg (by omega)])
                go_wp2_with fail
                go_roundw
                case rel => exact ⟨i + 1, by go_num, by omega, by rw [HE.out]; exact HOi, HBi⟩
                case measure => simp [intOf]; omega
            · have HE := Lib.hid (show bur n at_ mask (i + 1) bs = r by rw [HSU.out, if_neg (by omega)])
              go_wp2_with fail
              go_roundw
              case rel => exact ⟨i + 1, by go_num, by omega, by rw [HE.out]; exact HOi, HBi⟩
              case measure => simp [intOf]; omega
    · have hi' : i = 32 := by omega
      subst hi'
      have HE := Lib.hid (show vburst bs at_ mask = bur n at_ mask 32 bs by unfold vburst; rw [HN.out])
      go_wp2_with fail
      go_ret
      exact ⟨_, rfl, by rw [HE.out]; exact HOi.out, HBi.out⟩
end Go.Proofs.Ytcelhendfjiicaa
