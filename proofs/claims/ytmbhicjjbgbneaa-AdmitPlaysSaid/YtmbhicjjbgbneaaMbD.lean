/- A member list: New, Add, Up, Get; the list that is alive. -/
import Derived.Test.YtmbhicjjbgbneaaMbC
import Derived.Deep.RegionHeld3
namespace Go.Proofs.Ytmbhicjjbgbneaa
open Go.RowKit Go.Shelf Go.Proofs.YtmbhicjjbgbneaaW.PrintWords Go.Proofs.YtmbhicjjbgbneaaW.PrintLast Go.Proofs.YtmbhicjjbgbneaaW.PrintMore
set_option linter.unusedVariables false
set_option linter.unusedSimpArgs false
set_option maxRecDepth 100000
attribute [local go_sem] mb_max2
def MbNew (W : World) (e : Ending) (w' : World) : Prop := ∃ q m, e = .returned (.pointer (some ⟨q, 0, none⟩)) ∧ Mb w' q m 0 0 [] ∧ W.heap.size ≤ q ∧ W.heap.size ≤ m ∧ Below W.heap.size W w'
theorem mbnew_mk (W : World) : MbNew W (.returned (.pointer (some ⟨W.heap.size + 1, 0, none⟩))) ((W.alloc (.map #[] 0)).alloc (.cells #[.int .i64 0, .int .u64 0, .map (some W.heap.size)] 95)) := by
  have hM := IsMp.made (Value.int .u64) W
  have hb1 := below_alloc (Below.refl W.heap.size W) (.map #[] 0)
  have e : (W.alloc (.map #[] 0)).heap.size = W.heap.size + 1 := by simp
  exact ⟨_, W.heap.size, rfl, ⟨by rw [← e]; exact heap_alloc_new _ _, (hM.below (below_alloc (Below.refl _ _) _)), fun e he => absurd he (by simp), by simp, by simp [mkeys]⟩, by omega, Nat.le_refl _, below_alloc hb1 _⟩
theorem mbnew_any (W : World) : Calls Try.prog 26 #[] W (MbNew W) := by
  have hmk := @run_makeMap Try.prog
  go_enter Try.func26, Try.ntmps26
  go_wp2_with fail
  go_ret
  exact mbnew_mk W
section
variable {W : World} {p m : Nat} {now last : Int} {L : List (Int × RpV)}
def AddR (W : World) (p m : Nat) (now last : Int) (L : List (Int × RpV)) (e : Ending) (w' : World) : Prop := ∃ q, e = .returned (.tuple #[.int .u64 (last + 1), .int .i64 0]) ∧ W.heap.size ≤ q ∧ Mb w' p m now (last + 1) (L ++ [(last + 1, (q, 1, 0, 0, now))]) ∧ Tn (fun k => k = p ∨ k = m) W w'
def MC (p m : Nat) (now last : Int) (w' : World) : Prop := w'.cell? ⟨p, 0, none⟩ = some (.int .i64 now) ∧ w'.cell? ⟨p, 1, none⟩ = some (.int .u64 last) ∧ w'.cell? ⟨p, 2, none⟩ = some (.map (some m))
theorem Mb.mc (h : Mb W p m now last L) : MC p m now last W := h.at_
set_option maxHeartbeats 1000000 in
theorem mbadd_ok (h : Mb W p m now last L) (t : Int) (n : Nat) (hn : L.length = n) (h8 : n < 8) (h0 : 0 ≤ last) (h9 : last < 9223372036854775807) (hl : mlook L (last + 1) = none) :
    Calls Try.prog 29 #[.pointer (some ⟨p, 0, none⟩), .int .i64 t] W (AddR W p m (lat now t) last L) := by
  have HO := Lib.hid (mbok_in h)
  have HLT := Lib.hid (mblater_in h t)
  have HL := Lib.hid hl
  have HN := Lib.hid hn
  unfold AddR
  obtain ⟨tn, htn⟩ : ∃ x, lat now t = x := ⟨_, rfl⟩
  rw [htn] at HLT ⊢
  have hd1 : ((n : Int) == 8) = false := by simp; omega
  have hd2 : (last == 9223372036854775807) = false := by simp; omega
  clear h hl hn htn
  go_enter Try.func29, Try.ntmps29
  go_wp2_with fail
  refine HO.out.mono ?_
  rintro e w' ⟨rfl, rfl⟩
  go_wp2_with fail
  refine HLT.out.mono ?_
  rintro e w1 ⟨rfl, hM, hT⟩
  have HT := Lib.hid hT
  obtain ⟨k0, k1, k2⟩ := hM.at_
  have f1 := blk_frozen hM.box 1
  have hlen := run_mlen (P := Try.prog) Try.underlying93 hM.mp 3
  rw [ptrs_len, HN.out] at hlen
  have HM := Lib.hid hM
  have hwr : IntKind.u64.wrap (last + 1) = last + 1 := by unfold IntKind.wrap; simp [IntKind.bits, IntKind.signed]; omega
  have HM2 := Lib.hid (hM.put1 (last + 1))
  have HT2 := Lib.hid ((hT.mono (F' := fun k => k = p ∨ k = m) (fun k hk => .inl hk)).put p 1 (.int .u64 (last + 1)) (.inl (.inl rfl)))
  clear hM hT
  go_upto_region 7 with fail
  obtain ⟨W2, hW2⟩ : ∃ W2, w1.setCell ⟨p, 1, none⟩ (.int .u64 (last + 1)) = W2 := ⟨_, rfl⟩
  rw [hW2] at HM2 HT2 ⊢
  clear hW2 k0 k1 k2 f1 hlen HM HT
  obtain ⟨k0, k1, k2⟩ := HM2.out.at_
  have hbD := below_drew (Below.refl W2.heap.size W2)
  have hMD := HM2.out.below hbD
  have hbA := below_alloc (Below.refl W2.drew.heap.size W2.drew) (.cells #[.int .u64 (last + 1), .int .i64 1, .int .u64 0, .int .i64 0, .int .i64 tn] 75)
  have hMA : Mb (W2.alloc (.cells #[.int .u64 (last + 1), .int .i64 1, .int .u64 0, .int .i64 0, .int .i64 tn] 75)).drew p m tn (last + 1) L := hMD.below hbA
  obtain ⟨w3, hrun, hmp, hg, -⟩ := run_mput (P := Try.prog) Try.underlying93 (key_int Try.underlying22) hMA.mp (last + 1) (.pointer (some ⟨W2.heap.size, 0, none⟩))
  have hM3 : Mb w3 p m tn (last + 1) (L ++ [(last + 1, (W2.heap.size, 1, 0, 0, tn))]) := hMD.add (v := (W2.heap.size, 1, 0, 0, tn)) HL.out rfl hmp (show (W2.drew.alloc (.cells #[.int .u64 (last + 1), .int .i64 1, .int .u64 0, .int .i64 0, .int .i64 tn] 75)).grownBy w3 (some m) from hg)
  have HT3 := Lib.hid (((HT2.out.bel hbD).bel hbA).grown (show (W2.drew.alloc (.cells #[.int .u64 (last + 1), .int .i64 1, .int .u64 0, .int .i64 0, .int .i64 tn] 75)).grownBy w3 (some m) from hg) (.inl (.inr rfl)))
  have HM3 := Lib.hid hM3
  have hc0 : MC p m tn (last + 1) W2.drew := hMD.mc
  have hc1 : MC p m tn (last + 1) (W2.alloc (.cells #[.int .u64 (last + 1), .int .i64 1, .int .u64 0, .int .i64 0, .int .i64 tn] 75)).drew := hMA.mc
  have hc2 : MC p m tn (last + 1) w3 := hM3.mc
  have HSZ := Lib.hid (show W.heap.size ≤ W2.heap.size from HT2.out.size)
  unfold MC at hc0 hc1 hc2
  clear hbD hMD hbA hMA hmp hg hM3
  go_region_held3 (fun w' => w'.cell? ⟨p, 0, none⟩ = some (.int .i64 tn) ∧ w'.cell? ⟨p, 1, none⟩ = some (.int .u64 (last + 1)) ∧ w'.cell? ⟨p, 2, none⟩ = some (.map (some m)))
    (first | exact hc0 | exact hc1 | exact hc2)
    (fail)
  obtain ⟨y0, y1, y2⟩ := hc2
  go_wp2_with fail
  go_ret2
  exact ⟨_, rfl, HSZ.out, HM3.out, HT3.out⟩
end
end Go.Proofs.Ytmbhicjjbgbneaa
