/- A member list: what is refused; Live, Now. -/
import Derived.Test.YtmbhicjjbgbneaaMbK
namespace Go.Proofs.Ytmbhicjjbgbneaa
open Go.RowKit Go.Shelf Go.Proofs.YtmbhicjjbgbneaaW.PrintWords Go.Proofs.YtmbhicjjbgbneaaW.PrintLast Go.Proofs.YtmbhicjjbgbneaaW.PrintMore
set_option linter.unusedVariables false
set_option linter.unusedSimpArgs false
set_option maxRecDepth 100000
section
variable {W : World} {p m : Nat} {now last : Int} {L : List (Int × RpV)}
theorem mbadd_many (h : Mb W p m now last L) (t : Int) (n : Nat) (hn : L.length = n) (h8 : n = 8) : Calls Try.prog 29 #[.pointer (some ⟨p, 0, none⟩), .int .i64 t] W fun e w' => e = .returned (.tuple #[.int .u64 0, .int .i64 5]) ∧ Mb w' p m (lat now t) last L ∧ Tn (fun k => k = p) W w' := by
  have HO := Lib.hid (mbok_in h)
  have HLT := Lib.hid (mblater_in h t)
  subst h8
  have HN := Lib.hid hn
  clear h hn
  go_enter Try.func29, Try.ntmps29
  go_wp2_with fail
  refine HO.out.mono ?_
  rintro e w' ⟨rfl, rfl⟩
  go_wp2_with fail
  refine HLT.out.mono ?_
  rintro e w1 ⟨rfl, hM, hT⟩
  obtain ⟨k0, k1, k2⟩ := hM.at_
  have hlen := run_mlen (P := Try.prog) Try.underlying93 hM.mp 3
  rw [ptrs_len, HN.out] at hlen
  have HM := Lib.hid hM
  have HT := Lib.hid hT
  clear hM hT
  go_wp2_with fail
  go_ret2
  exact ⟨rfl, HM.out, HT.out⟩
theorem mbup_miss (h : Mb W p m now last L) (t id inc : Int) (hl : mlook L id = none) : Calls Try.prog 34 #[.pointer (some ⟨p, 0, none⟩), .int .i64 t, .int .u64 id, .int .u64 inc] W fun e w' => e = .returned (.tuple #[.bool false, .int .i64 6]) ∧ Mb w' p m (lat now t) last L ∧ Tn (fun k => k = p) W w' := by
  have HF := Lib.hid (mbfind_miss h t id hl)
  unfold FindR at HF
  clear h hl
  go_enter Try.func34, Try.ntmps34
  go_wp2_with fail
  refine HF.out.mono ?_
  rintro e w1 ⟨rfl, hm, ht⟩
  have HM := Lib.hid hm
  have HT := Lib.hid ht
  clear hm ht
  go_wp2_with fail
  go_ret2
  exact ⟨rfl, HM.out, HT.out⟩
theorem mbup_arg (h : Mb W p m now last L) (t id inc : Int) (v : RpV) (hl : mlook L id = some v) (hi : inc = 0 ∨ inc < v.2.2.1) : Calls Try.prog 34 #[.pointer (some ⟨p, 0, none⟩), .int .i64 t, .int .u64 id, .int .u64 inc] W fun e w' => e = .returned (.tuple #[.bool false, .int .i64 1]) ∧ Mb w' p m (lat now t) last L ∧ Tn (fun k => k = p) W w' := by
  have HF := Lib.hid (mbfind_hit h t id v hl)
  have HL := Lib.hid hl
  unfold FindR rpP at HF
  obtain ⟨q, s, i, b, n⟩ := v
  dsimp only at HF hi ⊢
  clear h hl
  go_enter Try.func34, Try.ntmps34
  go_wp2_with fail
  refine HF.out.mono ?_
  rintro e w1 ⟨rfl, hm, ht⟩
  obtain ⟨⟨c0, c1, c2, c3, c4⟩, f0, f1, f2, f3, f4⟩ := hm.rcell HL.out
  dsimp only at c0 c1 c2 c3 c4
  have HM := Lib.hid hm
  have HT := Lib.hid ht
  clear hm ht
  by_cases h0 : inc = 0
  · subst h0
    clear hi
    go_wp2_with fail
    go_ret2
    exact ⟨rfl, HM.out, HT.out⟩
  · have hi2 : inc < i := by omega
    have hd0 : (inc == 0) = false := by simpa using h0
    clear hi h0
    go_wp2_with fail
    go_ret2
    exact ⟨rfl, HM.out, HT.out⟩
theorem mbnow_in (h : Mb W p m now last L) : Calls Try.prog 47 #[.pointer (some ⟨p, 0, none⟩)] W fun e w' => e = .returned (.int .i64 now) ∧ W = w' := by
  have HO := Lib.hid (mbok_in h)
  obtain ⟨k0, k1, k2⟩ := h.at_
  clear h
  go_enter Try.func47, Try.ntmps47
  go_wp2_with fail
  refine HO.out.mono ?_
  rintro e w' ⟨rfl, rfl⟩
  go_wp2_with fail
  go_ret
  exact ⟨rfl, rfl⟩
def liveN (V : List Rp) : Nat := (V.filter (fun x => decide (x.2.1 ≠ 3))).length
theorem liveN_snoc (V : List Rp) (x : Rp) : liveN (V ++ [x]) = liveN V + (if x.2.1 = 3 then 0 else 1) := by
  unfold liveN
  rw [List.filter_append, List.length_append]
  by_cases h : x.2.1 = 3
  · rw [if_pos h, List.filter_cons_of_neg (by simp [h])]; rfl
  · rw [if_neg h, List.filter_cons_of_pos (by simp [h])]; rfl
theorem liveN_take (V : List Rp) (i : Nat) (hi : i < V.length) : liveN (V.take (i + 1)) = liveN (V.take i) + (if V[i].2.1 = 3 then 0 else 1) := by
  rw [List.take_succ_eq_append_getElem hi, liveN_snoc]
theorem liveN_le (V : List Rp) : liveN V ≤ V.length := List.length_filter_le _ _
theorem rpadd_on (a : Addr) (m j : Nat) (hj : 0 < j) : a.add (m + j) = ⟨(a.add m).block, (a.add m).off + j, none⟩ := add_field a m j hj
/-- A replica among others. -/
theorem rps_at {w : World} {Ad : Option Addr} {V : List Rp} (h : KRp.C w Ad V.length V) (i : Nat) (hi : i < V.length) :
    ∃ ad x, Ad = some ad ∧ V[i]? = some x ∧ w.cell? (ad.add (i * 5)) = some (.int .u64 x.1) ∧ w.cell? ⟨(ad.add (i * 5)).block, (ad.add (i * 5)).off + 1, none⟩ = some (.int .i64 x.2.1) ∧
      w.cell? ⟨(ad.add (i * 5)).block, (ad.add (i * 5)).off + 2, none⟩ = some (.int .u64 x.2.2.1) ∧ w.cell? ⟨(ad.add (i * 5)).block, (ad.add (i * 5)).off + 3, none⟩ = some (.int .i64 x.2.2.2.1) ∧ w.cell? ⟨(ad.add (i * 5)).block, (ad.add (i * 5)).off + 4, none⟩ = some (.int .i64 x.2.2.2.2) := by
  obtain ⟨ad, cs, e, hl, hK, hcell⟩ := Kd.C_get h (0, 0, 0, 0, 0) (i : Int) (by omega) (by omega)
  have hi' : (i : Int).toNat = i := by omega
  rw [hi'] at hK hcell
  have hx : V.getD i (0, 0, 0, 0, 0) = V[i] := by rw [List.getD_eq_getElem?_getD, List.getElem?_eq_getElem hi]; rfl
  rw [hx] at hK
  have e2 := rp_K hK
  subst e2
  have hs : KRp.sz = 5 := rfl
  rw [hs] at hcell
  refine ⟨ad, V[i], e, List.getElem?_eq_getElem hi, hcell 0 _ rfl, ?_, ?_, ?_, ?_⟩
  · rw [← rpadd_on ad _ 1 (by omega)]; exact hcell 1 _ rfl
  · rw [← rpadd_on ad _ 2 (by omega)]; exact hcell 2 _ rfl
  · rw [← rpadd_on ad _ 3 (by omega)]; exact hcell 3 _ rfl
  · rw [← rpadd_on ad _ 4 (by omega)]; exact hcell 4 _ rfl
set_option maxHeartbeats 1000000 in
theorem mblive_in (h : Mb W p m now last L) (hs : Asc L) (h12 : L.length ≤ 12) : Calls Try.prog 37 #[.pointer (some ⟨p, 0, none⟩)] W fun e w' => e = .returned (.int .i64 (liveN (L.map rpV))) ∧ Below W.heap.size W w' := by
  have HA := Lib.hid (mball_in h hs h12)
  unfold AllR at HA
  obtain ⟨V, hV⟩ : ∃ V, L.map rpV = V := ⟨_, rfl⟩
  have hl12 : V.length ≤ 12 := by rw [← hV, List.length_map]; exact h12
  rw [hV] at HA ⊢
  obtain ⟨n, hn⟩ : ∃ n, V.length = n := ⟨_, rfl⟩
  rw [hn] at hl12
  have HN := Lib.hid hn
  clear h hs h12 hV hn
  go_enter Try.func37, Try.ntmps37
  go_wp2_with fail
  refine HA.out.mono ?_
  rintro e w1 ⟨v, rfl, hr, hb⟩
  obtain ⟨A, c, e, hc, hC⟩ := Kd.R_reads hr
  subst e
  have HF := Lib.hid (fun (W' : World) (hb : Below w1.heap.size w1 W') => Kd.C_below hC hb)
  have HB := Lib.hid hb
  rw [HN.out] at hc ⊢
  clear hr hb hC
  go_wp2_with fail
  go_loopw [3, 5, 9] (fun kv bv iv wr => ∃ (i k : Nat) (b' : Value), b' = bv ∧ kv = .int .i64 k ∧ iv = .int .i64 i ∧ i ≤ n ∧ k ≤ i ∧ Hid (liveN (V.take i) = k) ∧ Hid (Below w1.heap.size w1 wr)) (fun _ _ iv _ => n - (intOf iv).toNat)
  case atStart => exact ⟨0, 0, _, rfl, rfl, rfl, by omega, by omega, Lib.hid rfl, Lib.hid (Below.refl _ _)⟩
  case round =>
    obtain ⟨i, k, bv, rfl, rfl, rfl, hi, hki, HK, HB2⟩ := hrel
    by_cases hin : i < n
    · obtain ⟨ad, x, rfl, hx, c0, c1, c2, c3, c4⟩ := rps_at (by rw [HN.out]; exact (HN.out ▸ HF.out wr HB2.out)) i (by rw [HN.out]; exact hin)
      obtain ⟨a, s, ic, b, tt⟩ := x
      dsimp only at c0 c1 c2 c3 c4
      have HT := Lib.hid (show liveN (V.take (i + 1)) = k + (if s = 3 then 0 else 1) from by
        have hi' : i < V.length := by rw [HN.out]; exact hin
        rw [liveN_take V i hi', HK.out]
        rw [List.getElem?_eq_getElem hi'] at hx
        injection hx with hx
        rw [hx])
      have HB3 := Lib.hid (below_then HB2.out HB2.out.size (below_alloc (Below.refl _ wr) (.cells #[.int .u64 a, .int .i64 s, .int .u64 ic, .int .i64 b, .int .i64 tt] 75)))
      clear hx
      by_cases h3 : s = 3
      · subst h3
        have HT2 := Lib.hid (show liveN (V.take (i + 1)) = k by rw [HT.out, if_pos rfl]; rfl)
        go_wp2_with fail
        go_roundw
        case rel => exact ⟨i + 1, k, _, rfl, rfl, by go_num, by omega, by omega, HT2, HB3⟩
        case measure => simp [intOf]; omega
      · have hd : (s == 3) = false := by simpa using h3
        have HT2 := Lib.hid (show liveN (V.take (i + 1)) = k + 1 by rw [HT.out, if_neg h3])
        clear h3
        go_wp2_with fail
        go_roundw
        case rel => exact ⟨i + 1, k + 1, _, rfl, by go_num, by go_num, by omega, by omega, HT2, HB3⟩
        case measure => simp [intOf]; omega
    · have hin2 : i = n := by omega
      subst hin2
      have HT2 := Lib.hid (show (k : Int) = (liveN V : Nat) by rw [← HK.out, List.take_of_length_le (by rw [HN.out]; omega)])
      go_wp2_with fail
      go_ret
      exact ⟨by rw [← HT2.out]; rfl, below_then HB.out HB.out.size HB2.out⟩
end
end Go.Proofs.Ytmbhicjjbgbneaa
