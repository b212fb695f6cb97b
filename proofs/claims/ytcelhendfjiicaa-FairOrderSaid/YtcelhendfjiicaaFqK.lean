/- A fair queue: Drop. -/
import Derived.Test.YtcelhendfjiicaaFqI
import Derived.Test.YtcelhendfjiicaaFqZ
namespace Go.Proofs.Ytcelhendfjiicaa
open Go.RowKit Go.Shelf Go.Proofs.YtcelhendfjiicaaW.PrintWords Go.Proofs.YtcelhendfjiicaaW.PrintLast Go.Proofs.YtcelhendfjiicaaW.PrintMore
set_option linter.unusedVariables false
set_option linter.unusedSimpArgs false
set_option maxRecDepth 100000
attribute [local go_sem] gb_max2 gb_min2 gb_max_two gb_min_two gb_max_three gb_min_three
section
variable {W W' w1 : World} {base : Nat} {F F' : Nat → Prop} {p mf mw : Nat} {rv rv' : Value} {R R' : List Int} {room quant many : Int} {began : Bool} {L L' L1 L2 : List FlV} {M M' : List (Int × Value)} {wt : WtV} {f g : FlV}
theorem fqdrop_miss (h : FqV W base F p room quant began L wt) (n : Int) (hl : mlook (keyed L) n = none) : Calls Try.prog 40 #[.pointer (some ⟨p, 0, none⟩), .int .u64 n] W fun e w' => e = .returned (.slice none 0 0) ∧ W = w' := by
  obtain ⟨mf, mw, rv, M, h⟩ := h
  obtain ⟨-, k0, k1, k2, k3, -⟩ := h.at_
  have HO := Lib.hid (fqok_in h)
  have hlk := h.lookM hl
  clear h hl
  go_enter Try.func40, Try.ntmps40
  go_wp2_with fail
  refine HO.out.mono ?_
  rintro e w' ⟨rfl, rfl⟩
  go_wp2_with fail
  go_ret
  exact ⟨rfl, rfl⟩
def dropB {α : Type} (l : List α) (b : Bool) : Bool := match l with | [] => false | _ :: _ => b
theorem dropB_cons {α : Type} {l : List α} {b : Bool} (h : l ≠ []) : dropB l b = b := by cases l <;> first | rfl | exact absurd rfl h
def DropR (W : World) (base : Nat) (F : Nat → Prop) (p : Nat) (room quant : Int) (b' : Bool) (L : List FlV) (wt : WtV) (m : Nat) (e : Ending) (w' : World) : Prop :=
  ∃ A c F', e = .returned (.slice A m c) ∧ FqV w' base F' p room quant b' L wt ∧ (∀ k, F' k → F k ∨ W.heap.size ≤ k) ∧ Tn F W w'
set_option maxHeartbeats 2000000 in
theorem fqdrop_in (h : FqV W base F p room quant began (L1 ++ f :: L2) wt) (hl9 : (L1 ++ f :: L2).length ≤ 1000000) (hm9 : ((L1 ++ f :: L2).map (fun f => f.xs.length)).sum ≤ 1000000) (n : Int) (hn : f.n = n) (m : Nat) (hm : f.xs.length = m) : Calls Try.prog 40 #[.pointer (some ⟨p, 0, none⟩), .int .u64 n] W (DropR W base F p room quant (dropB L1 began) (L1 ++ L2) wt m) := by
  obtain ⟨mf, mw, rv, M, h⟩ := h
  have HM9 := Lib.hid (show m ≤ 1000000 by
    have h1 : f.xs.length ∈ (L1 ++ f :: L2).map (fun f => f.xs.length) := List.mem_map.2 ⟨f, by simp, rfl⟩
    have h2 := mem_le_sum h1
    omega)
  obtain ⟨mn, hmn⟩ : ∃ mn : Nat, ((L1 ++ f :: L2).map (fun f => f.xs.length)).sum = mn := ⟨_, rfl⟩
  have hsum : ((L1 ++ L2).map (fun f => f.xs.length)).sum + m = mn := by
    rw [← hmn, ← hm]
    simp only [List.map_append, List.sum_append, List.map_cons, List.sum_cons]
    omega
  rw [hmn] at h hm9
  have HSUM := Lib.hid hsum
  obtain ⟨-, k0, k1, k2, k3, k4, -⟩ := h.at_
  have hmem : f ∈ L1 ++ f :: L2 := by simp
  have hfl := h.fl f hmem
  obtain ⟨-, b0, b1, -⟩ := hfl.at_
  obtain ⟨A, c, hv, hc, -⟩ := Kd.Q_reads hfl.row
  rw [hv, hm] at b1
  have hlk := h.lookH (show mlook (keyed (L1 ++ f :: L2)) n = some f from mlook_of_mem (by rw [keyed_keys]; exact h.nd) (List.mem_map.2 ⟨f, hmem, by rw [hn]⟩)) false
  have hlk1 := h.put 2 (.int .i64 (mn - m)) (many' := mn - m) (began' := began) (rv' := rv) (R' := (L1 ++ f :: L2).map FlV.n) rfl h.ring
  have HQ1 := Lib.hid hlk1
  have HO := Lib.hid (fqok_in h)
  have f2 := blk_frozen h.box 2
  have hwr : IntKind.i64.wrap ((mn : Int) - (m : Int)) = (mn : Int) - (m : Int) := by unfold IntKind.wrap; simp [IntKind.bits, IntKind.signed]; omega
  obtain ⟨fb, hfb⟩ : ∃ b, f.b = b := ⟨_, rfl⟩
  rw [hfb] at b0 b1 hlk
  have HN := Lib.hid hn
  have HFP := Lib.hid h.fp
  obtain ⟨ar, cr, hrv, hcr, hCr⟩ := Kd.Q_reads hlk1.ring
  obtain ⟨gr, orr, cr', hrv', -⟩ := Kd.Q_form hlk1.ring (by simp; omega)
  rw [List.length_map] at hrv hrv' hcr
  have hgr : ar = some ⟨gr, orr, none⟩ ∧ cr = cr' := by
    rw [hrv] at hrv'
    injection hrv' with e1 e2 e3
    exact ⟨e1, e3⟩
  obtain ⟨rfl, rfl⟩ := hgr
  obtain ⟨N, hN⟩ : ∃ N, (L1 ++ f :: L2).length = N := ⟨_, rfl⟩
  have hidx : ((L1 ++ f :: L2).map FlV.n).getD L1.length 0 = n := by
    rw [List.getD_eq_getElem?_getD, List.map_append, List.getElem?_append_right (by simp)]
    simp [hn]
  have hfst : ∀ j, j < L1.length → ((L1 ++ f :: L2).map FlV.n).getD j 0 ≠ n := by
    intro j hj e
    rw [List.getD_eq_getElem?_getD, List.getElem?_eq_getElem (by simp; omega)] at e
    simp only [Option.getD_some] at e
    have h2 := nodup_at h.nd j L1.length (by simp; omega) (by simp) (by omega)
    apply h2
    rw [e]
    have h3 : ((L1 ++ f :: L2).map FlV.n)[L1.length]'(by simp) = f.n := by simp
    rw [h3, hn]
  have HIX := Lib.hid (uindex_any (W.setCell ⟨p, 2, none⟩ (.int .i64 (mn - m))) (some ⟨gr, orr, none⟩) cr ((L1 ++ f :: L2).map FlV.n) N (by rw [List.length_map]; exact hN) (by rw [List.length_map] at hCr; rw [← hN]; exact hCr) (by rw [← hN]; exact hcr) (by omega) n L1.length (by rw [← hN]; simp) hidx hfst)
  rw [hN] at hrv
  have HNN := Lib.hid hN
  have hN9 : N ≤ 1000000 := by rw [← hN]; exact hl9
  have HRV := Lib.hid hrv
  rw [hrv] at k4
  clear h hfl hlk1 hn hm hmn hsum hmem hv hrv hrv' hcr hCr hN hidx hfst hfb
  obtain ⟨W1, hW1⟩ : ∃ W1, W.setCell ⟨p, 2, none⟩ (.int .i64 (mn - m)) = W1 := ⟨_, rfl⟩
  rw [hW1] at HIX HQ1
  have HT1 := Lib.hid (show Tn F W W1 by rw [← hW1]; exact (Tn.refl F W).put p 2 _ (.inl HFP.out))
  have r4 := HQ1.out.at_.2.2.2.2.2.1
  have r3 := HQ1.out.at_.2.2.2.2.1
  rw [HRV.out] at r4
  go_enter Try.func40, Try.ntmps40
  go_wp2_with fail
  refine HO.out.mono ?_
  rintro e w' ⟨rfl, rfl⟩
  go_wp2_with fail
  refine HIX.out.mono ?_
  rintro e w' ⟨rfl, rfl⟩
  clear hW1 k0 k1 k2 k3 k4 b0 b1 hlk f2
  by_cases hL1 : L1 = []
  · subst hL1
    have HOU := Lib.hid (fqout_any (f := f) (L2 := L2) (R := L2.map FlV.n) HQ1.out)
    go_wp2_with fail
    refine HOU.out.mono ?_
    rintro e w2 ⟨rfl, ⟨rv2, M2, hq2⟩, hT2⟩
    have HF := Lib.hid (show FqV w2 base F p room quant false L2 wt from ⟨mf, mw, rv2, M2, by
      have h := hq2
      have h2 := HSUM.out
      rw [List.nil_append] at h2
      rw [show ((mn : Int) - (m : Int)) = (((L2.map (fun f => f.xs.length)).sum : Nat) : Int) by omega] at h
      exact h⟩)
    have HT := Lib.hid (HT1.out.trans hT2 (fun k hk => .inl hk))
    clear hq2 hT2
    have HP := Lib.hid (show DropR W base F p room quant (dropB ([] : List FlV) began) ([] ++ L2) wt m (.returned (.slice A m c)) w2 from ⟨A, c, F, rfl, HF.out, fun k hk => .inl hk, HT.out⟩)
    go_wp2_with fail
    go_ret
    exact HP.out
  · have hl1 : 0 < L1.length := List.length_pos_iff.2 hL1
    obtain ⟨i, hi⟩ : ∃ i, L1.length = i := ⟨_, rfl⟩
    have hiN : i + 1 ≤ N := by
      have h := HNN.out
      rw [List.length_append, List.length_cons, hi] at h
      omega
    rw [hi] at hl1
    try rw [hi]
    have HI := Lib.hid hi
    have hiz : ((i : Int) == 0) = false := by simp; omega
    obtain ⟨w2, hrun, hmp, hg, -⟩ := run_mdel (P := Try.prog) Try.underlying86 (key_int Try.underlying40) HQ1.out.mp f.n 40 0
    have hq2 := HQ1.out.delF (w1 := w2) hmp hg
    have HT2 := Lib.hid (HT1.out.grown hg (.inl HQ1.out.fmf))
    have r42 := hq2.at_.2.2.2.2.2.1
    have f42 := blk_frozen hq2.box 4
    rw [HRV.out] at r42 hq2
    rw [HN.out] at hrun
    have HQ2 := Lib.hid hq2
    have HDE := Lib.hid (udelete_any hq2.ring i (i + 1) (by omega) hiN)
    clear hmp hg hq2 hi
    have HL1 := Lib.hid hL1
    clear hL1
    go_wp2_with fail
    refine HDE.out.mono ?_
    rintro e w3 ⟨rfl, hq3, hg3⟩
    have hb3 := HQ2.out.boxR (w1 := w3) (by exact hg3)
    have r43 : w3.cell? ⟨p, 4, none⟩ = some (.slice (some ⟨gr, orr, none⟩) N cr) := blk_cell hb3 4
    have f43 := blk_frozen hb3 4
    have hq4 := HQ2.out.ringA (w1 := w3) (rv' := .slice (some ⟨gr, orr, none⟩) (i + (N - (i + 1))) cr) (R' := ((L1 ++ f :: L2).map FlV.n).take i ++ ((L1 ++ f :: L2).map FlV.n).drop (i + 1)) (Kd.Q_mono hq3 (fun k hk => .inl hk)) hg3
    have hrl : ((L1 ++ f :: L2).map FlV.n).take i ++ ((L1 ++ f :: L2).map FlV.n).drop (i + 1) = (L1 ++ L2).map FlV.n := by
      rw [← HI.out, List.map_append, List.map_append, List.map_cons]
      have e1 : (L1.map FlV.n ++ f.n :: L2.map FlV.n).take L1.length = L1.map FlV.n := by
        rw [List.take_append_of_le_length (by simp), List.take_of_length_le (by simp)]
      have e2 : (L1.map FlV.n ++ f.n :: L2.map FlV.n).drop (L1.length + 1) = L2.map FlV.n := by
        rw [List.drop_append]
        simp
      rw [e1, e2]
    rw [hrl] at hq4
    have hT4 : Tn F W (w3.setCell ⟨p, 4, none⟩ (.slice (some ⟨gr, orr, none⟩) (i + (N - (i + 1))) cr)) := (HT2.out.grownO hg3 (fun b hb => .inl (HQ2.out.ring.1 b hb))).put p 4 _ (.inl HFP.out)
    have HP := Lib.hid (show DropR W base F p room quant (dropB L1 began) (L1 ++ L2) wt m (.returned (.slice A m c)) (w3.setCell ⟨p, 4, none⟩ (.slice (some ⟨gr, orr, none⟩) (i + (N - (i + 1))) cr)) from ⟨A, c, Nw w2 w3 F, rfl, by
      rw [dropB_cons HL1.out]
      refine ⟨mf, mw, .slice (some ⟨gr, orr, none⟩) (i + (N - (i + 1))) cr, mdel M f.n, ?_⟩
      have h2 := HSUM.out
      have h := hq4
      rw [show ((mn : Int) - (m : Int)) = ((((L1 ++ L2).map (fun f => f.xs.length)).sum : Nat) : Int) by omega] at h
      exact h, fun k hk => hk.imp id (fun h => Nat.le_trans HT2.out.size h.1), hT4⟩)
    clear hq3 hg3 hb3 hq4 hrl hT4 r42 f42
    go_wp2_with fail
    go_ret
    exact HP.out
end
end Go.Proofs.Ytcelhendfjiicaa
