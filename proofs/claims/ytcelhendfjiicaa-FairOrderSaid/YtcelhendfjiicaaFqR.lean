/- A fair queue: the rounds in which nothing is taken. -/
import Derived.Test.YtcelhendfjiicaaFqP
namespace Go.Proofs.Ytcelhendfjiicaa
open Go.RowKit Go.Shelf Go.Proofs.YtcelhendfjiicaaW.PrintWords Go.Proofs.YtcelhendfjiicaaW.PrintLast Go.Proofs.YtcelhendfjiicaaW.PrintMore
set_option linter.unusedVariables false
set_option linter.unusedSimpArgs false
set_option maxRecDepth 100000
attribute [local go_sem] gb_max2 gb_min2 gb_max_two gb_min_two gb_max_three gb_min_three
section
variable {W W' w1 : World} {base : Nat} {F F' : Nat → Prop} {p mf mw : Nat} {rv rv' : Value} {R R' : List Int} {room quant many : Int} {began : Bool} {L L' : List FlV} {M M' : List (Int × Value)} {wt : WtV} {f g : FlV}
/-- A flow by its index in the ring: what the walk reads of it. -/
theorem Fq.ringAt (h : Fq W base F p mf mw rv R room quant began L M wt many) (i : Nat) (hi : i < R.length) : ∃ A c, rv = .slice (some A) R.length c ∧ R.length ≤ c ∧ W.cell? (A.add i) = some (.int .u64 R[i]) := by
  obtain ⟨A, c, hv, hc, hC⟩ := Kd.Q_reads h.ring
  obtain ⟨ad, e, hcell⟩ := u64_at hC i hi
  subst e
  refine ⟨ad, c, hv, hc, ?_⟩
  rw [hcell, List.getD_eq_getElem?_getD, List.getElem?_eq_getElem hi]
  simp
/-- The first i of them have turned. -/
def mixL (L : List FlV) (g : FlV → FlV) (i : Nat) : List FlV := (L.take i).map g ++ L.drop i
theorem mix_len (g : FlV → FlV) (i : Nat) : (mixL L g i).length = L.length := by unfold mixL; rw [List.length_append, List.length_map, List.length_take, List.length_drop]; omega
theorem mix_get (g : FlV → FlV) (i : Nat) (hi : i < L.length) : (mixL L g i)[i]'(by rw [mix_len]; exact hi) = L[i] := by
  unfold mixL
  have hl : ((L.take i).map g).length = i := by simp; omega
  rw [List.getElem_append_right (by omega)]
  have h9 : i + (i - min i L.length) = i := by omega
  simp [h9]
theorem mix_set (g : FlV → FlV) (i : Nat) (hi : i < L.length) : (mixL L g i).set i (g L[i]) = mixL L g (i + 1) := by
  unfold mixL
  have hl : ((L.take i).map g).length = i := by simp; omega
  rw [List.set_append_right _ _ (by omega), hl, Nat.sub_self, List.take_succ_eq_append_getElem hi, List.map_append, List.append_assoc]
  congr 1
  have h3 := List.drop_eq_getElem_cons hi
  rw [h3]
  rfl
theorem mix_zero (g : FlV → FlV) : mixL L g 0 = L := by simp [mixL]
theorem mix_all (g : FlV → FlV) : mixL L g L.length = L.map g := by simp [mixL]
/-- The first item of a flow: where it lies. -/
theorem FlOk.first (h : FlOk W base F f) {x : ItemV} {xs : List ItemV} (hx : f.xs = x :: xs) : ∃ g o c, f.v = .slice (some ⟨g, o, none⟩) f.xs.length c ∧ f.xs.length ≤ c ∧ W.cell? ⟨g, o, none⟩ = some (.int .u64 x.1) ∧ W.cell? ⟨g, o + 1, none⟩ = some (.int .i64 x.2.1) ∧ W.cell? ⟨g, o + 2, none⟩ = some (.int .u64 x.2.2) := by
  obtain ⟨g, o, c, hv, -⟩ := Kd.Q_form h.row (by rw [hx]; simp)
  have hr := h.row
  rw [hv] at hr
  obtain ⟨-, hc, -⟩ := Kd.Q_reads' hr
  obtain ⟨cs, hl, hM, hcell, -⟩ := Kd.Q_elem hr (0, 0, 0) 0 (by omega) (by rw [hx]; simp)
  obtain ⟨c0, c1, rfl, h0, c2, c3, rfl, h1, h2⟩ := hM
  have e0 : c0 = [.int .u64 (f.xs.getD 0 (0, 0, 0)).1] := h0
  have e1 : c2 = [.int .i64 (f.xs.getD 0 (0, 0, 0)).2.1] := h1
  have e2 : c3 = [.int .u64 (f.xs.getD 0 (0, 0, 0)).2.2] := h2
  subst e0 e1 e2
  rw [show f.xs.getD 0 (0, 0, 0) = x by rw [hx]; rfl] at hcell
  refine ⟨g, o, c, hv, hc, ?_, ?_, ?_⟩
  · simpa using hcell 0 _ rfl
  · simpa using hcell 1 _ rfl
  · simpa using hcell 2 _ rfl
theorem least_take (l : List Fl) (i : Nat) (hi : i < l.length) : leastF wt quant (l.take (i + 1)) = min (leastF wt quant (l.take i)) (roF wt quant l[i]) := by
  unfold leastF
  rw [List.take_succ_eq_append_getElem hi, List.foldl_append]
  rfl
set_option maxHeartbeats 1000000 in
theorem fqrounds_any (h : Fq W base F p mf mw rv (L.map FlV.n) room quant began L M wt many) (hw : WtJ wt) (h1 : 1 ≤ quant) (h2 : quant ≤ 1048576) (hj : ∀ f ∈ L, FlJ f.er) (hl9 : L.length ≤ 1000000) :
    Calls Try.prog 48 #[.pointer (some ⟨p, 0, none⟩)] W fun e w' => e = .returned (.tuple #[]) ∧ ∃ L', L'.map FlV.er = roundsF wt quant (L.map FlV.er) ∧ L'.map FlV.b = L.map FlV.b ∧ Fq w' base F p mf mw rv (L'.map FlV.n) room quant began L' M wt many ∧ Tn F W w' := by
  have HQ := Lib.hid h
  have HJ := Lib.hid hj
  have HW := Lib.hid hw
  obtain ⟨A, c, hv, hc, -⟩ := Kd.Q_reads h.ring
  rw [List.length_map] at hv hc
  obtain ⟨N, hN⟩ : ∃ N, L.length = N := ⟨_, rfl⟩
  have HN := Lib.hid hN
  rw [hN] at hv hc hl9
  obtain ⟨-, k0, k1, k2, k3, k4, k5, k6⟩ := h.at_
  have HV := Lib.hid hv
  rw [hv] at k4
  clear h hj hw hN hv
  go_enter Try.func48, Try.ntmps48
  go_wp2_with fail
  go_loopg [2, 14] N (fun k v2 v14 wr => ∃ (i : Nat) (u : Nat), i + k = N ∧ v14 = .int .i64 i ∧ v2 = .int .i64 (leastF wt quant ((L.map FlV.er).take i)) ∧ wr = W.drewN u)
  case atStart => exact ⟨0, 0, by omega, rfl, rfl, rfl⟩
  case round =>
    obtain ⟨i, u, hik, rfl, rfl, hwr⟩ := hrel
    have HQr := Lib.hid (show Fq wr base F p mf mw rv (L.map FlV.n) room quant began L M wt many by rw [hwr]; exact HQ.out.drewN u)
    have HWR := Lib.hid hwr
    clear hwr
    have k4 := HQr.out.at_.2.2.2.2.2.1
    have k3 := HQr.out.at_.2.2.2.2.1
    rw [HV.out] at k4
    by_cases hi : i < N
    · have hiL : i < L.length := by rw [HN.out]; exact hi
      have hqu := HQr.out
      obtain ⟨A', c', e1, -, hcell⟩ := hqu.ringAt i (by simpa using hiL)
      rw [HV.out] at e1
      simp only [List.getElem_map] at hcell
      injection e1 with e1 e2 e3
      subst e1 e3
      clear e2
      have hfl := hqu.fl _ (List.getElem_mem hiL)
      have hjf := HJ.out _ (List.getElem_mem hiL)
      obtain ⟨x, xs, hx⟩ : ∃ x xs, L[i].xs = x :: xs := by
        cases hx : L[i].xs with
        | nil => exact absurd hx hjf.1.1
        | cons x xs => exact ⟨x, xs, rfl⟩
      obtain ⟨g, o, ci, hv, hci, y0, y1, y2⟩ := hfl.first hx
      obtain ⟨-, b0, b1, -⟩ := hfl.at_
      rw [hv] at b1
      have hlk := fun u' : Nat => (HQr.out.drewN u').lookH (HQr.out.find hiL) false
      obtain ⟨n, hn⟩ : ∃ n, L[i].n = n := ⟨_, rfl⟩
      obtain ⟨fb, hfb⟩ : ∃ b, L[i].b = b := ⟨_, rfl⟩
      obtain ⟨cr, hcr⟩ : ∃ c, L[i].c = c := ⟨_, rfl⟩
      obtain ⟨m, hm⟩ : ∃ m, L[i].xs.length = m := ⟨_, rfl⟩
      obtain ⟨lv, hlv⟩ : ∃ v, leastF wt quant ((L.map FlV.er).take i) = v := ⟨_, rfl⟩
      have hm1 : 0 < m := by rw [← hm, hx]; simp
      obtain ⟨x1, x2, x3⟩ := x
      have hhc : hcF L[i].er = x2 := by unfold hcF FlV.er; rw [hx]; rfl
      obtain ⟨gn, hgn⟩ : ∃ g, gainF wt quant n = g := ⟨_, rfl⟩
      have hgb := gain_bd HW.out h1 h2 n
      have hb := hc_bd hjf.1
      have hlt := hjf.2
      have h0 := hjf.1.2.2
      rw [hhc] at hb hlt
      have e0 : L[i].er.2.1 = cr := hcr
      rw [e0] at hlt h0
      rw [hgn] at hgb
      have hlb := least_bd (l := (L.map FlV.er).take i) HW.out h1 h2 (fun f hf => by
        obtain ⟨g, hg, rfl⟩ := List.mem_map.1 (List.mem_of_mem_take hf)
        exact (HJ.out g hg).1)
      rw [hlv] at hlb
      have hro : roF wt quant L[i].er = (x2 - cr - 1) / gn := by
        unfold roF
        rw [hhc, e0, show L[i].er.1 = n from hn, hgn, show max (x2 - cr - 1) 0 = x2 - cr - 1 by omega]
      have HLV := Lib.hid hlv
      have HLT := Lib.hid (show leastF wt quant ((L.map FlV.er).take (i + 1)) = min lv ((x2 - cr - 1) / gn) by
        rw [least_take _ i (by simpa using hiL), hlv, List.getElem_map, hro])
      have HGN := Lib.hid (fun u' : Nat => fqgain_in (HQr.out.drewN u') HW.out h1 h2 n gn hgn)
      rw [hn] at hcell hlk
      rw [hfb] at b0 b1 hlk
      rw [hcr] at b0
      rw [hm] at b1 hci
      have hw1 : IntKind.i64.wrap (x2 - cr) = x2 - cr := by unfold IntKind.wrap; simp [IntKind.bits, IntKind.signed]; omega
      have hw2 : IntKind.i64.wrap (x2 - cr - 1) = x2 - cr - 1 := by unfold IntKind.wrap; simp [IntKind.bits, IntKind.signed]; omega
      have hmx : max (x2 - cr - 1) 0 = x2 - cr - 1 := by omega
      have hq0 : 0 ≤ (x2 - cr - 1) / gn := Int.ediv_nonneg (by omega) (by omega)
      have hq1 : (x2 - cr - 1) / gn ≤ x2 - cr - 1 := Int.ediv_le_self _ (by omega)
      clear hqu hfl hjf hx hv hhc hgn e0 hlv hro hn hfb hcr hm
      go_wp2_with fail
      go_quiet ((go_at_call 49; exact Calls.quiet_of (HGN.out _)))
      go_wp2_with fail
      go_quiet (fail)
      go_wp2_with fail
      go_roundg (N - (i + 1))
      case measure => omega
      case rel => exact ⟨i + 1, _, by omega, by go_num, by rw [HLT.out, HLV.out], by rw [HWR.out, World.drewN_drewN]⟩
    · obtain rfl : N = i := by omega
      have HLL := Lib.hid (show (L.map FlV.er).take N = L.map FlV.er by rw [← HN.out]; exact List.take_of_length_le (by simp))
      obtain ⟨lv, hlv⟩ : ∃ v, leastF wt quant ((L.map FlV.er).take N) = v := ⟨_, rfl⟩
      have hlb := least_bd (l := (L.map FlV.er).take N) HW.out h1 h2 (fun f hf => by
        obtain ⟨g, hg, rfl⟩ := List.mem_map.1 (List.mem_of_mem_take hf)
        exact (HJ.out g hg).1)
      rw [hlv] at hlb ⊢
      have HLV := Lib.hid hlv
      clear hlv
      have HTN := Lib.hid (show Tn F W wr by rw [HWR.out]; exact Tn.of (pw_below_drewN (Below.refl _ _) _))
      go_wp2_with fail
      obtain ⟨wo, hwo⟩ : ∃ w, w = wr := ⟨_, rfl⟩
      subst hwo
      obtain ⟨g, hg⟩ : ∃ g : FlV → FlV, (fun f : FlV => f.putC (f.c + lv * gainF wt quant f.n)) = g := ⟨_, rfl⟩
      have HG := Lib.hid hg
      clear hg
      go_loopg [51] N (fun k v51 wr => ∃ i : Nat, i + k = N ∧ v51 = .int .i64 i ∧ Hid (Fq wr base F p mf mw rv (L.map FlV.n) room quant began (mixL L g i) M wt many) ∧ Hid (Tn F W wr))
      case atStart => exact ⟨0, by omega, rfl, by rw [mix_zero]; exact HQr, HTN⟩
      case round =>
        clear HQr HWR HTN k3 k4
        obtain ⟨i, hik, rfl, HQr, HTN⟩ := hrel
        by_cases hi : i < N
        · have hiL : i < L.length := by rw [HN.out]; exact hi
          have hqu := HQr.out
          have hiM : i < (mixL L g i).length := by rw [mix_len]; exact hiL
          obtain ⟨A', c', e1, -, hcell⟩ := hqu.ringAt i (by simpa using hiL)
          rw [HV.out] at e1
          injection e1 with e1 e2 e3
          subst e1 e3
          clear e2
          simp only [List.getElem_map] at hcell
          have hfl := hqu.fl _ (List.getElem_mem hiM)
          have hjf := HJ.out _ (List.getElem_mem hiL)
          obtain ⟨-, b0, -, f0⟩ := hfl.at_
          have f00 := f0 0
          have hlk0 := HQr.out.drew.lookH (HQr.out.find hiM) false
          have hlk1 := fun u' : Nat => (HQr.out.drewN u').lookH (HQr.out.find hiM) false
          have HS := Lib.hid (fun u' : Nat => (HQr.out.drewN u').setC i hiM (L[i].c + lv * gainF wt quant L[i].n))
          have hmg := mix_get g i hiL
          rw [hmg] at hlk0 hlk1 b0 f00 HS
          have hkb := HQr.out.at_.2.2.2.2.1
          have hgb := gain_bd HW.out h1 h2 L[i].n
          have HGN := Lib.hid (fqgain_in HQr.out.drew HW.out h1 h2 L[i].n _ rfl)
          have hll := least_le (wt := wt) (q := quant) (l := L.map FlV.er) L[i].er (List.mem_map.2 ⟨_, List.getElem_mem hiL, rfl⟩)
          rw [← HLL.out, HLV.out] at hll
          have hhc := hc_bd hjf.1
          have hlt := hjf.2
          have h0 := hjf.1.2.2
          have hmul : 0 ≤ lv * gainF wt quant L[i].n ∧ lv * gainF wt quant L[i].n ≤ 1048576 := by
            refine ⟨Int.mul_nonneg hlb.1 (by omega), ?_⟩
            have h3 : lv * gainF wt quant L[i].n ≤ roF wt quant L[i].er * gainF wt quant L[i].er.1 := Int.mul_le_mul_of_nonneg_right hll (by omega)
            have h4 : roF wt quant L[i].er * gainF wt quant L[i].er.1 ≤ max (hcF L[i].er - L[i].er.2.1 - 1) 0 := by unfold roF; exact Int.ediv_mul_le _ (by show gainF wt quant L[i].n ≠ 0; omega)
            omega
          have hcr9 : L[i].c < 1048576 := by have : L[i].er.2.1 = L[i].c := rfl; omega
          have hcr0 : 0 ≤ L[i].c := h0
          have hgs : g L[i] = L[i].putC (L[i].c + lv * gainF wt quant L[i].n) := by rw [← HG.out]
          have HMS := Lib.hid (mix_set g i hiL)
          rw [hgs] at HMS
          obtain ⟨n, hn⟩ : ∃ n, L[i].n = n := ⟨_, rfl⟩
          obtain ⟨fb, hfb⟩ : ∃ b, L[i].b = b := ⟨_, rfl⟩
          obtain ⟨cr, hcr⟩ : ∃ c, L[i].c = c := ⟨_, rfl⟩
          rw [hn] at HGN hgb hmul hcell hlk0 hlk1 HS HMS
          rw [hcr] at b0 HS HMS hcr9 hcr0
          rw [hfb] at hlk0 hlk1 b0 f00 HS
          obtain ⟨gn, hgn⟩ : ∃ g, gainF wt quant n = g := ⟨_, rfl⟩
          rw [hgn] at HGN hgb hmul HS HMS
          obtain ⟨ml, hml⟩ : ∃ m, lv * gn = m := ⟨_, rfl⟩
          rw [hml] at hmul HS HMS
          have hw1 : IntKind.i64.wrap (lv * gn) = ml := by rw [hml]; unfold IntKind.wrap; simp [IntKind.bits, IntKind.signed]; omega
          have hw2 : IntKind.i64.wrap (cr + ml) = cr + ml := by unfold IntKind.wrap; simp [IntKind.bits, IntKind.signed]; omega
          have HFP := Lib.hid hfl.fp
          rw [hmg, hfb] at HFP
          clear hqu hfl hjf hll hhc hlt h0 hgs hmg hn hfb hcr hgn hml f0
          go_wp2_with fail
          go_upto_region 10 with fail
          go_region_law (go_simp; go_at_call 49; refine HGN.out.mono ?_; rintro e w7 ⟨rfl, m7, rfl⟩)
          all_goals
            have hs := HS.out (1 + m7)
            rw [HMS.out] at hs
            have hs' := Lib.hid hs
            have ht := Lib.hid ((HTN.out.bel (pw_below_drewN (Below.refl _ _) (1 + m7))).put fb 0 (.int .i64 (cr + ml)) (.inl HFP.out))
            clear hs hlk0 hlk1
            go_wp2_with fail
            go_roundg (N - (i + 1))
            case measure => omega
            case rel => exact ⟨i + 1, by omega, by go_num, hs', ht⟩
        · obtain rfl : N = i := by omega
          have hq := HQr.out
          rw [show mixL L g N = L.map g by rw [← HN.out]; exact mix_all g] at hq
          have HF := Lib.hid hq
          clear hq
          go_wp2_with fail
          go_end0
          refine ⟨rfl, L.map g, ?_, ?_, ?_, HTN.out⟩
          · unfold roundsF
            rw [List.map_map, List.map_map, ← HLL.out, HLV.out, ← HG.out]
            rfl
          · rw [List.map_map, show FlV.b ∘ g = FlV.b by rw [← HG.out]; rfl]
          · have h := HF.out
            rw [List.map_map, show FlV.n ∘ g = FlV.n by rw [← HG.out]; rfl]
            exact h
end
end Go.Proofs.Ytcelhendfjiicaa
