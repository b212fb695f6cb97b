/- A fair queue: Pop. -/
import Derived.Test.YtcelhendfjiicaaFqO
import Derived.Deep.CutBlock
namespace Go.Proofs.Ytcelhendfjiicaa
open Go.RowKit Go.Shelf Go.Proofs.YtcelhendfjiicaaW.PrintWords Go.Proofs.YtcelhendfjiicaaW.PrintLast Go.Proofs.YtcelhendfjiicaaW.PrintMore
set_option linter.unusedVariables false
set_option linter.unusedSimpArgs false
set_option maxRecDepth 100000
attribute [local go_sem] gb_max2 gb_min2 gb_max_two gb_min_two gb_max_three gb_min_three
section
variable {W W' w1 : World} {base : Nat} {F F' : Nat → Prop} {p mf mw : Nat} {rv rv' : Value} {R R' : List Int} {room quant many : Int} {began : Bool} {L L' L2 : List FlV} {M M' : List (Int × Value)} {wt : WtV} {f g : FlV}
def popAns (x : ItemV) : Ending := .returned (.tuple #[.agg #[.int .u64 x.1, .int .i64 x.2.1, .int .u64 x.2.2], .int .i64 0])
/-- What Pop leaves. -/
def PopR (W : World) (base : Nat) (F : Nat → Prop) (p : Nat) (room quant : Int) (wt : WtV) (y : ItemV × Bool × List Fl) (w' : World) : Prop :=
  ∃ L' F', L'.map FlV.er = y.2.2 ∧ FqV w' base F' p room quant y.2.1 L' wt ∧ (∀ k, F' k → F k ∨ W.heap.size ≤ k) ∧ Tn F W w'
theorem fqpop_none (h : FqV W base F p room quant began [] wt) : Calls Try.prog 20 #[.pointer (some ⟨p, 0, none⟩)] W fun e w' => e = .returned (.tuple #[.agg #[.int .u64 0, .int .i64 0, .int .u64 0], .int .i64 6]) ∧ Below W.heap.size W w' := by
  obtain ⟨mf, mw, rv, M, h⟩ := h
  have HQ := Lib.hid h
  clear h
  go_enter Try.func20, Try.ntmps20
  go_wp2_with fail
  have hb := below_alloc (Below.refl W.heap.size W) (.cells #[.int .u64 0, .int .i64 0, .int .u64 0] 43)
  have HB := Lib.hid hb
  have hq := HQ.out.below hb
  obtain ⟨-, k0, k1, k2, -⟩ := hq.at_
  refine (fqok_in hq).mono ?_
  rintro e w' ⟨rfl, rfl⟩
  clear hb hq
  simp only [List.map_nil, List.sum_nil] at k2
  go_wp2_with fail
  refine bodyPost_ret (results_ct rfl _ _ W.heap.size 43 #[.int .u64 0, .int .i64 0, .int .u64 0] (0, 0) _ rfl (heap_alloc_new _ _) Try.underlying43 rfl (by kernel_rfl)) rfl ?_
  exact ⟨rfl, HB.out⟩
theorem grow1_er (b : Bool) (f : FlV) : grow1 wt quant b f.er = (f.putC (grow1 wt quant b f.er).2.1).er := by unfold grow1; split <;> rfl
/-- What stands at the head of Pop's loop. -/
structure PopI (W : World) (base : Nat) (F : Nat → Prop) (p mf mw : Nat) (room quant many : Int) (wt : WtV) (N mn r : Nat) (b : Bool) (L : List FlV) (wr : World) : Prop where
  q : ∃ rv M F', Fq wr base F' p mf mw rv (L.map FlV.n) room quant b L M wt many ∧ (∀ k, F' k → F k ∨ W.heap.size < k)
  T : Tn F W wr
  J : FqJ b (L.map FlV.er)
  len : L.length = N
  sum : (L.map (fun f => f.xs.length)).sum = mn
  res : wr.heap[r]? = some (.cells #[.int .u64 0, .int .i64 0, .int .u64 0] 43 (0, 0))
  rr : r = W.heap.size
theorem pop_close {w0 w9 : World} {F1 : Nat → Prop} {r : Nat} {b' : Bool} {many' : Int} {x : ItemV} {a1 a2 a3 : Value} {l : List Fl} (hq : Fq w9 base F1 p mf mw rv (L'.map FlV.n) room quant b' L' M wt many') (hmany : many' = ((L'.map (fun f => f.xs.length)).sum : Nat)) (hl : L'.map FlV.er = l) (hr : ¬ F1 r) (hrr : r = W.heap.size) (hF1 : ∀ k, F1 k → F k ∨ W.heap.size < k) (hT : Tn F W w0) (hT1 : Tn F1 w0 w9) :
    PopR W base F p room quant wt (x, b', l) (((w9.setCell ⟨r, 0, none⟩ a1).setCell ⟨r, 1, none⟩ a2).setCell ⟨r, 2, none⟩ a3) := by
  have hk : Tn (fun k => k = r) w9 (((w9.setCell ⟨r, 0, none⟩ a1).setCell ⟨r, 1, none⟩ a2).setCell ⟨r, 2, none⟩ a3) := (((Tn.refl (fun k => k = r) w9).put r 0 a1 (.inl rfl)).put r 1 a2 (.inl rfl)).put r 2 a3 (.inl rfl)
  subst hmany
  refine ⟨L', F1, hl, ⟨mf, mw, rv, M, hq.keep hk (fun k hk e => hr (e ▸ hk))⟩, fun k hk => (hF1 k hk).imp id (fun h => Nat.le_of_lt h), ?_⟩
  exact (hT.trans hT1 (fun k hk => (hF1 k hk).imp id (fun h => Nat.le_of_lt h))).trans hk (fun k hk => .inr (by omega))
set_option maxHeartbeats 4000000 in
theorem fqpop_ok (h : FqV W base F p room quant began L wt) (hw : WtJ wt) (h1 : 1 ≤ quant) (h2 : quant ≤ 1048576) (hj : FqJ began (L.map FlV.er)) (hl9 : L.length ≤ 10000) (hm9 : (L.map (fun f => f.xs.length)).sum ≤ 1000000) (y : ItemV × Bool × List Fl) (hy : popRun wt quant (L.length + L.length) 0 began (L.map FlV.er) = some y) :
    Calls Try.prog 20 #[.pointer (some ⟨p, 0, none⟩)] W fun e w' => e = popAns y.1 ∧ PopR W base F p room quant wt y w' := by
  obtain ⟨mf, mw, rv, M, h⟩ := h
  have hl1 : 0 < L.length := by
    cases L with
    | nil => simp [popRun] at hy
    | cons f r => simp
  obtain ⟨mn, hmn⟩ : ∃ mn : Nat, (L.map (fun f => f.xs.length)).sum = mn := ⟨_, rfl⟩
  have hm1 : 0 < mn := by
    cases L with
    | nil => simp at hl1
    | cons f r =>
      have h3 := (hj.cost f.er List.mem_cons_self).1.1
      have h4 : f.xs.length ≠ 0 := fun e => h3 (List.length_eq_zero_iff.1 e)
      rw [← hmn]
      simp only [List.map_cons, List.sum_cons]
      omega
  rw [hmn] at h hm9
  have hmz : ((mn : Int) == 0) = false := by simp; omega
  obtain ⟨N, hN⟩ : ∃ N, L.length = N := ⟨_, rfl⟩
  rw [hN] at hy hl9 hl1
  have HQ := Lib.hid h
  have HW := Lib.hid hw
  have HJ := Lib.hid hj
  have HY := Lib.hid hy
  have HN := Lib.hid hN
  have HMN := Lib.hid hmn
  clear h hw hj hy hN hmn
  go_enter Try.func20, Try.ntmps20
  go_wp2_with fail
  have hb := below_alloc (Below.refl W.heap.size W) (.cells #[.int .u64 0, .int .i64 0, .int .u64 0] 43)
  have hq := HQ.out.below hb
  obtain ⟨-, k0, k1, k2, -⟩ := hq.at_
  have HI := Lib.hid (show PopI W base F p mf mw room quant mn wt N mn W.heap.size began L (W.alloc (.cells #[.int .u64 0, .int .i64 0, .int .u64 0] 43)) from ⟨⟨rv, M, F, hq, fun k hk => .inl hk⟩, Tn.of hb, HJ.out, HN.out, HMN.out, heap_alloc_new _ _, rfl⟩)
  refine (fqok_in hq).mono ?_
  rintro e w' ⟨rfl, rfl⟩
  clear hb hq
  go_wp2_with fail
  obtain ⟨W1, hW1⟩ : ∃ W1, W.alloc (.cells #[.int .u64 0, .int .i64 0, .int .u64 0] 43) = W1 := ⟨_, rfl⟩
  obtain ⟨r, hr⟩ : ∃ r, W.heap.size = r := ⟨_, rfl⟩
  rw [hW1, hr] at HI
  rw [hW1]
  try rw [hr]
  have HR := Lib.hid hr
  clear hW1 k0 k1 k2 hr
  go_loopg [4] (N + N) (fun k v4 wr => ∃ (t : Nat) (b : Bool) (Lc : List FlV), t + k = N + N ∧ v4 = .int .i64 t ∧ Hid (popRun wt quant k t b (Lc.map FlV.er) = some y) ∧ Hid (PopI W base F p mf mw room quant mn wt N mn r b Lc wr))
  case atStart => exact ⟨0, began, L, by omega, rfl, HY, HI⟩
  case round =>
    obtain ⟨t, b, Lc, htk, rfl, HP, HIr⟩ := hrel
    obtain ⟨rv1, M1, F1, hq1, hF1⟩ := HIr.out.q
    have HQ1 := Lib.hid hq1
    have HF1 := Lib.hid hF1
    have hk0 : 0 < gk := by
      cases gk with
      | zero => have := HP.out; simp [popRun] at this
      | succ k => omega
    have hlen := HIr.out.len
    obtain ⟨f0, Lt, hLc⟩ : ∃ f0 Lt, Lc = f0 :: Lt := by
      cases Lc with
      | nil => simp at hlen; omega
      | cons f0 Lt => exact ⟨f0, Lt, rfl⟩
    obtain ⟨A, c, hv, hc, hcell⟩ := hq1.ringAt 0 (by rw [List.length_map]; omega)
    have ha : A.add 0 = A := by simp [Addr.add]
    rw [List.length_map, hlen] at hv hc
    rw [ha] at hcell
    have hlk := hq1.lookH (show mlook (keyed Lc) f0.n = some f0 by rw [hLc]; exact (by rw [hLc] at hq1; exact hq1.head)) false
    have hcell' : wr.cell? A = some (.int .u64 f0.n) := by rw [hcell]; subst hLc; rfl
    subst hv
    obtain ⟨-, k0, k1, k2, k3, k4, k5, k6⟩ := hq1.at_
    obtain ⟨n, hn⟩ : ∃ n, f0.n = n := ⟨_, rfl⟩
    obtain ⟨fb, hfb⟩ : ∃ b, f0.b = b := ⟨_, rfl⟩
    rw [hn] at hcell' hlk
    rw [hfb] at hlk
    have HN0 := Lib.hid hn
    have HFB := Lib.hid hfb
    have HLC := Lib.hid hLc
    have HLN := Lib.hid hlen
    have hl0 : (0 : Int) < (N : Int) := by omega
    clear hq1 hF1 hlen hLc hcell ha hn hfb
    go_upto_region 9 with fail
    go_cut [52] (fun s52 wx => s52 = .bool (decide (b = false ∧ 0 < t ∧ t % N = 0)) ∧ wx = wr)
    case first =>
      cases b with
      | true =>
        go_wp2_with fail
        go_meet
        exact ⟨by simp, rfl⟩
      | false =>
        by_cases ht : 0 < t
        · have ht' : (0 : Int) < (t : Int) := by omega
          have hmod : ((t : Int)).tmod (N : Int) = ((t % N : Nat) : Int) := by
            rw [Int.tmod_eq_emod_of_nonneg (by omega)]; omega
          have hmod2 : (t : Int) % (N : Int) = ((t % N : Nat) : Int) := by omega
          obtain ⟨tm, htm⟩ : ∃ m, t % N = m := ⟨_, rfl⟩
          rw [htm] at hmod hmod2
          have HTM := Lib.hid htm
          have HT0 := Lib.hid ht
          clear htm ht
          by_cases h0 : tm = 0
          · subst h0
            go_wp2_with fail
            go_meet
            exact ⟨by simp [HTM.out, HT0.out], rfl⟩
          · have h0d : ((tm : Int) == 0) = false := by simp; omega
            have H0 := Lib.hid h0
            clear h0
            go_wp2_with fail
            go_meet
            exact ⟨by simp [HTM.out, H0.out], rfl⟩
        · obtain rfl : t = 0 := by omega
          go_wp2_with fail
          go_meet
          exact ⟨by simp, rfl⟩
    case rest =>
      obtain ⟨rfl, hwc⟩ := hcut
      subst hwc
      obtain ⟨w0, hw0⟩ : ∃ w, w = wc := ⟨_, rfl⟩
      subst hw0
      clear k0 k1 k2 k3 k4 k5 k6 hlk hcell'
      obtain ⟨tb, htb⟩ : ∃ tb, decide (b = false ∧ 0 < t ∧ t % N = 0) = tb := ⟨_, rfl⟩
      rw [htb]
      have HTB := Lib.hid htb
      clear htb
      have HJ1 := Lib.hid (show FqJ b (turnR wt quant t b (Lc.map FlV.er)) from turnR_J HW.out h1 h2 HIr.out.J)
      go_upto_if 52 with fail
      go_cut [] (fun wx => Hid (∃ L', L'.map FlV.er = turnR wt quant t b (Lc.map FlV.er) ∧ L'.map FlV.b = Lc.map FlV.b ∧ Fq wx base F1 p mf mw (.slice (some A) N c) (L'.map FlV.n) room quant b L' M1 wt mn ∧ Tn F1 w0 wx))
      case first =>
        cases tb with
        | true =>
          have hTB : b = false ∧ 0 < t ∧ t % N = 0 := by simpa using HTB.out
          obtain ⟨hb0, ht0, htm⟩ := hTB
          have HC := Lib.hid (fqrounds_any HQ1.out HW.out h1 h2 (fun f hf => by
            have h := HIr.out.J
            rw [hb0] at h
            exact h.all _ (List.mem_map.2 ⟨f, hf, rfl⟩)) (by rw [HLN.out]; omega))
          have HTR := Lib.hid (show turnR wt quant t b (Lc.map FlV.er) = roundsF wt quant (Lc.map FlV.er) from turnR_yes ⟨hb0, ht0, by rw [List.length_map, HLN.out]; exact htm⟩)
          clear hb0 ht0 htm
          go_wp2_with fail
          refine HC.out.mono ?_
          rintro e w2 ⟨rfl, L', e1, e2, hq2, hT2⟩
          have HF := Lib.hid (show (∃ L', L'.map FlV.er = turnR wt quant t b (Lc.map FlV.er) ∧ L'.map FlV.b = Lc.map FlV.b ∧ Fq w2 base F1 p mf mw (.slice (some A) N c) (L'.map FlV.n) room quant b L' M1 wt mn ∧ Tn F1 w0 w2) from ⟨L', by rw [HTR.out]; exact e1, e2, hq2, hT2⟩)
          clear e1 e2 hq2 hT2
          go_wp2_with fail
          go_meet
          exact HF
        | false =>
          have HF := Lib.hid (show (∃ L', L'.map FlV.er = turnR wt quant t b (Lc.map FlV.er) ∧ L'.map FlV.b = Lc.map FlV.b ∧ Fq w0 base F1 p mf mw (.slice (some A) N c) (L'.map FlV.n) room quant b L' M1 wt mn ∧ Tn F1 w0 w0) from ⟨Lc, by rw [turnR_none (fun h => by have h2 := HTB.out; rw [List.length_map, HLN.out] at h; simp [h] at h2)], rfl, HQ1.out, Tn.refl _ _⟩)
          go_wp2_with fail
          go_meet
          exact HF
      case rest =>
        obtain ⟨L', el, eb, hq2, hT2⟩ := hcut.out
        have hlen2 : L'.length = N := by
          have h := congrArg List.length el
          rw [turnR_len, List.length_map, List.length_map, HLN.out] at h
          exact h
        obtain ⟨f2, r2, hL'⟩ : ∃ f2 r2, L' = f2 :: r2 := by
          cases L' with
          | nil => simp at hlen2; omega
          | cons f2 r2 => exact ⟨f2, r2, rfl⟩
        subst hL'
        have hfb2 : f2.b = fb := by
          have h := eb
          rw [HLC.out] at h
          simp only [List.map_cons, List.cons.injEq] at h
          exact h.1.trans HFB.out
        have HT2 := Lib.hid hT2
        have HQ2 := Lib.hid hq2
        have HEL := Lib.hid el
        have HJ2 := Lib.hid (show FqJ b (f2.er :: r2.map FlV.er) by have h := HJ1.out; rw [← el] at h; exact h)
        have HL2 := Lib.hid hlen2
        have HFB2 := Lib.hid hfb2
        have hn2 : f2.n = n := by
          have h : (turnR wt quant t b (Lc.map FlV.er)).map Prod.fst = Lc.map FlV.n := by
            unfold turnR
            split
            · unfold roundsF; rw [List.map_map, List.map_map]; rfl
            · rw [List.map_map]; rfl
          rw [← el, HLC.out, List.map_map] at h
          simp only [List.map_cons, List.cons.injEq] at h
          exact h.1.trans HN0.out
        have HN2 := Lib.hid hn2
        obtain ⟨x, xs, hx⟩ : ∃ x xs, f2.xs = x :: xs := by
          cases hx : f2.xs with
          | nil => exact absurd hx (HJ2.out.cost f2.er List.mem_cons_self).1.1
          | cons x xs => exact ⟨x, xs, rfl⟩
        have HX := Lib.hid hx
        obtain ⟨c2, hc2⟩ : ∃ c2, (grow1 wt quant b f2.er).2.1 = c2 := ⟨_, rfl⟩
        have hcb := grow1_bd HW.out h1 h2 HJ2.out
        rw [hc2] at hcb
        unfold topCr at hcb
        have HC2 := Lib.hid hc2
        have hk5 := hq2.at_.2.2.2.2.2.2.1
        have HSM := Lib.hid (show ∀ c2, ((r2 ++ [f2.putC c2]).map (fun f => f.xs.length)).sum = mn from fun c2 => by
          have h : (turnR wt quant t b (Lc.map FlV.er)).map (fun f => f.2.2.length) = Lc.map (fun f => f.xs.length) := by
            unfold turnR
            split
            · unfold roundsF; rw [List.map_map, List.map_map]; rfl
            · rw [List.map_map]; rfl
          have h2 := HIr.out.sum
          rw [← h, ← el, List.map_map] at h2
          simp only [List.map_append, List.sum_append, List.map_cons, List.map_nil, List.sum_cons, List.sum_nil] at h2 ⊢
          have h3 : ((fun f : Fl => f.2.2.length) ∘ FlV.er) = (fun f : FlV => f.xs.length) := rfl
          rw [h3] at h2
          show (r2.map (fun f => f.xs.length)).sum + (f2.xs.length + 0) = mn
          have h6 : (r2.map (fun f => f.xs.length)).sum + f2.xs.length = mn := by rw [← h2]; exact Nat.add_comm _ _
          exact h6)
        clear el eb hq2 hT2 hlen2 hfb2 hn2 hx hc2 hcut HJ1 HQ1
        go_upto_if 59 with fail
        go_cut [] (fun wx => Hid (Fq wx base F1 p mf mw (.slice (some A) N c) (n :: r2.map FlV.n) room quant true (f2.putC c2 :: r2) M1 wt mn ∧ Tn F1 w0 wx))
        case first =>
          cases b with
          | true =>
            have HF := Lib.hid (show (Fq wc base F1 p mf mw (.slice (some A) N c) (n :: r2.map FlV.n) room quant true (f2.putC c2 :: r2) M1 wt mn ∧ Tn F1 w0 wc) from ⟨by
              have h := HQ2.out
              rw [List.map_cons, HN2.out] at h
              rw [show f2.putC c2 = f2 by rw [← HC2.out]; rfl]
              exact h, HT2.out⟩)
            go_wp2_with fail
            go_meet
            exact HF
          | false =>
            obtain ⟨gn, hgn⟩ : ∃ g, gainF wt quant n = g := ⟨_, rfl⟩
            have hgb := gain_bd HW.out h1 h2 n
            have hq2 := HQ2.out
            have hfl := hq2.fl _ List.mem_cons_self
            obtain ⟨-, b0, -, f00⟩ := hfl.at_
            obtain ⟨cr, hcr⟩ : ∃ c, f2.c = c := ⟨_, rfl⟩
            have hce : cr + gn = c2 := by
              rw [← HC2.out, ← hcr, ← hgn, ← HN2.out]; rfl
            have h0 : 0 ≤ cr := by rw [← hcr]; exact (HJ2.out.cost f2.er List.mem_cons_self).1.2.2
            have hw2 : IntKind.i64.wrap (cr + gn) = c2 := by rw [hce]; unfold IntKind.wrap; simp [IntKind.bits, IntKind.signed]; omega
            have HGN := Lib.hid (fqgain_in hq2.drew HW.out h1 h2 n gn hgn)
            have HS := Lib.hid (fun u : Nat => (hq2.drewN u).setC 0 (by simp) c2)
            have hfz := f00 0
            rw [HFB2.out] at b0 hfz
            rw [hcr] at b0
            have HFP := Lib.hid hfl.fp
            clear hq2 hfl f00 hgn hcr hce
            go_wp2_with fail
            go_upto_region 12 with fail
            go_region_law (go_simp; go_at_call 49; refine HGN.out.mono ?_; rintro e w7 ⟨rfl, m7, rfl⟩)
            all_goals
              have hs := HS.out (1 + m7)
              simp only [List.getElem_cons_zero, List.set_cons_zero] at hs
              rw [HFB2.out] at hs
              have k5 := hs.at_.2.2.2.2.2.2.1
              have f5 := blk_frozen hs.box 5
              have hs2 := hs.put 5 (.bool true) (many' := mn) (began' := true) (rv' := .slice (some A) N c) (R' := (f2 :: r2).map FlV.n) rfl hs.ring
              rw [List.map_cons, HN2.out] at hs2
              have HF := Lib.hid (And.intro hs2 (((HT2.out.bel (pw_below_drewN (Below.refl _ _) (1 + m7))).put fb 0 (.int .i64 c2) (.inl (by have h := HFP.out; rw [HFB2.out] at h; exact h))).put p 5 (.bool true) (.inl hs.fp)))
              clear hs hs2
              go_wp2_with fail
              go_meet
              exact HF
        case rest =>
          obtain ⟨hq3, hT3⟩ := hcut.out
          have HQ3 := Lib.hid hq3
          have HT3 := Lib.hid hT3
          have hfl := hq3.fl _ List.mem_cons_self
          obtain ⟨g, o, ci, hv, hci, y0, y1, y2⟩ := hfl.first (x := x) (xs := xs) HX.out
          obtain ⟨-, b0, b1, -⟩ := hfl.at_
          have hv' : f2.v = .slice (some ⟨g, o, none⟩) f2.xs.length ci := hv
          have hb0 : (f2.putC c2).b = fb := HFB2.out
          have hc0 : (f2.putC c2).c = c2 := rfl
          have hv0 : (f2.putC c2).v = f2.v := rfl
          have hci' : f2.xs.length ≤ ci := hci
          rw [hv0, hv', hb0] at b1
          rw [hb0, hc0] at b0
          obtain ⟨m, hm⟩ : ∃ m, f2.xs.length = m := ⟨_, rfl⟩
          have hm1 : 0 < m := by rw [← hm, HX.out]; simp
          have hm2 : (0 : Int) < (m : Int) := by omega
          rw [hm] at b1 hv' hci'
          have HV := Lib.hid hv'
          have HM := Lib.hid hm
          have hrF : ¬ F1 r := fun h => by
            rcases HF1.out r h with h | h
            · have h2 := (HQ.out.flt r h).2; have h3 := HR.out; omega
            · have h3 := HR.out; omega
          have HRF := Lib.hid hrF
          obtain ⟨x1, x2, x3⟩ := x
          dsimp only at y0 y1 y2
          have hPc := popRun_cons (k := gk - 1) (t := t) (wt := wt) (q := quant) (b := b) (l := Lc.map FlV.er) (f := f2.er) (r := r2.map FlV.er) (x := (x1, x2, x3)) (xs := xs) HEL.out.symm HX.out
          rw [show gk - 1 + 1 = gk by omega, HP.out, HC2.out] at hPc
          have HPC := Lib.hid hPc
          have hxb := (HJ2.out.cost f2.er List.mem_cons_self).1.2.1 (x1, x2, x3) (by show (x1, x2, x3) ∈ f2.xs; rw [HX.out]; exact List.mem_cons_self)
          dsimp only at hxb
          obtain ⟨-, hxb1, hxb2⟩ := hxb
          clear hq3 hT3 hfl hv hci hv' hb0 hc0 hv0 hm hPc hcut hrF hci'
          go_upto_region 15 with fail
          obtain ⟨W4, hW4⟩ : ∃ W4, wc.alloc (.cells #[.int .u64 x1, .int .i64 x2, .int .u64 x3] 43) = W4 := ⟨_, rfl⟩
          obtain ⟨xb, hxb⟩ : ∃ b, wc.heap.size = b := ⟨_, rfl⟩
          have hb4 : Below wc.heap.size wc W4 := by rw [← hW4]; exact below_alloc (Below.refl _ _) _
          have hx4 : W4.heap[xb]? = some (.cells #[.int .u64 x1, .int .i64 x2, .int .u64 x3] 43 (0, 0)) := by rw [← hW4, ← hxb]; exact heap_alloc_new _ _
          rw [hW4]
          try rw [hxb]
          have z1 := blk_cell hx4 1
          have b0' := pw_cell_below hb4 b0
          have HB4 := Lib.hid hb4
          have HX4 := Lib.hid hx4
          have HXB := Lib.hid hxb
          clear hW4 hb4 hx4 hxb y0 y1 y2 b0 b1
          go_quiet (fail)
          obtain ⟨W5, hW5⟩ : ∃ W5, W4.drewN nq = W5 := ⟨_, rfl⟩
          have hbn : Below W4.heap.size W4 W5 := by rw [← hW5]; exact pw_below_drewN (Below.refl _ W4) nq
          have HQ5 := Lib.hid ((HQ3.out.below HB4.out).below hbn)
          have HT5 := Lib.hid ((HT3.out.bel HB4.out).bel hbn)
          have hx5 := blk_below HX4.out hbn
          have HX5 := Lib.hid hx5
          have HSW := Lib.hid (show wc.heap.size ≤ W5.heap.size from Nat.le_trans HB4.out.size hbn.size)
          rw [hW5]
          clear z1 b0' hW5 hbn hx5
          obtain ⟨-, k0, k1, k2, k3, k4, k5, k6⟩ := HQ5.out.at_
          by_cases hcst : x2 ≤ c2
          · have HCS := Lib.hid hcst
            have hcs' : ¬ c2 < x2 := by omega
            have hfl5 := HQ5.out.fl _ List.mem_cons_self
            obtain ⟨-, b0, b1, f0⟩ := hfl5.at_
            rw [show (f2.putC c2).b = fb from HFB2.out, show (f2.putC c2).c = c2 from rfl] at b0
            rw [show (f2.putC c2).b = fb from HFB2.out] at b1 f0
            have f00 := f0 0
            have z1 := blk_cell HX5.out 1
            have hws : IntKind.i64.wrap (c2 - x2) = c2 - x2 := by unfold IntKind.wrap; simp [IntKind.bits, IntKind.signed]; omega
            have hq6 := HQ5.out.drew.setC 0 (by simp) (c2 - x2)
            simp only [List.getElem_cons_zero, List.set_cons_zero] at hq6
            rw [show (f2.putC c2).b = fb from HFB2.out, show (f2.putC c2).putC (c2 - x2) = f2.putC (c2 - x2) from rfl] at hq6
            have HQ6 := Lib.hid (show Fq (W5.setCell ⟨fb, 0, none⟩ (.int .i64 (c2 - x2))).drew base F1 p mf mw (.slice (some A) N c) (n :: r2.map FlV.n) room quant true (f2.putC (c2 - x2) :: r2) M1 wt mn from hq6)
            have HFP := Lib.hid (show F1 fb from by have h := hfl5.fp; rw [show (f2.putC c2).b = fb from HFB2.out] at h; exact h)
            clear hcst hfl5 f0 hq6 k0 k1 k2 k3 k4 k5 k6 b1
            go_upto_region 18 with fail
            go_region_law (fail)
            all_goals
              obtain ⟨W6, hW6⟩ : ∃ W6, (W5.setCell ⟨fb, 0, none⟩ (.int .i64 (c2 - x2))).drew = W6 := ⟨_, rfl⟩
              have hT6 : Tn F1 w0 W6 := by rw [← hW6]; exact (HT5.out.put fb 0 _ (.inl HFP.out)).drew
              have hx6 : W6.heap[xb]? = some (.cells #[.int .u64 x1, .int .i64 x2, .int .u64 x3] 43 (0, 0)) := by
                rw [← hW6]
                refine blk_below ?_ (below_drew (Below.refl _ _))
                refine (Below.heap_setCell W5 ⟨fb, 0, none⟩ _ xb (fun e => ?_)).trans HX5.out
                have h1 := (HQ3.out.flt fb HFP.out).2
                have h2 := HXB.out
                have h3 : xb = fb := e
                omega
              rw [hW6] at HQ6 ⊢
              have HT6 := Lib.hid hT6
              have HX6 := Lib.hid hx6
              clear hW6 hT6 hx6 b0 f00 z1
              have hfl6 := HQ6.out.fl _ List.mem_cons_self
              obtain ⟨-, -, b1, f0⟩ := hfl6.at_
              rw [show (f2.putC (c2 - x2)).b = fb from HFB2.out] at b1 f0
              rw [show (f2.putC (c2 - x2)).v = f2.v from rfl, HV.out] at b1
              have f1 := f0 1
              have hcim : m ≤ ci := by
                obtain ⟨A9, c9, e9, h9⟩ := Kd.Q_slice hfl6.row
                rw [show (f2.putC (c2 - x2)).v = f2.v from rfl, HV.out] at e9
                injection e9 with e1 e2 e3
                rw [show (f2.putC (c2 - x2)).xs = f2.xs from rfl, HM.out] at h9
                omega
              obtain ⟨A7, hcut7, hown7, hQ7⟩ := cutI (some ⟨g, o, none⟩) m ci hm1 hcim
              have hrow7 := hfl6.row
              rw [show (f2.putC (c2 - x2)).v = f2.v from rfl, HV.out, show (f2.putC (c2 - x2)).xs = (x1, x2, x3) :: xs from HX.out] at hrow7
              have hq7 := HQ6.out.setV 0 (by simp) (.slice A7 (m - 1) (ci - 1)) xs (hQ7 _ _ _ _ _ hrow7) (by
                rw [hown7]
                show _ = (f2.putC (c2 - x2)).v.ownBlock
                rw [show (f2.putC (c2 - x2)).v = f2.v from rfl, HV.out])
              simp only [List.getElem_cons_zero, List.set_cons_zero] at hq7
              rw [show (f2.putC (c2 - x2)).b = fb from HFB2.out] at hq7
              have hq8 := hq7.put 2 (.int .i64 (mn - 1)) (many' := mn - 1) (began' := true) (rv' := .slice (some A) N c) (R' := n :: r2.map FlV.n) rfl hq7.ring
              obtain ⟨k0, k1, k2, k3, k4, k5, k6⟩ := hq7.at_.2
              have f2z := blk_frozen hq7.box 2
              have HQ8 := Lib.hid hq8
              obtain ⟨W7, hW7⟩ : ∃ W7, W6.setCell ⟨fb, 1, none⟩ (.slice A7 (m - 1) (ci - 1)) = W7 := ⟨_, rfl⟩
              rw [hW7] at k0 k1 k2 k3 k4 k5 k6 f2z HQ8
              obtain ⟨W8, hW8⟩ : ∃ W8, W7.setCell ⟨p, 2, none⟩ (.int .i64 (mn - 1)) = W8 := ⟨_, rfl⟩
              rw [hW8] at HQ8
              have hT8 : Tn F1 w0 W8 := by rw [← hW8, ← hW7]; exact (HT6.out.put fb 1 _ (.inl HFP.out)).put p 2 _ (.inl HQ3.out.fp)
              have hx8 : W8.heap[xb]? = some (.cells #[.int .u64 x1, .int .i64 x2, .int .u64 x3] 43 (0, 0)) := by
                rw [← hW8, ← hW7]
                refine (Below.heap_setCell _ ⟨p, 2, none⟩ _ xb (fun e => ?_)).trans ((Below.heap_setCell _ ⟨fb, 1, none⟩ _ xb (fun e => ?_)).trans HX6.out)
                · have h1 := (HQ3.out.flt p HQ3.out.fp).2
                  have h2 := HXB.out
                  have h3 : xb = p := e
                  omega
                · have h1 := (HQ3.out.flt fb HFP.out).2
                  have h2 := HXB.out
                  have h3 : xb = fb := e
                  omega
              have HT8 := Lib.hid hT8
              have HX8 := Lib.hid hx8
              have b8 : W8.cell? ⟨fb, 1, none⟩ = some (.slice A7 (m - 1) (ci - 1)) := by
                have h := (HQ8.out.fl _ List.mem_cons_self).at_.2.2.1
                rw [show ((f2.putC (c2 - x2)).put (.slice A7 (m - 1) (ci - 1)) xs).b = fb from HFB2.out] at h
                exact h
              have HXL := Lib.hid (show xs.length = m - 1 by have h := HM.out; rw [HX.out] at h; simp at h; omega)
              have hmn1 : IntKind.i64.wrap ((mn : Int) - 1) = (mn : Int) - 1 := by unfold IntKind.wrap; simp [IntKind.bits, IntKind.signed]; omega
              clear hfl6 f0 hown7 hQ7 hrow7 hq7 hq8 hT8 hx8
              go_upto_region 21 with fail
              obtain ⟨m', hm'⟩ : ∃ m', m - 1 = m' := ⟨_, rfl⟩
              rw [hm'] at b8
              have HM' := Lib.hid hm'
              clear hm'
              by_cases hxs : xs = []
              · have hm0 : m' = 0 := by have h := HXL.out; rw [hxs] at h; simp at h; have h2 := HM'.out; omega
                subst hm0
                have HYY := Lib.hid (show y = ((x1, x2, x3), false, r2.map FlV.er) by
                  have h := HPC.out
                  rw [if_pos HCS.out, if_pos hxs] at h
                  injection h)
                have HO := Lib.hid (fqout_any (f := (f2.putC (c2 - x2)).put (.slice A7 (m - 1) (ci - 1)) xs) (R := r2.map FlV.n) (by rw [show ((f2.putC (c2 - x2)).put (.slice A7 (m - 1) (ci - 1)) xs).n = n from HN2.out]; exact HQ8.out))
                clear hxs
                go_wp2_with fail
                refine HO.out.mono ?_
                rintro e w9 ⟨rfl, ⟨rv9, M9, hq9⟩, hT9⟩
                have HQ9 := Lib.hid hq9
                have HT9 := Lib.hid (show Tn F1 w0 w9 from HT8.out.trans hT9 (fun k hk => .inl hk))
                have HX9 := Lib.hid ((hT9.block xb (blk_lt HX8.out) (fun h => by
                  have h1 := (HQ3.out.flt xb h).2
                  have h2 := HXB.out
                  omega)).trans HX8.out)
                clear hq9 hT9 b8
                have hrb := ((HT9.out).block r (blk_lt HIr.out.res) HRF.out).trans HIr.out.res
                have hxb : w9.heap[xb]? = some (.cells #[.int .u64 x1, .int .i64 x2, .int .u64 x3] 43 (0, 0)) := HX9.out
                have q0 := blk_cell hrb 0
                have q1 := blk_cell hrb 1
                have q2 := blk_cell hrb 2
                have g0 := blk_frozen hrb 0
                have g1 := blk_frozen hrb 1
                have g2 := blk_frozen hrb 2
                have v0 := blk_cell hxb 0
                have v1 := blk_cell hxb 1
                have v2 := blk_cell hxb 2
                have hrf : ((((w9.setCell ⟨r, 0, none⟩ (.int .u64 x1)).setCell ⟨r, 1, none⟩ (.int .i64 x2)).setCell ⟨r, 2, none⟩ (.int .u64 x3)).heap[r]? = some (.cells #[.int .u64 x1, .int .i64 x2, .int .u64 x3] 43 (0, 0))) := blk_set (blk_set (blk_set hrb 0 _) 1 _) 2 _
                have HRB := Lib.hid hrf
                have HPO := Lib.hid (pop_close (x := (x1, x2, x3)) (a1 := .int .u64 x1) (a2 := .int .i64 x2) (a3 := .int .u64 x3) (l := r2.map FlV.er) (W := W) (r := r) HQ9.out (by have h := HSM.out c2; have h2 := HM.out; simp only [List.map_append, List.sum_append, List.map_cons, List.map_nil, List.sum_cons, List.sum_nil] at h; have h3 : (f2.putC c2).xs.length = m := h2; have h4 := HM'.out; omega) rfl HRF.out HR.out.symm HF1.out HIr.out.T HT9.out)
                clear hrb hxb hrf
                go_wp2_with fail
                refine bodyPost_ret (results_ct rfl _ _ r 43 #[.int .u64 x1, .int .i64 x2, .int .u64 x3] (0, 0) _ rfl HRB.out Try.underlying43 rfl (by kernel_rfl)) rfl ?_
                rw [HYY.out]
                exact ⟨rfl, HPO.out⟩
              · have hm0 : 0 < m' := by
                  have h := HXL.out
                  have h2 := HM'.out
                  have h3 : xs.length ≠ 0 := fun e => hxs (List.length_eq_zero_iff.1 e)
                  omega
                have hmz' : ((m' : Int) == 0) = false := by simp; omega
                have HYY := Lib.hid (show y = ((x1, x2, x3), true, (f2.er.1, c2 - x2, xs) :: r2.map FlV.er) by
                  have h := HPC.out
                  rw [if_pos HCS.out, if_neg hxs] at h
                  injection h)
                clear hxs
                have hrb := ((HT8.out).block r (blk_lt HIr.out.res) HRF.out).trans HIr.out.res
                have hxb : W8.heap[xb]? = some (.cells #[.int .u64 x1, .int .i64 x2, .int .u64 x3] 43 (0, 0)) := HX8.out
                have q0 := blk_cell hrb 0
                have q1 := blk_cell hrb 1
                have q2 := blk_cell hrb 2
                have g0 := blk_frozen hrb 0
                have g1 := blk_frozen hrb 1
                have g2 := blk_frozen hrb 2
                have v0 := blk_cell hxb 0
                have v1 := blk_cell hxb 1
                have v2 := blk_cell hxb 2
                have hrf : ((((W8.setCell ⟨r, 0, none⟩ (.int .u64 x1)).setCell ⟨r, 1, none⟩ (.int .i64 x2)).setCell ⟨r, 2, none⟩ (.int .u64 x3)).heap[r]? = some (.cells #[.int .u64 x1, .int .i64 x2, .int .u64 x3] 43 (0, 0))) := blk_set (blk_set (blk_set hrb 0 _) 1 _) 2 _
                have HRB := Lib.hid hrf
                have HPO := Lib.hid (pop_close (L' := (f2.putC (c2 - x2)).put (.slice A7 (m - 1) (ci - 1)) xs :: r2) (x := (x1, x2, x3)) (a1 := .int .u64 x1) (a2 := .int .i64 x2) (a3 := .int .u64 x3) (l := (f2.er.1, c2 - x2, xs) :: r2.map FlV.er) (W := W) (r := r) (rv := .slice (some A) N c) (by rw [List.map_cons, show ((f2.putC (c2 - x2)).put (.slice A7 (m - 1) (ci - 1)) xs).n = n from HN2.out]; exact HQ8.out) (by have h := HSM.out c2; have h2 := HM.out; simp only [List.map_append, List.sum_append, List.map_cons, List.map_nil, List.sum_cons, List.sum_nil] at h ⊢; have h3 : (f2.putC c2).xs.length = m := h2; have h4 := HXL.out; have h5 : ((f2.putC (c2 - x2)).put (.slice A7 (m - 1) (ci - 1)) xs).xs.length = xs.length := rfl; omega) rfl HRF.out HR.out.symm HF1.out HIr.out.T HT8.out)
                clear hrb hxb hrf
                go_wp2_with fail
                refine bodyPost_ret (results_ct rfl _ _ r 43 #[.int .u64 x1, .int .i64 x2, .int .u64 x3] (0, 0) _ rfl HRB.out Try.underlying43 rfl (by kernel_rfl)) rfl ?_
                rw [HYY.out]
                exact ⟨rfl, HPO.out⟩
          · have HNC := Lib.hid hcst
            have hcd : c2 < x2 := by omega
            clear hcst
            obtain ⟨A', hcut, hown, hQ⟩ := cutU (some A) N c hl1 hc
            have HRQ := Lib.hid (hQ _ _ _ _ _ HQ5.out.ring)
            have HOW := Lib.hid hown
            have HRL := Lib.hid (show (r2.map FlV.n).length = N - 1 by have h := HL2.out; simp at h ⊢; omega)
            have HB0 := Lib.hid (show base ≤ W5.heap.size from Nat.le_trans (HQ5.out.flt p HQ5.out.fp).1 (Nat.le_of_lt (HQ5.out.flt p HQ5.out.fp).2))
            clear hQ hown
            go_wp2_with (at_builtin; refine Kd.Q_append (w0 := W5) (W := W5) KU base rfl _ _ 63 40 (.int .u64 0) 8 rfl Try.underlying63 infU64 rfl (by decide) (by decide) (.slice A' (N - 1) (c - 1)) (r2.map FlV.n) n [.int .u64 n] (fun k => F1 k ∨ W5.heap.size ≤ k) (fun _ => False) rfl rfl rfl (fun _ h => h.elim) (fun k h => .inr h) (Kd.Q_mono HRQ.out (fun k hk => .inl hk)) ((Below.refl _ _).mono HB0.out) HB0.out (by rw [HRL.out]; omega) ?_; intro v1 w1 hr hb hg hat; obtain ⟨A1, c1, e1, -⟩ := Kd.Q_slice hr; rw [List.length_append, List.length_singleton, HRL.out] at e1; subst e1; have HRR := Lib.hid hr; have HG := Lib.hid (show W5.grownBy w1 (Value.slice (some A) N c).ownBlock by rw [← HOW.out]; exact hg); have hbx := HQ5.out.boxR (w1 := w1) HG.out; have u4 : w1.cell? ⟨p, 4, none⟩ = some (.slice (some A) N c) := blk_cell hbx 4; have f4 := blk_frozen hbx 4; have u5 : w1.cell? ⟨p, 5, none⟩ = some (.bool true) := blk_cell hbx 5; have f5 := blk_frozen hbx 5; clear hr hb hg hat hbx)
            have hq6 := HQ5.out.ringA (w1 := w1) (rv' := .slice A1 (N - 1 + 1) c1) (R' := r2.map FlV.n ++ [n]) (Kd.Q_mono (Kd.Q_bound HRR.out) (fun k hk => by
              rcases hk.1 with h | h
              · exact .inl h
              · exact .inr ⟨h, hk.2.2.1⟩)) HG.out
            have hq7 := (hq6.put 5 (.bool false) (many' := mn) (began' := false) (rv' := .slice A1 (N - 1 + 1) c1) (R' := r2.map FlV.n ++ [n]) rfl hq6.ring).perm (L' := r2 ++ [f2.putC c2]) (List.perm_append_comm (l₁ := [f2.putC c2]) (l₂ := r2))
            have hT7 : Tn F1 w0 ((w1.setCell ⟨p, 4, none⟩ (.slice A1 (N - 1 + 1) c1)).setCell ⟨p, 5, none⟩ (.bool false)) := by
              refine ((HT5.out.grownO HG.out (fun b hb => .inl (HQ5.out.ring.1 b hb))).put p 4 _ (.inl HQ5.out.fp)).put p 5 _ (.inl HQ5.out.fp)
            have HP' := Lib.hid (show popRun wt quant (gk - 1) (t + 1) false ((r2 ++ [f2.putC c2]).map FlV.er) = some y by
              have h := HPC.out
              rw [if_neg (by have := HNC.out; omega), grow1_er, HC2.out] at h
              rw [List.map_append]
              exact h.symm)
            have HI' := Lib.hid (show PopI W base F p mf mw room quant mn wt N mn r false (r2 ++ [f2.putC c2]) ((w1.setCell ⟨p, 4, none⟩ (.slice A1 (N - 1 + 1) c1)).setCell ⟨p, 5, none⟩ (.bool false)) from {
              q := ⟨_, _, _, by
                have h := hq7
                rw [show (r2 ++ [f2.putC c2]).map FlV.n = r2.map FlV.n ++ [n] by rw [List.map_append, List.map_singleton, show (f2.putC c2).n = n from HN2.out]]
                exact h, fun k hk => by
                rcases hk with hk | hk
                · exact HF1.out k hk
                · refine .inr ?_
                  have h3 := HIr.out.T.size
                  have h4 := HT3.out.size
                  have h5 := HSW.out
                  have h6 := (blk_lt HIr.out.res)
                  have h7 := HR.out
                  omega⟩
              T := HIr.out.T.trans hT7 (fun k hk => (HF1.out k hk).imp id (fun h => Nat.le_of_lt h))
              J := by
                have h := rot_J HW.out h1 h2 HJ2.out HX.out (by rw [HC2.out]; show ¬ x2 ≤ c2; have := HNC.out; omega)
                rw [grow1_er, HC2.out] at h
                rw [List.map_append]
                exact h
              len := by have h := HL2.out; simp at h ⊢; omega
              sum := HSM.out c2
              res := (hT7.block r (blk_lt HIr.out.res) HRF.out).trans HIr.out.res
              rr := HR.out.symm })
            clear hq6 hq7 hT7 u4 f4 u5 f5
            go_wp2_with fail
            go_roundg (gk - 1)
            case measure => omega
            case rel => exact ⟨t + 1, false, _, by omega, by go_num, HP', HI'⟩
end
end Go.Proofs.Ytcelhendfjiicaa
