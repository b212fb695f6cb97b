/- attn.Step. -/
import Derived.Test.YtdfgmdmcdnnhfaaGreatAtK
import Derived.Deep.RegionLaw
import Derived.Deep.DeepCutAuto
namespace Go.Proofs.YtdfgmdmcdnnhfaaGreat
open Go.RowKit Go.Shelf Go.Proofs.YtdfgmdmcdnnhfaaGreatW.PrintWords Go.Proofs.YtdfgmdmcdnnhfaaGreatW.PrintLast Go.Proofs.YtdfgmdmcdnnhfaaGreatW.PrintMore
set_option linter.unusedVariables false
set_option linter.unusedSimpArgs false
set_option maxRecDepth 100000
attribute [local go_sem] gb_max2 gb_min2 gb_max_two gb_min_two gb_max_three gb_min_three run_cfg1 run_cfg2 run_cfg3

/-- What Step is handed, in its boxes. -/
structure SI (c : Cfg) (p b5 b6 : Nat) (l : Int) (A KA VA : Option Addr) (xs : List Int) (ks vs : List (List Int)) (W : World) : Prop where
  mo : Mo W p c
  c5 : W.cell? ⟨b5, 0, none⟩ = some (.pointer (some ⟨p, 0, none⟩))
  c6 : W.cell? ⟨b6, 0, none⟩ = some (.int .i64 l)
  x : (Kd.int .i64).C W A xs.length xs
  k : Rows_ W KA ks
  v : Rows_ W VA vs
theorem SI.below {c : Cfg} {p b5 b6 : Nat} {l : Int} {A KA VA : Option Addr} {xs : List Int} {ks vs : List (List Int)} {W W' : World} (h : SI c p b5 b6 l A KA VA xs ks vs W) (hb : Below W.heap.size W W') : SI c p b5 b6 l A KA VA xs ks vs W' :=
  ⟨h.mo.below hb, pw_cell_below hb h.c5, pw_cell_below hb h.c6, Kd.C_below h.x hb, h.k.below hb, h.v.below hb⟩
/-- Step's answer. -/
def StepR (X K V : List Int) (w : World) (e : Ending) (w' : World) : Prop := ∃ A1 c1 A2 c2 A3 c3, e = .returned (.tuple #[.slice A1 X.length c1, .slice A2 K.length c2, .slice A3 V.length c3]) ∧ Own w' w.heap.size 2 (.slice A1 X.length c1) X ∧ Own w' w.heap.size 2 (.slice A2 K.length c2) K ∧ Own w' w.heap.size 2 (.slice A3 V.length c3) V ∧ Below w.heap.size w w'
theorem amk_len (rt : Int) (q : List Int) (ks : List (List Int)) : (amk rt q ks).length = ks.length := by simp [amk]
theorem amk_take (rt : Int) (q : List Int) (ks : List (List Int)) (k : Nat) (h : k < ks.length) : amk rt q (ks.take (k + 1)) = amk rt q (ks.take k) ++ [fdiv (vdot q (ks.getD k [])) rt] := by
  unfold amk
  rw [List.take_succ_eq_append_getElem h, List.map_append, List.getD_eq_getElem?_getD, List.getElem?_eq_getElem h]
  rfl


set_option maxHeartbeats 2000000 in
theorem step_in (W : World) (p : Nat) (c : Cfg) (hok : c.ok) (h : Mo W p c) (l : Int) (hl : c.in_ l) (A KA VA : Option Addr) (px pk pv : Nat) (xs : List Int) (ks vs : List (List Int)) (hx : (Kd.int .i64).C W A xs.length xs) (hcx : xs.length ≤ px) (hnx : xs.length ≤ 4096) (hk : Rows_ W KA ks) (hck : ks.length ≤ pk) (hnk : ks.length ≤ 1000) (hsk : Short ks) (hv : Rows_ W VA vs) (hcv : vs.length ≤ pv) (hnv : vs.length ≤ 1000) (hsv : Short vs) :
    Calls Tryz.prog 62 #[.pointer (some ⟨p, 0, none⟩), .int .i64 l, .slice A xs.length px, .slice KA ks.length pk, .slice VA vs.length pv] W (StepR (aX c l xs ks vs) (aK c l xs) (aV c l xs) W) := by
  obtain ⟨W0, hW0⟩ : ∃ W0, (W.alloc (.cells #[.pointer (some ⟨p, 0, none⟩)] 28)).alloc (.cells #[.int .i64 l] 3) = W0 := ⟨_, rfl⟩
  have hHB : Below W.heap.size W W0 := by rw [← hW0]; exact below_alloc (below_alloc (Below.refl _ W) _) _
  have hb5 : W0.cell? ⟨W.heap.size, 0, none⟩ = some (.pointer (some ⟨p, 0, none⟩)) := by rw [← hW0, blk_cell (blk_alloc (heap_alloc_new W _) _)]; rfl
  have hb6 : W0.cell? ⟨W.heap.size + 1, 0, none⟩ = some (.int .i64 l) := by rw [← hW0, blk_cell (heap_alloc2_new W _ _)]; rfl
  obtain ⟨b5, e5⟩ : ∃ b, W.heap.size = b := ⟨_, rfl⟩
  obtain ⟨b6, e6⟩ : ∃ b, W.heap.size + 1 = b := ⟨_, rfl⟩
  rw [e5] at hb5
  rw [e6] at hb6
  have HS := Lib.hid (show SI c p b5 b6 l A KA VA xs ks vs W0 from ⟨h.below hHB, hb5, hb6, Kd.C_below hx hHB, hk.below hHB, hv.below hHB⟩)
  have HB := Lib.hid hHB
  have HW0 := Lib.hid hW0
  have E5 := Lib.hid e5
  have E6 := Lib.hid (show b5 + 1 = b6 by omega)
  have HOK := Lib.hid hok
  have HL := Lib.hid hl
  have HSK := Lib.hid hsk
  have HSV := Lib.hid hsv
  have hD : (mrows c l 0).length = c.dim.toNat := mrows_in c l 0 hl (by decide) (by decide)
  have z0 : (((mrows c l 0).length : Int) == 0) = false := by rw [hD]; have := hok.2.1; simp; omega
  have HCV := Lib.hid (show c.v = .agg #[.int .u64 c.seed, .int .i64 c.vocab, .int .i64 c.dim, .int .i64 c.layers, .int .i64 c.top, .int .i64 c.heat] from rfl)
  have hdim0 : -9223372036854775808 ≤ c.dim := by have := hok.2.1; omega
  have hdim1 : c.dim ≤ 9223372036854775807 := by have := hok.2.1; omega
  obtain ⟨X, hX⟩ : ∃ X, aX c l xs ks vs = X := ⟨_, rfl⟩
  obtain ⟨Kk, hKk⟩ : ∃ K, aK c l xs = K := ⟨_, rfl⟩
  obtain ⟨Vv, hVv⟩ : ∃ V, aV c l xs = V := ⟨_, rfl⟩
  have HX := Lib.hid hX
  have HKk := Lib.hid hKk
  have HVv := Lib.hid hVv
  obtain ⟨nx, hnxe⟩ : ∃ n, xs.length = n := ⟨_, rfl⟩
  obtain ⟨nk, hnke⟩ : ∃ n, ks.length = n := ⟨_, rfl⟩
  obtain ⟨nv, hnve⟩ : ∃ n, vs.length = n := ⟨_, rfl⟩
  have HNX := Lib.hid hnxe
  have HNK := Lib.hid hnke
  have HNV := Lib.hid hnve
  obtain ⟨mm, hmm⟩ : ∃ m, min nk nv = m := ⟨_, rfl⟩
  have HMM := Lib.hid hmm
  have hmk : mm ≤ nk := by omega
  have hmv : mm ≤ nv := by omega
  rw [hnxe] at hcx hnx
  rw [hnke] at hck hnk
  rw [hnve] at hcv hnv
  rw [hX, hKk, hVv, hnxe, hnke, hnve]
  have s1 := cutRows KA nk pk (min (nk : Int) (nv : Int)) (by omega) (by omega) hck
  have s2 := cutRows VA nv pv (min (nk : Int) (nv : Int)) (by omega) (by omega) hcv
  have e1 : (min (nk : Int) (nv : Int)).toNat = mm := by omega
  rw [e1] at s1 s2
  have htk : (ks.take mm).length = mm := by rw [List.length_take, hnke]; omega
  have htv : (vs.take mm).length = mm := by rw [List.length_take, hnve]; omega
  have HTK := Lib.hid htk
  have HTV := Lib.hid htv
  clear hW0 hHB hb5 hb6 e5 e6 h hx hk hv hok hl hsk hsv hX hKk hVv hnxe hnke hnve hmm e1 htk htv hD
  unfold StepR
  go_enter Tryz.func62, Tryz.ntmps62
  go_wp2_with fail
  try rw [E5.out]
  try rw [E6.out]
  rw [HW0.out]
  have HCL := Lib.hid (rowsc_any _ p b5 b6 c HOK.out HS.out.mo l 0 HS.out.c5 HS.out.c6)
  go_wp2_with fail
  refine HCL.out.mono ?_
  unfold TabC
  rintro e wn ⟨AT, cT, rfl, hcT, hT, hb⟩
  have HT := Lib.hid hT
  have HS := Lib.hid (HS.out.below hb)
  have HB := Lib.hid (below_then HB.out HB.out.size hb)
  clear hT hb HCL
  have HCX := Lib.hid (norm_any A px xs _ HS.out.x (by rw [HNX.out]; exact hcx) (by rw [HNX.out]; exact hnx))
  rw [HNX.out] at HCX
  obtain ⟨n, hn⟩ : ∃ L, vnorm xs = L := ⟨_, rfl⟩
  have hln : n.length ≤ 4096 := by rw [← hn, vnorm_len', HNX.out]; exact hnx
  rw [hn] at HCX
  have Hn := Lib.hid hn
  have HCL := Lib.hid (toO HCX.out)
  clear hn HCX
  go_wp2_with fail
  refine HCL.out.mono ?_
  unfold RowO
  rintro e wn ⟨An, cn, rfl, ho, hb⟩
  have HOn := Lib.hid (ho.lower HB.out.size)
  have HS := Lib.hid (HS.out.below hb)
  have HB := Lib.hid (below_then HB.out HB.out.size hb)
  clear ho hb HCL z0
  have HCL := Lib.hid (rowsc_any _ p b5 b6 c HOK.out HS.out.mo l 0 HS.out.c5 HS.out.c6)
  go_wp2_with fail
  refine HCL.out.mono ?_
  unfold TabC
  rintro e wn ⟨AT, cT, rfl, hcT, hT, hb⟩
  have HT := Lib.hid hT
  have HOn := Lib.hid (HOn.out.below hb)
  have HS := Lib.hid (HS.out.below hb)
  have HB := Lib.hid (below_then HB.out HB.out.size hb)
  clear hT hb HCL
  obtain ⟨q, hq⟩ : ∃ L, vmul (mrows c l 0) n = L := ⟨_, rfl⟩
  have hlq : q.length ≤ 4096 := by rw [← hq]; exact Nat.le_trans (vmul_le c HOK.out l 0 n) (by decide)
  have HCL := Lib.hid (toO (vmul_any AT An cT cn (mrows c l 0) n _ HT.out (mrows_short c HOK.out l 0) HOn.out.rd.2 hcT HOn.out.rd.1 (Nat.le_trans (mrows_le c HOK.out l 0) (by decide)) hln))
  rw [hq] at HCL
  have Hq := Lib.hid hq
  clear hq
  go_wp2_with fail
  refine HCL.out.mono ?_
  unfold RowO
  rintro e wn ⟨Aq, cq, rfl, ho, hb⟩
  have HOq := Lib.hid (ho.lower HB.out.size)
  have HOn := Lib.hid (HOn.out.below hb)
  have HS := Lib.hid (HS.out.below hb)
  (try have HT := Lib.hid (HT.out.below hb))
  have HB := Lib.hid (below_then HB.out HB.out.size hb)
  clear ho hb HCL
  have HCL := Lib.hid (rowsc_any _ p b5 b6 c HOK.out HS.out.mo l 1 HS.out.c5 HS.out.c6)
  go_wp2_with fail
  refine HCL.out.mono ?_
  unfold TabC
  rintro e wn ⟨AT, cT, rfl, hcT, hT, hb⟩
  have HT := Lib.hid hT
  have HOn := Lib.hid (HOn.out.below hb)
  have HOq := Lib.hid (HOq.out.below hb)
  have HS := Lib.hid (HS.out.below hb)
  have HB := Lib.hid (below_then HB.out HB.out.size hb)
  clear hT hb HCL
  obtain ⟨k, hk⟩ : ∃ L, vmul (mrows c l 1) n = L := ⟨_, rfl⟩
  have hlk : k.length ≤ 4096 := by rw [← hk]; exact Nat.le_trans (vmul_le c HOK.out l 1 n) (by decide)
  have HCL := Lib.hid (toO (vmul_any AT An cT cn (mrows c l 1) n _ HT.out (mrows_short c HOK.out l 1) HOn.out.rd.2 hcT HOn.out.rd.1 (Nat.le_trans (mrows_le c HOK.out l 1) (by decide)) hln))
  rw [hk] at HCL
  have Hk := Lib.hid hk
  clear hk
  go_wp2_with fail
  refine HCL.out.mono ?_
  unfold RowO
  rintro e wn ⟨Ak, ck, rfl, ho, hb⟩
  have HOk := Lib.hid (ho.lower HB.out.size)
  have HOn := Lib.hid (HOn.out.below hb)
  have HOq := Lib.hid (HOq.out.below hb)
  have HS := Lib.hid (HS.out.below hb)
  (try have HT := Lib.hid (HT.out.below hb))
  have HB := Lib.hid (below_then HB.out HB.out.size hb)
  clear ho hb HCL
  have HCL := Lib.hid (rowsc_any _ p b5 b6 c HOK.out HS.out.mo l 2 HS.out.c5 HS.out.c6)
  go_wp2_with fail
  refine HCL.out.mono ?_
  unfold TabC
  rintro e wn ⟨AT, cT, rfl, hcT, hT, hb⟩
  have HT := Lib.hid hT
  have HOn := Lib.hid (HOn.out.below hb)
  have HOq := Lib.hid (HOq.out.below hb)
  have HOk := Lib.hid (HOk.out.below hb)
  have HS := Lib.hid (HS.out.below hb)
  have HB := Lib.hid (below_then HB.out HB.out.size hb)
  clear hT hb HCL
  obtain ⟨v, hv⟩ : ∃ L, vmul (mrows c l 2) n = L := ⟨_, rfl⟩
  have hlv : v.length ≤ 4096 := by rw [← hv]; exact Nat.le_trans (vmul_le c HOK.out l 2 n) (by decide)
  have HCL := Lib.hid (toO (vmul_any AT An cT cn (mrows c l 2) n _ HT.out (mrows_short c HOK.out l 2) HOn.out.rd.2 hcT HOn.out.rd.1 (Nat.le_trans (mrows_le c HOK.out l 2) (by decide)) hln))
  rw [hv] at HCL
  have Hv := Lib.hid hv
  clear hv
  go_wp2_with fail
  refine HCL.out.mono ?_
  unfold RowO
  rintro e wn ⟨Av, cv, rfl, ho, hb⟩
  have HOv := Lib.hid (ho.lower HB.out.size)
  have HOn := Lib.hid (HOn.out.below hb)
  have HOq := Lib.hid (HOq.out.below hb)
  have HOk := Lib.hid (HOk.out.below hb)
  have HS := Lib.hid (HS.out.below hb)
  (try have HT := Lib.hid (HT.out.below hb))
  have HB := Lib.hid (below_then HB.out HB.out.size hb)
  clear ho hb HCL
  obtain ⟨rt, hrt⟩ : ∃ r, froot (fint c.dim) = r := ⟨_, rfl⟩
  have HRT := Lib.hid hrt
  have HCL := Lib.hid (config_any _ p c HS.out.mo)
  rw [HCV.out] at HCL
  have k5 := HS.out.c5
  go_wp2_with fail
  refine HCL.out.mono ?_
  rintro e wc ⟨rfl, hb⟩
  clear k5
  have HOn := Lib.hid (HOn.out.below hb)
  have HOq := Lib.hid (HOq.out.below hb)
  have HOk := Lib.hid (HOk.out.below hb)
  have HOv := Lib.hid (HOv.out.below hb)
  have HS := Lib.hid (HS.out.below hb)
  have HB := Lib.hid (below_then HB.out HB.out.size hb)
  clear hb hrt HCL
  go_wp2_with fail
  refine (fint_any _ _ hdim0 hdim1).mono ?_
  rintro e w' ⟨rfl, rfl⟩
  go_wp2_with fail
  refine (sqrt_any _ _).mono ?_
  rw [HRT.out]
  rintro e w' ⟨rfl, rfl⟩
  have HCL := Lib.hid (clone2_any wc KA pk (ks.take mm) wc (Kd.C_take HS.out.k (by rw [HNK.out]; exact hmk)) (Below.refl _ _) (by rw [HTK.out]; omega) (by rw [HTK.out]; omega))
  rw [HTK.out] at HCL
  have HEK := Lib.hid (show (Kd.slice 2 (Kd.int .i64)).K wc k [.slice Ak k.length ck] from ⟨Ak, ck, rfl, HOk.out.rd.1, HOk.out.rd.2⟩)
  go_wp2_with fail
  refine HCL.out.mono ?_
  unfold CloneF
  rw [HTK.out]
  rintro e wd ⟨A9, c9, rfl, hr, hb⟩
  have HR9 := Lib.hid hr
  have HB9 := Lib.hid hb
  have hsz9 := hb.size
  clear hr hb HCL
  go_wp2_with (at_builtin; refine Kd.R_append (KFix wc) (w0 := wc) (W := wd) wc.heap.size rfl _ _ 54 55 (.slice none 0 0) 24 rfl Tryz.underlying54 infoRow rfl Nat.zero_lt_one (by decide) (.slice A9 mm c9) (ks.take mm) k [.slice Ak k.length ck] (fun _ => True) (fun _ => False) (by rfl) (by rfl) HEK.out (fun _ h => h.elim) (fun _ _ => trivial) HR9.out HB9.out hsz9 (by rw [HTK.out]; omega) ?_; intro v5 we hr5 hb5 hg5 hat5; obtain ⟨A5, c5, hv5, hc5, hC5⟩ := Kd.R_reads hr5; rw [List.length_append, HTK.out, List.length_singleton] at hv5; subst hv5; have HR5 := Lib.hid (fix_rows hC5 hb5); have HB5 := Lib.hid hb5; clear hr5 hb5 hg5 hat5 hC5)
  have HOn := Lib.hid (HOn.out.below HB5.out)
  have HOq := Lib.hid (HOq.out.below HB5.out)
  have HOk := Lib.hid (HOk.out.below HB5.out)
  have HOv := Lib.hid (HOv.out.below HB5.out)
  have HS := Lib.hid (HS.out.below HB5.out)
  have HB := Lib.hid (below_then HB.out HB.out.size HB5.out)
  obtain ⟨KK, hKK⟩ : ∃ L, ks.take mm ++ [k] = L := ⟨_, rfl⟩
  have hKl : KK.length = mm + 1 := by rw [← hKK, List.length_append, HTK.out]; rfl
  have HKS := Lib.hid (show Short KK by rw [← hKK]; exact short_snoc ks mm k HSK.out hlk)
  rw [hKK] at HR5
  have HKK := Lib.hid hKK
  have HKL := Lib.hid hKl
  have HRK := Lib.hid (fun (W' : World) (hb : Below we.heap.size we W') => HR5.out.below hb)
  have HOQ := Lib.hid (fun (W' : World) (hb : Below we.heap.size we W') => HOq.out.below hb)
  clear hKK hKl HB5 HR9 HB9
  go_loopw [20, 65] (fun u s wr => ∃ (j : Nat) (u' : Value), u' = u ∧ s = .int .i64 j ∧ j ≤ mm + 1 ∧ Own wr we.heap.size 2 u (amk rt q (KK.take j)) ∧ Below we.heap.size we wr) (fun _ s _ => mm + 1 - (intOf s).toNat)
  case atStart => exact ⟨0, _, rfl, rfl, by omega, Kd.R_nil _ _ _ _ _, Below.refl _ _⟩
  case round =>
    obtain ⟨j, u, rfl, rfl, hj, ho, hb⟩ := hrel
    by_cases hjm : j < mm + 1
    · obtain ⟨a, A6, c6, ea, q6, hc6, hC6⟩ := (HRK.out _ hb).at_ j (by rw [HKL.out]; exact hjm)
      subst ea
      have hl6 := HKS.out j
      have HJ := Lib.hid (amk_take rt q KK j (by rw [HKL.out]; exact hjm))
      have hla : (amk rt q (KK.take j)).length ≤ 1000000 := by rw [amk_len, List.length_take, HKL.out]; omega
      obtain ⟨kk, hkk⟩ : ∃ kk, KK.getD j [] = kk := ⟨_, rfl⟩
      rw [hkk] at q6 hc6 hC6 hl6 HJ
      have HC6 := Lib.hid hC6
      have HO := Lib.hid ho
      have HBL := Lib.hid hb
      have hsz := hb.size
      have HQ6 := Lib.hid (HOQ.out _ hb)
      clear hkk hC6 ho hb
      go_wp2_with fail
      refine (dot_any Aq A6 cq c6 q kk wr HQ6.out.rd.2 HC6.out HQ6.out.rd.1 hc6 hlq hl6).mono ?_
      rintro e w4 ⟨rfl, hd4⟩
      have HB4 := Lib.hid (below_then HBL.out hsz hd4.below)
      have HO4 := Lib.hid (HO.out.below hd4.below)
      have hsz4 := HB4.out.size
      clear hd4
      go_wp2_with fail
      refine (div_any _ _ _).mono ?_
      obtain ⟨y, hy⟩ : ∃ y, fdiv (vdot q kk) rt = y := ⟨_, rfl⟩
      rw [hy]
      rw [hy] at HJ
      rintro e w' ⟨rfl, rfl⟩
      clear hy
      go_wp2_with (at_builtin; refine own_append (w0 := we) w4 _ we.heap.size rfl _ _ 55 2 rfl Tryz.underlying55 infoI64 _ _ y w4.heap.size rfl rfl rfl rfl HO4.out HB4.out hsz4 hla ?_; intro v5 w5 ho5 hb5; have HO5 := Lib.hid ho5; have HB5 := Lib.hid hb5; clear ho5 hb5)
      go_roundw
      case rel => exact ⟨j + 1, _, rfl, by go_num, by omega, by rw [HJ.out]; exact HO5.out, HB5.out⟩
      case measure => simp [intOf]; omega
    · have hjm1 : KK.take j = KK := List.take_of_length_le (by rw [HKL.out]; omega)
      rw [hjm1] at ho
      have hMl : (amk rt q KK).length ≤ 4096 := by rw [amk_len, HKL.out]; omega
      obtain ⟨M, hM⟩ : ∃ M, amk rt q KK = M := ⟨_, rfl⟩
      rw [hM] at ho hMl
      have HM := Lib.hid hM
      obtain ⟨AM, cM, hu, -, -⟩ := ho.reads
      subst hu
      have HOM := Lib.hid ho
      have HE := Lib.hid hb
      clear ho hb hjm1 hM
      have HOn := Lib.hid (HOn.out.below HE.out)
      have HOq := Lib.hid (HOq.out.below HE.out)
      have HOk := Lib.hid (HOk.out.below HE.out)
      have HOv := Lib.hid (HOv.out.below HE.out)
      have HS := Lib.hid (HS.out.below HE.out)
      have HB := Lib.hid (below_then HB.out HB.out.size HE.out)
      have HEV := Lib.hid (show (Kd.slice 2 (Kd.int .i64)).K wr v [.slice Av v.length cv] from ⟨Av, cv, rfl, HOv.out.rd.1, HOv.out.rd.2⟩)
      have HVT := Lib.hid (Kd.C_take HS.out.v (show mm ≤ vs.length by rw [HNV.out]; exact hmv))
      obtain ⟨VV, hVV⟩ : ∃ L, vs.take mm ++ [v] = L := ⟨_, rfl⟩
      have hVl : VV.length = mm + 1 := by rw [← hVV, List.length_append, HTV.out]; rfl
      have HVS := Lib.hid (show Short VV by rw [← hVV]; exact short_snoc vs mm v HSV.out hlv)
      have HVV := Lib.hid hVV
      obtain ⟨S, hS⟩ : ∃ S, vsoft M = S := ⟨_, rfl⟩
      have hSl : S.length ≤ 4096 := by rw [← hS, vsoft_len']; exact hMl
      obtain ⟨z, hz⟩ : ∃ z, vmix S VV = z := ⟨_, rfl⟩
      have hlz : z.length ≤ 4096 := by rw [← hz]; exact vmix_le S VV HVS.out
      have HSE := Lib.hid hS
      have Hz := Lib.hid hz
      have HSOFT := Lib.hid (fun (W' : World) (hb : Below wr.heap.size wr W') => show Calls Tryz.prog 72 #[.slice AM M.length cM] W' (RowO S W') by
        have h := toO (soft_any AM cM M W' (Kd.C_below HOM.out.rd.2 hb) HOM.out.rd.1 hMl)
        rw [hS] at h; exact h)
      have HCLN := Lib.hid (fun (W' : World) (hb : Below wr.heap.size wr W') => show Calls Tryz.prog 98 #[.slice VA mm pv] W' (CloneF wr (vs.take mm) W') by
        have h := clone2_any wr VA pv (vs.take mm) W' HVT.out hb (by rw [HTV.out]; omega) (by rw [HTV.out]; omega)
        rw [HTV.out] at h; exact h)
      have HMIX := Lib.hid (fun (W' : World) (AS : Option Addr) (cS : Nat) (A8 : Option Addr) (c8 : Nat) (h1 : Own W' wr.heap.size 2 (.slice AS S.length cS) S) (h2 : Rows_ W' A8 VV) (h3 : mm + 1 ≤ c8) => show Calls Tryz.prog 99 #[.slice AS S.length cS, .slice A8 (mm + 1) c8] W' (RowO z W') by
        have h := toO (vmix_any AS A8 cS c8 S VV W' h1.rd.2 h2 HVS.out (by rw [hVl]; exact h3) h1.rd.1 (by rw [hVl]; omega) hSl)
        rw [hz, hVl] at h; exact h)
      have HQ := Lib.hid (below_drew (Below.refl wr.heap.size wr))
      have HVL := Lib.hid hVl
      clear hVV hS hz hVl
      go_upto_region 14 with fail
      go_cut [23] (fun s23 wx => ∃ (Az : Option Addr) (cz : Nat), s23 = .slice Az z.length cz ∧ Own wx wr.heap.size 2 (.slice Az z.length cz) z ∧ Below wr.heap.size wr wx)
      case first =>
        go_region_law (first
        | (refine Kd.R_append_rows_step (KFix wr) (Rr := (KFix wr).K wr) (w0 := wr) wr.heap.size rfl _ _ 54 55 (.slice none 0 0) 24 rfl Tryz.underlying54 infoRow rfl Nat.zero_lt_one (by decide) (.slice A8 mm c8) (vs.take mm) [v] _ 1 1 (fun _ => True) (fun _ => False) (by rfl) (by rfl) (by first | exact HR8.out | exact Kd.R_below HR8.out (below_alloc (Below.refl _ _) _)) (by first | exact HBOX.out | exact boxed_row HEV.out _) (fun _ _ h => h) (fun _ h => h.elim) (fun _ _ => trivial) (by first | exact HQ.out | exact below_alloc HQ.out _) (by first | exact HQ.out.size | exact (below_alloc HQ.out _).size) (by rw [HTV.out]; omega) ?_; intro v7 w7 hr7 hb7 hg7 hat7; (try (have HOS := Lib.hid (show Own w7 wr.heap.size 2 (.slice AS S.length cS) S from (by first | exact Kd.R_over' HOS.out (Kd.R_typed HR8.out) (by decide) hg7 | exact Kd.R_over' (HOS.out.below (below_alloc (Below.refl _ _) _)) (Kd.R_typed (Kd.R_below HR8.out (below_alloc (Below.refl _ _) _))) (by decide) hg7)))); obtain ⟨A7, c7, hv7, hc7, hC7⟩ := Kd.R_reads hr7; have hrw7 := fix_rows hC7 hb7; rw [HVV.out] at hv7 hc7 hrw7; rw [HVL.out] at hv7 hc7; subst hv7; have HR7 := Lib.hid hrw7; obtain ⟨wn, hwn⟩ : ∃ wn, w7 = wn := ⟨_, rfl⟩; subst hwn; have HQ := Lib.hid hb7; clear hr7 hb7 hg7 hat7 hC7 hrw7)
        | (go_simp; go_at_call 72; refine (HSOFT.out _ (by first | exact HQ.out | exact below_alloc HQ.out _)).mono ?_; unfold RowO; rintro e w7 ⟨AS, cS, rfl, ho, hb⟩; have HOS := Lib.hid (ho.lower (show wr.heap.size ≤ _ from (by first | exact HQ.out.size | exact (below_alloc HQ.out _).size))); (first | (have HBOX := Lib.hid (ReadsRow.imp_ (boxed_row HEV.out _) hb (fun _ _ h => h))) | (have HBOX := Lib.hid (ReadsRow.imp_ (boxed_row (w := wr.drew) HEV.out _) hb (fun _ _ h => h))) | (have HBOX := Lib.hid (ReadsRow.imp_ HBOX.out hb (fun _ _ h => h))) | skip); (try have HR8 := Lib.hid (Kd.R_below HR8.out (by first | exact hb | exact below_then (below_alloc (Below.refl _ _) _) (by simp) hb))); (try have HR7 := Lib.hid (HR7.out.below hb)); have HQ := Lib.hid (below_then (B := wr.heap.size) (w := wr) (by first | exact HQ.out | exact below_alloc HQ.out _) (by first | exact HQ.out.size | exact (below_alloc HQ.out _).size) hb); clear ho hb)
        | (go_simp; go_at_call 98; refine (HCLN.out _ (by first | exact HQ.out | exact below_alloc HQ.out _)).mono ?_; unfold CloneF; rw [HTV.out]; rintro e w7 ⟨A8, c8, rfl, hr, hb⟩; have HR8 := Lib.hid (Kd.R_lower hr (show wr.heap.size ≤ _ from (by first | exact HQ.out.size | exact (below_alloc HQ.out _).size))); (first | (have HBOX := Lib.hid (ReadsRow.imp_ (boxed_row HEV.out _) hb (fun _ _ h => h))) | (have HBOX := Lib.hid (ReadsRow.imp_ (boxed_row (w := wr.drew) HEV.out _) hb (fun _ _ h => h))) | (have HBOX := Lib.hid (ReadsRow.imp_ HBOX.out hb (fun _ _ h => h))) | skip); (try have HOS := Lib.hid (HOS.out.below (by first | exact hb | exact below_then (below_alloc (Below.refl _ _) _) (by simp) hb))); have HQ := Lib.hid (below_then (B := wr.heap.size) (w := wr) (by first | exact HQ.out | exact below_alloc HQ.out _) (by first | exact HQ.out.size | exact (below_alloc HQ.out _).size) hb); clear hr hb)
        | (go_simp; go_at_call 99; refine (HMIX.out _ AS cS A7 c7 HOS.out HR7.out hc7).mono ?_; unfold RowO; rintro e w7 ⟨Az, cz, rfl, ho, hb⟩; have HOz := Lib.hid (ho.lower HQ.out.size); have HQ := Lib.hid (below_then HQ.out HQ.out.size hb); clear ho hb))
        all_goals
          go_wp2_with fail
          go_meet
          exact ⟨_, _, rfl, HOz.out, HQ.out⟩
      case rest =>
        obtain ⟨Az, cz, rfl, hoz, hq⟩ := hcut
        have HQ := Lib.hid hq
        have HOz := Lib.hid (hoz.lower HB.out.size)
        clear hoz hq
        have HOn := Lib.hid (HOn.out.below HQ.out)
        have HOq := Lib.hid (HOq.out.below HQ.out)
        have HOk := Lib.hid (HOk.out.below HQ.out)
        have HOv := Lib.hid (HOv.out.below HQ.out)
        have HS := Lib.hid (HS.out.below HQ.out)
        have HB := Lib.hid (below_then HB.out HB.out.size HQ.out)
        have HCL := Lib.hid (rowsc_any _ p b5 b6 c HOK.out HS.out.mo l 3 HS.out.c5 HS.out.c6)
        go_wp2_with fail
        refine HCL.out.mono ?_
        unfold TabC
        rintro e wn ⟨AT, cT, rfl, hcT, hT, hb⟩
        have HT := Lib.hid hT
        have HOn := Lib.hid (HOn.out.below hb)
        have HOq := Lib.hid (HOq.out.below hb)
        have HOk := Lib.hid (HOk.out.below hb)
        have HOv := Lib.hid (HOv.out.below hb)
        have HOz := Lib.hid (HOz.out.below hb)
        have HS := Lib.hid (HS.out.below hb)
        have HB := Lib.hid (below_then HB.out HB.out.size hb)
        clear hT hb HCL
        obtain ⟨o, ho⟩ : ∃ L, vmul (mrows c l 3) z = L := ⟨_, rfl⟩
        have hlo : o.length ≤ 4096 := by rw [← ho]; exact Nat.le_trans (vmul_le c HOK.out l 3 z) (by decide)
        have HCL := Lib.hid (toO (vmul_any AT Az cT cz (mrows c l 3) z _ HT.out (mrows_short c HOK.out l 3) HOz.out.rd.2 hcT HOz.out.rd.1 (Nat.le_trans (mrows_le c HOK.out l 3) (by decide)) hlz))
        rw [ho] at HCL
        have Ho := Lib.hid ho
        clear ho
        go_wp2_with fail
        refine HCL.out.mono ?_
        unfold RowO
        rintro e wn ⟨Ao, co, rfl, ho, hb⟩
        have HOo := Lib.hid (ho.lower HB.out.size)
        have HOn := Lib.hid (HOn.out.below hb)
        have HOq := Lib.hid (HOq.out.below hb)
        have HOk := Lib.hid (HOk.out.below hb)
        have HOv := Lib.hid (HOv.out.below hb)
        have HOz := Lib.hid (HOz.out.below hb)
        have HS := Lib.hid (HS.out.below hb)
        (try have HT := Lib.hid (HT.out.below hb))
        have HB := Lib.hid (below_then HB.out HB.out.size hb)
        clear ho hb HCL
        have hx1 := HS.out.x
        obtain ⟨g, hg⟩ : ∃ L, vadd xs o = L := ⟨_, rfl⟩
        have hlg : g.length ≤ 4096 := by rw [← hg]; exact Nat.le_trans (vadd_len xs o) (by rw [HNX.out]; exact hnx)
        have HCL := Lib.hid (toO (vadd_any A Ao px co xs o _ HS.out.x HOo.out.rd.2 (by rw [HNX.out]; exact hcx) HOo.out.rd.1 (by rw [HNX.out]; exact hnx) hlo))
        rw [hg, HNX.out] at HCL
        have Hg := Lib.hid hg
        clear hg
        go_wp2_with fail
        refine HCL.out.mono ?_
        unfold RowO
        rintro e wn ⟨Ag, cg, rfl, ho, hb⟩
        have HOg := Lib.hid (ho.lower HB.out.size)
        have HOn := Lib.hid (HOn.out.below hb)
        have HOq := Lib.hid (HOq.out.below hb)
        have HOk := Lib.hid (HOk.out.below hb)
        have HOv := Lib.hid (HOv.out.below hb)
        have HOz := Lib.hid (HOz.out.below hb)
        have HOo := Lib.hid (HOo.out.below hb)
        have HS := Lib.hid (HS.out.below hb)
        (try have HT := Lib.hid (HT.out.below hb))
        have HB := Lib.hid (below_then HB.out HB.out.size hb)
        clear ho hb HCL
        have HCL := Lib.hid (rowsc_any _ p b5 b6 c HOK.out HS.out.mo l 4 HS.out.c5 HS.out.c6)
        go_wp2_with fail
        refine HCL.out.mono ?_
        unfold TabC
        rintro e wn ⟨AT, cT, rfl, hcT, hT, hb⟩
        have HT := Lib.hid hT
        have HOn := Lib.hid (HOn.out.below hb)
        have HOq := Lib.hid (HOq.out.below hb)
        have HOk := Lib.hid (HOk.out.below hb)
        have HOv := Lib.hid (HOv.out.below hb)
        have HOz := Lib.hid (HOz.out.below hb)
        have HOo := Lib.hid (HOo.out.below hb)
        have HOg := Lib.hid (HOg.out.below hb)
        have HS := Lib.hid (HS.out.below hb)
        have HB := Lib.hid (below_then HB.out HB.out.size hb)
        clear hT hb HCL
        obtain ⟨t, ht⟩ : ∃ L, vnorm g = L := ⟨_, rfl⟩
        have hlt : t.length ≤ 4096 := by rw [← ht]; rw [vnorm_len']; exact hlg
        have HCL := Lib.hid (toO (norm_any Ag cg g _ HOg.out.rd.2 HOg.out.rd.1 hlg))
        rw [ht] at HCL
        have Ht := Lib.hid ht
        clear ht
        go_wp2_with fail
        refine HCL.out.mono ?_
        unfold RowO
        rintro e wn ⟨At, ct, rfl, ho, hb⟩
        have HOt := Lib.hid (ho.lower HB.out.size)
        have HOn := Lib.hid (HOn.out.below hb)
        have HOq := Lib.hid (HOq.out.below hb)
        have HOk := Lib.hid (HOk.out.below hb)
        have HOv := Lib.hid (HOv.out.below hb)
        have HOz := Lib.hid (HOz.out.below hb)
        have HOo := Lib.hid (HOo.out.below hb)
        have HOg := Lib.hid (HOg.out.below hb)
        have HS := Lib.hid (HS.out.below hb)
        (try have HT := Lib.hid (HT.out.below hb))
        have HB := Lib.hid (below_then HB.out HB.out.size hb)
        clear ho hb HCL
        obtain ⟨u2, hu2⟩ : ∃ L, vmul (mrows c l 4) t = L := ⟨_, rfl⟩
        have hlu2 : u2.length ≤ 4096 := by rw [← hu2]; exact Nat.le_trans (vmul_le c HOK.out l 4 t) (by decide)
        have HCL := Lib.hid (toO (vmul_any AT At cT ct (mrows c l 4) t _ HT.out (mrows_short c HOK.out l 4) HOt.out.rd.2 hcT HOt.out.rd.1 (Nat.le_trans (mrows_le c HOK.out l 4) (by decide)) hlt))
        rw [hu2] at HCL
        have Hu2 := Lib.hid hu2
        clear hu2
        go_wp2_with fail
        refine HCL.out.mono ?_
        unfold RowO
        rintro e wn ⟨Au2, cu2, rfl, ho, hb⟩
        have HOu2 := Lib.hid (ho.lower HB.out.size)
        have HOn := Lib.hid (HOn.out.below hb)
        have HOq := Lib.hid (HOq.out.below hb)
        have HOk := Lib.hid (HOk.out.below hb)
        have HOv := Lib.hid (HOv.out.below hb)
        have HOz := Lib.hid (HOz.out.below hb)
        have HOo := Lib.hid (HOo.out.below hb)
        have HOg := Lib.hid (HOg.out.below hb)
        have HOt := Lib.hid (HOt.out.below hb)
        have HS := Lib.hid (HS.out.below hb)
        (try have HT := Lib.hid (HT.out.below hb))
        have HB := Lib.hid (below_then HB.out HB.out.size hb)
        clear ho hb HCL
        obtain ⟨r, hr⟩ : ∃ L, vrelu u2 = L := ⟨_, rfl⟩
        have hlr : r.length ≤ 4096 := by rw [← hr]; rw [vrelu_len]; exact hlu2
        have HCL := Lib.hid (toO (relu_any Au2 cu2 u2 _ HOu2.out.rd.2 HOu2.out.rd.1 hlu2))
        rw [hr] at HCL
        have Hr := Lib.hid hr
        clear hr
        go_wp2_with fail
        refine HCL.out.mono ?_
        unfold RowO
        rintro e wn ⟨Ar, cr, rfl, ho, hb⟩
        have HOr := Lib.hid (ho.lower HB.out.size)
        have HOn := Lib.hid (HOn.out.below hb)
        have HOq := Lib.hid (HOq.out.below hb)
        have HOk := Lib.hid (HOk.out.below hb)
        have HOv := Lib.hid (HOv.out.below hb)
        have HOz := Lib.hid (HOz.out.below hb)
        have HOo := Lib.hid (HOo.out.below hb)
        have HOg := Lib.hid (HOg.out.below hb)
        have HOt := Lib.hid (HOt.out.below hb)
        have HOu2 := Lib.hid (HOu2.out.below hb)
        have HS := Lib.hid (HS.out.below hb)
        (try have HT := Lib.hid (HT.out.below hb))
        have HB := Lib.hid (below_then HB.out HB.out.size hb)
        clear ho hb HCL
        have HCL := Lib.hid (rowsc_any _ p b5 b6 c HOK.out HS.out.mo l 5 HS.out.c5 HS.out.c6)
        go_wp2_with fail
        refine HCL.out.mono ?_
        unfold TabC
        rintro e wn ⟨AT, cT, rfl, hcT, hT, hb⟩
        have HT := Lib.hid hT
        have HOn := Lib.hid (HOn.out.below hb)
        have HOq := Lib.hid (HOq.out.below hb)
        have HOk := Lib.hid (HOk.out.below hb)
        have HOv := Lib.hid (HOv.out.below hb)
        have HOz := Lib.hid (HOz.out.below hb)
        have HOo := Lib.hid (HOo.out.below hb)
        have HOg := Lib.hid (HOg.out.below hb)
        have HOt := Lib.hid (HOt.out.below hb)
        have HOu2 := Lib.hid (HOu2.out.below hb)
        have HOr := Lib.hid (HOr.out.below hb)
        have HS := Lib.hid (HS.out.below hb)
        have HB := Lib.hid (below_then HB.out HB.out.size hb)
        clear hT hb HCL
        obtain ⟨y2, hy2⟩ : ∃ L, vmul (mrows c l 5) r = L := ⟨_, rfl⟩
        have hly2 : y2.length ≤ 4096 := by rw [← hy2]; exact Nat.le_trans (vmul_le c HOK.out l 5 r) (by decide)
        have HCL := Lib.hid (toO (vmul_any AT Ar cT cr (mrows c l 5) r _ HT.out (mrows_short c HOK.out l 5) HOr.out.rd.2 hcT HOr.out.rd.1 (Nat.le_trans (mrows_le c HOK.out l 5) (by decide)) hlr))
        rw [hy2] at HCL
        have Hy2 := Lib.hid hy2
        clear hy2
        go_wp2_with fail
        refine HCL.out.mono ?_
        unfold RowO
        rintro e wn ⟨Ay2, cy2, rfl, ho, hb⟩
        have HOy2 := Lib.hid (ho.lower HB.out.size)
        have HOn := Lib.hid (HOn.out.below hb)
        have HOq := Lib.hid (HOq.out.below hb)
        have HOk := Lib.hid (HOk.out.below hb)
        have HOv := Lib.hid (HOv.out.below hb)
        have HOz := Lib.hid (HOz.out.below hb)
        have HOo := Lib.hid (HOo.out.below hb)
        have HOg := Lib.hid (HOg.out.below hb)
        have HOt := Lib.hid (HOt.out.below hb)
        have HOu2 := Lib.hid (HOu2.out.below hb)
        have HOr := Lib.hid (HOr.out.below hb)
        have HS := Lib.hid (HS.out.below hb)
        (try have HT := Lib.hid (HT.out.below hb))
        have HB := Lib.hid (below_then HB.out HB.out.size hb)
        clear ho hb HCL
        obtain ⟨y, hy⟩ : ∃ L, vadd g y2 = L := ⟨_, rfl⟩
        have hly : y.length ≤ 4096 := by rw [← hy]; exact Nat.le_trans (vadd_len g y2) hlg
        have HCL := Lib.hid (toO (vadd_any Ag Ay2 cg cy2 g y2 _ HOg.out.rd.2 HOy2.out.rd.2 HOg.out.rd.1 HOy2.out.rd.1 hlg hly2))
        rw [hy] at HCL
        have Hy := Lib.hid hy
        clear hy
        go_wp2_with fail
        refine HCL.out.mono ?_
        unfold RowO
        rintro e wn ⟨Ay, cy, rfl, ho, hb⟩
        have HOy := Lib.hid (ho.lower HB.out.size)
        have HOn := Lib.hid (HOn.out.below hb)
        have HOq := Lib.hid (HOq.out.below hb)
        have HOk := Lib.hid (HOk.out.below hb)
        have HOv := Lib.hid (HOv.out.below hb)
        have HOz := Lib.hid (HOz.out.below hb)
        have HOo := Lib.hid (HOo.out.below hb)
        have HOg := Lib.hid (HOg.out.below hb)
        have HOt := Lib.hid (HOt.out.below hb)
        have HOu2 := Lib.hid (HOu2.out.below hb)
        have HOr := Lib.hid (HOr.out.below hb)
        have HOy2 := Lib.hid (HOy2.out.below hb)
        have HS := Lib.hid (HS.out.below hb)
        (try have HT := Lib.hid (HT.out.below hb))
        have HB := Lib.hid (below_then HB.out HB.out.size hb)
        clear ho hb HCL
        have hF1 : y = X := by
          rw [← HX.out]
          simp only [aX, aH, aSn, aKs, aVs, aQ, aK, aV, aroot, HNK.out, HNV.out, HMM.out, Hn.out, Hq.out, Hk.out, Hv.out, HRT.out, HKK.out, HM.out, HSE.out, HVV.out, Hz.out, Ho.out, Hg.out, Ht.out, Hu2.out, Hr.out, Hy2.out, Hy.out]
        have hF2 : k = Kk := by rw [← HKk.out]; simp only [aK, Hn.out, Hk.out]
        have hF3 : v = Vv := by rw [← HVv.out]; simp only [aV, Hn.out, Hv.out]
        have HF1 := Lib.hid hF1
        have HF2 := Lib.hid hF2
        have HF3 := Lib.hid hF3
        clear hF1 hF2 hF3
        go_wp2_with fail
        go_ret3
        rw [← HF1.out, ← HF2.out, ← HF3.out]
        exact ⟨_, _, _, _, _, _, rfl, HOy.out, HOk.out, HOv.out, HB.out⟩

end Go.Proofs.YtdfgmdmcdnnhfaaGreat
