/- A state tells the document's next token, after any row of tokens that it has taken. -/
import Derived.Test.YtdfgmdmcdnnhfaaGreatRows
import Derived.WalkKit
import Derived.ProofKit
import Derived.OpenShut
import Derived.ShutString
import Derived.ChangeOld
import Derived.Below
import Derived.Test.YtdfgmdmcdnnhfaaGreatOpn
import Derived.Test.YtdfgmdmcdnnhfaaGreatDzE
namespace Go.Proofs.YtdfgmdmcdnnhfaaGreat.decodeNexts
open Go.ChangeShapes Go.WideShapes Go.ChangeAt Go.RowKit
open Go.ChangeMaps (open_string shut_string)
set_option linter.unusedVariables false
set_option linter.unusedSimpArgs false
open Go.Proofs.YtdfgmdmcdnnhfaaGreatW.PrintWords Go.Proofs.YtdfgmdmcdnnhfaaGreatW.PrintLast Go.Proofs.YtdfgmdmcdnnhfaaGreatW.PrintMore

theorem own : ownKnob Tryz.prog.godebug = none := by kernel_rfl
theorem laidOut : laidOutB Tryz.prog = true := by kernel_rfl

set_option maxRecDepth 100000
attribute [local go_sem] gb_max2 gb_min2 gb_max_two gb_min_two gb_max_three gb_min_three run_cfg1 run_cfg2 run_cfg3
set_option maxHeartbeats 2000000 in
theorem walk (cs0 : Array Value) (x0 : Cfg) (a1 : Option Addr) (len1 cap1 : Nat) (x1 : List Int) (a2 : Int) (w : World) (k0 : KCfg.K w x0 cs0.toList) (gd0 : (CfgW) x0) (k1 : KInts.K w x1 [.slice a1 len1 cap1]) (gd1 : (fun xs => (∀ x ∈ xs, (Lit.int .i64 x).wf = true) ∧ xs.length ≤ maxLen) x1) (gd2 : (Lit.int .u64 a2).wf = true) :
    Calls Tryz.prog 4 #[.agg cs0, .slice a1 len1 cap1, .int .u64 a2] w fun e w' => e = .returned (.bool true) ∧ Below w.heap.size w w' := by
  obtain rfl := cfg_cells k0
  obtain ⟨rfl, hcy, hy⟩ := slice_came k1
  have HCV := Lib.hid (show x0.v = .agg #[.int .u64 x0.seed, .int .i64 x0.vocab, .int .i64 x0.dim, .int .i64 x0.layers, .int .i64 x0.top, .int .i64 x0.heat] from rfl)
  have HX := Lib.hid (fun (W' : World) (hb : Below w.heap.size w W') => show (Kd.int .i64).C W' a1 x1.length x1 from Kd.C_below hy hb)
  obtain ⟨n, hn⟩ : ∃ n, x1.length = n := ⟨_, rfl⟩
  have hn9 : n ≤ 9223372036854775807 := by rw [← hn]; exact hy.2.1
  rw [hn] at hcy ⊢
  have HN := Lib.hid hn
  obtain ⟨W0, hW0⟩ : ∃ W0, w.alloc (.cells #[.int .u64 x0.seed, .int .i64 x0.vocab, .int .i64 x0.dim, .int .i64 x0.layers, .int .i64 x0.top, .int .i64 x0.heat] 24) = W0 := ⟨_, rfl⟩
  have hbx := Bx.new x0 w
  rw [hW0] at hbx
  have HBE := Lib.hid (show Below w.heap.size w W0 by rw [← hW0]; exact below_alloc (Below.refl _ _) _)
  obtain ⟨g, hg⟩ : ∃ g, w.heap.size = g := ⟨_, rfl⟩
  rw [hg] at hbx
  have HBX := Lib.hid hbx
  have HW := Lib.hid hW0
  have HG := Lib.hid hg
  clear k0 k1 gd0 gd1 gd2 hy hn hW0 hg hbx
  obtain ⟨z0, z1, z2, z3, z4, z5⟩ := HBX.out.at_
  by_cases hok : x0.ok
  · have HNW := Lib.hid (new_ok x0 hok W0)
    rw [HCV.out] at HNW
    have HOK := Lib.hid hok
    clear hok
    go_enter Tryz.func4, Tryz.ntmps4
    go_wp2_with fail
    try rw [HG.out]
    rw [HW.out]
    refine HNW.out.mono ?_
    unfold NewYes
    rintro e W1 ⟨p, rfl, hM, hb⟩
    have HMo := Lib.hid (fun (W' : World) (hb : Below W1.heap.size W1 W') => hM.below hb)
    have HB1 := Lib.hid hb
    clear hM hb HNW z0 z1 z2 z3 z4 z5
    by_cases hfar : 10 < n
    · go_wp2_with fail
      refine (alive12_any _).mono ?_
      rintro e W4 ⟨rfl, hb⟩
      have HE := Lib.hid (below_then HBE.out HBE.out.size (below_then HB1.out HB1.out.size hb))
      clear hb
      go_wp2_with fail
      go_ret
      exact ⟨rfl, HE.out⟩
    · have hn10 : n ≤ 10 := by omega
      go_wp2_with fail
      refine (dnew_any W1 p x0 HOK.out (HMo.out W1 (Below.refl _ _))).mono ?_
      unfold NewD
      rintro e W2 ⟨s0, rfl, hst, hb⟩
      have HST := Lib.hid hst
      have HB2 := Lib.hid hb
      have HLN := Lib.hid (dlen_any _ W2 s0 p x0 [0] hst)
      rw [show (([0] : List Int).length : Int) = 1 from rfl] at HLN
      clear hst hb
      go_wp2_with fail
      refine HLN.out.mono ?_
      rintro e wq ⟨rfl, hw⟩
      replace hw := hw.symm
      subst hw
      go_wp2_with fail
      have hb3 := below_alloc (Below.refl W2.heap.size W2) (.cells #[.int .i64 0] 3)
      have hlit : Own (W2.alloc (.cells #[.int .i64 0] 3)) W2.heap.size 3 (.slice (some ⟨W2.heap.size, 0, none⟩) 1 1) [0] := Kd.R_of_own (enc := Value.int .i64) (h1 := fun _ => rfl) (own_lit_of (enc := Value.int .i64) W2 W2.heap.size 3 [0] (Nat.le_refl _) (by simp)) (fun _ _ => trivial)
      obtain ⟨W3, hW3⟩ : ∃ W3, W2.alloc (.cells #[.int .i64 0] 3) = W3 := ⟨_, rfl⟩
      rw [hW3] at hb3 hlit ⊢
      have HV3 := Lib.hid hlit
      have HBW := Lib.hid hb3
      have HS3 := Lib.hid (HST.out.below hb3)
      have HN3 := Lib.hid (show ∀ q, (Value.slice (some ⟨W2.heap.size, 0, none⟩) 1 1).ownBlock = some q → ¬ Bt W1.heap.size W2.heap.size q from fun q hq hf => by
        have h2 := hf.2
        simp [Value.ownBlock] at hq
        omega)
      have HB13 := HB2
      have HB03 := Lib.hid (below_then HB1.out HB1.out.size HB13.out)
      clear hb3 hlit hW3 HST HLN
      go_loopw [9, 11, 46] (fun sv gv iv wr => ∃ (i s P : Nat) (L : List Int) (v' : Value) (G : Nat → Prop), v' = gv ∧ sv = .pointer (some ⟨s, 0, none⟩) ∧ iv = .int .i64 i ∧ i ≤ n ∧ 0 < P ∧ P ≤ i + 1 ∧ L.length = P ∧ Hid (StG G wr s p x0 L) ∧ Hid (Own wr W2.heap.size 3 gv L) ∧ Hid (∀ q, gv.ownBlock = some q → ¬ G q) ∧ Hid (Below W2.heap.size W2 wr)) (fun _ _ iv _ => n - (intOf iv).toNat)
      case atStart => exact ⟨0, s0, 1, [0], _, _, rfl, rfl, rfl, by omega, by omega, by omega, rfl, HS3, HV3, HN3, HBW⟩
      case round =>
        obtain ⟨i, s, P, L, v, GG, rfl, rfl, rfl, hi, hP0, hPi, hL, HSi, HVi, HNi, HBi⟩ := hrel
        obtain ⟨Av, cv, hv, hcv, hCv⟩ := HVi.out.reads_n hL
        subst hv
        have HL := Lib.hid hL
        have HB1r := Lib.hid (below_then HB13.out HB13.out.size HBi.out)
        have HB0r := Lib.hid (below_then HB03.out HB03.out.size HBi.out)
        obtain ⟨z0, z1, z2, z3, z4, z5⟩ := (HBX.out.below HB0r.out).at_
        clear hL hCv
        by_cases him : i < n
        · obtain ⟨b, eb, q⟩ := at_nat (HX.out wr (below_then HBE.out HBE.out.size HB0r.out)) i (by rw [HN.out]; exact him)
          subst eb
          obtain ⟨t, ht⟩ : ∃ t, x1.getD i 0 = t := ⟨_, rfl⟩
          rw [ht] at q
          clear ht
          by_cases hbad : 0 ≤ t ∧ t < x0.vocab
          · have HFD := Lib.hid (dfeed_ok GG wr s p x0 HOK.out (HMo.out _ HB1r.out) L HSi.out (by rw [HL.out]; omega) (by rw [HL.out]; omega) t hbad)
            unfold FeedY at HFD
            have t0 : ¬ t < 0 := by omega
            have t1 : ¬ x0.vocab ≤ t := by omega
            go_wp2_with fail
            refine HFD.out.mono ?_
            rintro e w5 ⟨s5, rfl, hs5, hb⟩
            have HS5 := Lib.hid hs5
            have HB5 := Lib.hid hb
            have HSo := Lib.hid (HSi.out.below hb)
            have HV5 := Lib.hid (HVi.out.below hb)
            clear hs5 hb HFD q z0 z1 z2 z3 z4 z5
            obtain ⟨z0, z1, z2, z3, z4, z5⟩ := (HBX.out.below (below_then HB0r.out HB0r.out.size HB5.out)).at_
            go_wp2_with fail
            refine (dtoks_any GG w5 s p x0 L HSo.out (by rw [HL.out]; omega)).mono ?_
            rw [HL.out]
            rintro e w6 ⟨A6, c6, rfl, ho6, hb⟩
            obtain ⟨Ax, cx, hvx, hcx, hCx⟩ := ho6.reads_n HL.out
            injection hvx with h1 h2 h3
            clear h2
            subst h1 h3
            obtain ⟨Ay, cy, hvy, hcy6, hCy⟩ := (HV5.out.below hb).reads_n HL.out
            injection hvy with h1 h2 h3
            clear h2
            subst h1 h3
            have HSA := Lib.hid (isame_any A6 Av c6 cv L L w6 hCx hCy (by rw [HL.out]; exact hcx) (by rw [HL.out]; exact hcy6) (by rw [HL.out]; omega) (by rw [HL.out]; omega))
            rw [HL.out, decide_eq_true rfl] at HSA
            have HB6 := Lib.hid hb
            clear hb ho6 hCx hCy hcx hcy6
            go_wp2_with fail
            refine HSA.out.mono ?_
            rintro e w7 ⟨rfl, hd⟩
            have HB57 := Lib.hid (below_then HB6.out HB6.out.size hd.below)
            have HS7 := Lib.hid (HS5.out.below HB57.out)
            have HV7 := Lib.hid (HV5.out.below HB57.out)
            have HBr7 := Lib.hid (below_then HB5.out HB5.out.size HB57.out)
            have HB37 := Lib.hid (below_then HBi.out HBi.out.size HBr7.out)
            have HLT := Lib.hid (fun k (hk : (Value.slice Av P cv).ownBlock = some k) => Own.lt HVi.out k hk)
            have HNV := Lib.hid (fun k (hk : (Value.slice Av P cv).ownBlock = some k) (hf : FU GG (Bt wr.heap.size w5.heap.size) k) => by
              rcases hf with hf | hf
              · exact HNi.out k hk hf
              · have h1 := HLT.out k hk; have h2 := hf.1; omega)
            have hP9 : P ≤ 1000000 := by omega
            clear hd HSA
            go_wp2_with (at_builtin; refine own_append_at (w0 := W2) w7 _ W2.heap.size rfl _ _ 25 3 rfl Tryz.underlying25 infoInt (.slice Av P cv) L t w7.heap.size (by rfl) (by rfl) rfl rfl HV7.out HB37.out HB37.out.size (by rw [HL.out]; exact hP9) ?_; intro v8 w8 ho8 hb8 hg8 hat8; have HO8 := Lib.hid ho8; have HS8 := Lib.hid (HS7.out.grown hg8 (fun k hf he => HNV.out k he.symm hf)); have HN8 := Lib.hid (show ∀ k, v8.ownBlock = some k → ¬ FU GG (Bt wr.heap.size w5.heap.size) k from fun k hk hf => by
              rcases hat8 with h | ⟨b, h, hle⟩
              · exact HNV.out k (h ▸ hk) hf
              · rw [h] at hk; injection hk with hk; have := HS7.out.2 k hf; omega); have HB8 := Lib.hid hb8; clear ho8 hb8 hg8 hat8)
            go_roundw
            case rel => exact ⟨i + 1, s5, P + 1, L ++ [t], _, _, rfl, rfl, by go_num, by omega, by omega, by omega, by rw [List.length_append, HL.out]; rfl, HS8, HO8, HN8, HB8⟩
            case measure => simp [intOf]; omega
          · have HFD := Lib.hid (dfeed_arg GG wr s p x0 (HMo.out _ HB1r.out) L HSi.out (by rw [HL.out]; omega) t hbad)
            unfold FeedN at HFD
            go_wp2_with fail
            refine HFD.out.mono ?_
            rintro e w5 ⟨rfl, hb⟩
            have HB5 := Lib.hid hb
            have HSo := Lib.hid (HSi.out.below hb)
            have HV5 := Lib.hid (HVi.out.below hb)
            have HB35 := Lib.hid (below_then HBi.out HBi.out.size hb)
            clear hb HFD q z0 z1 z2 z3 z4 z5
            obtain ⟨z0, z1, z2, z3, z4, z5⟩ := (HBX.out.below (below_then HB0r.out HB0r.out.size HB5.out)).at_
            by_cases t0 : t < 0
            · go_wp2_with fail
              go_roundw
              case rel => exact ⟨i + 1, s, P, L, _, _, rfl, rfl, by go_num, by omega, by omega, by omega, HL.out, HSo, HV5, HNi, HB35⟩
              case measure => simp [intOf]; omega
            · have t1 : x0.vocab ≤ t := by omega
              go_wp2_with fail
              go_roundw
              case rel => exact ⟨i + 1, s, P, L, _, _, rfl, rfl, by go_num, by omega, by omega, by omega, HL.out, HSo, HV5, HNi, HB35⟩
              case measure => simp [intOf]; omega
        · have HNX := Lib.hid (dnext_any GG wr s p x0 HOK.out (HMo.out _ HB1r.out) L HSi.out (by rw [HL.out]; omega) (by rw [HL.out]; omega) a2)
          have HTD := Lib.hid (fun (W : World) (hx : (Kd.int .i64).C W Av L.length L) => told_any x0 HOK.out Av cv L a2 W hx (by rw [HL.out]; omega) (by rw [HL.out]; omega))
          obtain ⟨r, hr⟩ : ∃ r, dNx x0 L a2 = r := ⟨_, rfl⟩
          rw [hr] at HNX HTD
          rw [HCV.out, HL.out] at HTD
          clear hr
          go_wp2_with fail
          refine HNX.out.mono ?_
          rintro e w5 ⟨rfl, hb⟩
          have HB5 := Lib.hid hb
          have HS5 := Lib.hid (HSi.out.below hb)
          have HV5 := Lib.hid (HVi.out.below hb)
          clear hb z0 z1 z2 z3 z4 z5
          obtain ⟨z0, z1, z2, z3, z4, z5⟩ := (HBX.out.below (below_then HB0r.out HB0r.out.size HB5.out)).at_
          have HTD5 := Lib.hid (HTD.out w5 (by obtain ⟨A', c', e', -, hC⟩ := HV5.out.reads_n HL.out; injection e' with e1 e2 e3; rw [e1, ← HL.out]; rw [HL.out] at hC; rw [HL.out]; exact hC))
          clear HTD HNX
          go_wp2_with fail
          refine HTD5.out.mono ?_
          rintro e w6 ⟨rfl, hb⟩
          have HB6 := Lib.hid (below_then HB5.out HB5.out.size hb)
          have HS6 := Lib.hid (HS5.out.below hb)
          have HV6 := Lib.hid (HV5.out.below hb)
          clear hb z0 z1 z2 z3 z4 z5 HTD5
          go_wp2_with fail
          refine (dtoks_any GG w6 s p x0 L HS6.out (by rw [HL.out]; omega)).mono ?_
          rw [HL.out]
          rintro e w7 ⟨A6, c6, rfl, ho6, hb⟩
          obtain ⟨Ax, cx, hvx, hcx, hCx⟩ := ho6.reads_n HL.out
          injection hvx with h1 h2 h3
          clear h2
          subst h1 h3
          obtain ⟨Ay, cy, hvy, hcy6, hCy⟩ := (HV6.out.below hb).reads_n HL.out
          injection hvy with h1 h2 h3
          clear h2
          subst h1 h3
          have HSA := Lib.hid (isame_any A6 Av c6 cv L L w7 hCx hCy (by rw [HL.out]; exact hcx) (by rw [HL.out]; exact hcy6) (by rw [HL.out]; omega) (by rw [HL.out]; omega))
          rw [HL.out, decide_eq_true rfl] at HSA
          have HB7 := Lib.hid (below_then HB6.out HB6.out.size hb)
          have HS7 := Lib.hid (HS6.out.below hb)
          clear hb ho6 hCx hCy hcx hcy6
          go_wp2_with fail
          refine HSA.out.mono ?_
          rintro e w8 ⟨rfl, hd⟩
          have HB8 := Lib.hid (below_then HB7.out HB7.out.size hd.below)
          have HLN := Lib.hid (dlen_any GG w8 s p x0 L (HS7.out.below hd.below))
          rw [HL.out] at HLN
          clear hd HSA
          go_wp2_with fail
          refine HLN.out.mono ?_
          rintro e wq ⟨rfl, hw⟩
          replace hw := hw.symm
          subst hw
          go_wp2_with fail
          refine (alive12_any _).mono ?_
          rintro e w9 ⟨rfl, hb⟩
          have HE := Lib.hid (below_then HBE.out HBE.out.size (below_then HB0r.out HB0r.out.size (below_then HB8.out HB8.out.size hb)))
          clear hb
          go_wp2_with fail
          go_ret
          exact ⟨rfl, HE.out⟩
  · have HNB := Lib.hid (new_bad x0 hok W0)
    rw [HCV.out] at HNB
    clear hok
    go_enter Tryz.func4, Tryz.ntmps4
    go_wp2_with fail
    try rw [HG.out]
    rw [HW.out]
    refine HNB.out.mono ?_
    unfold NewNo
    rintro e W1 ⟨rfl, hb⟩
    have HB1 := Lib.hid (below_then HBE.out HBE.out.size hb)
    clear hb z0 z1 z2 z3 z4 z5
    go_wp2_with fail
    refine (alive12_any _).mono ?_
    rintro e W2 ⟨rfl, hb⟩
    have HE := Lib.hid (below_then HB1.out HB1.out.size hb)
    clear hb
    go_wp2_with fail
    go_ret
    exact ⟨rfl, HE.out⟩

set_option maxRecDepth 100000 in
theorem lifted (os : Os) (started : os.Started) (H : Type) (enc : TypeId × Value → H) :
    ReturnsInHanded {} Tryz.checked os 4 .any (Rows.decodeNextsSpec.pre6 enc Tryz.prog Tryz.f4 Rows.decodeNextsRow.domain false) (Rows.decodeNextsSpec.post enc Tryz.prog Tryz.f4 false true false false) := by
  refine returnsInHanded_of_change (C := Tryz.checked) own started (by kernel_rfl) Tryz.func4
    (ChangeSpec.witness6 (enc := enc) (C := Tryz.checked) false ⟨#[], #[.agg #[.int .u64 0, .int .i64 0, .int .i64 0, .int .i64 0, .int .i64 0, .int .i64 0], .slice none 0 0, .int .u64 0], []⟩ 8 (by kernel_rfl) (by kernel_rfl) (by kernel_rfl) (by kernel_rfl)) ?_
  intro W base args ds gs before hval0 hW hcnd _
  have hval : ∀ (j : Nat) t v, Tryz.f4.params[j]? = some t → args[j]? = some v → Value.okWide Tryz.prog W .any base t v := hval0
  have hW' := hW
  obtain ⟨p, q, hA0, hV, rfl, hfz, hnd⟩ := hW
  have hA : DataW.TrodAll enc Tryz.prog W 0 (fun _ => true) true Tryz.f4.params.toList args.toList ds p := hA0
  rw [Tryz.params4] at hA hval
  obtain ⟨v0, vs0, d0, ds0, p0, q0, hargs, rfl, rfl, h0, r0⟩ := trodAll_cons hA
  obtain ⟨v1, vs1, d1, ds1, p1, q1, rfl, rfl, rfl, h1, r1⟩ := trodAll_cons r0
  obtain ⟨v2, vs2, d2, ds2, p2, q2, rfl, rfl, rfl, h2, r2⟩ := trodAll_cons r1
  obtain ⟨rfl, rfl, rfl⟩ := trodAll_nil r2
  obtain rfl : args = #[v0, v1, v2] := by cases args; simp_all
  obtain ⟨rfl, rfl⟩ := trodVars_none hV
  have k0 := h0
  have lt0 : ∀ x ∈ p0, x.block < W.heap.size := by obtain ⟨m, hm⟩ := k0; exact DataW.trod_lt m _ _ _ hm
  obtain ⟨cs0, rfl, _⟩ := okWide_struct Tryz.underlying24 (hval 0 24 v0 rfl rfl)
  obtain ⟨x0, y0, g0⟩ : ∃ x, KCfg.K W x cs0.toList ∧ (CfgW) x := by obtain ⟨m, hm⟩ := k0; exact op_cfg _ _ _ m _ _ hm
  have k1 := h1
  have lt1 : ∀ x ∈ p1, x.block < W.heap.size := by obtain ⟨m, hm⟩ := k1; exact DataW.trod_lt m _ _ _ hm
  obtain ⟨a1, len1, cap1, rfl⟩ := okWide_slice Tryz.underlying25 (hval 1 25 v1 rfl rfl)
  obtain ⟨x1, y1, g1⟩ : ∃ x, KInts.K W x [.slice a1 len1 cap1] ∧ (fun xs => (∀ x ∈ xs, (Lit.int .i64 x).wf = true) ∧ xs.length ≤ maxLen) x := by obtain ⟨m, hm⟩ := k1; exact op_ints _ _ _ m _ _ hm
  have k2 := h2
  have lt2 : ∀ x ∈ p2, x.block < W.heap.size := by obtain ⟨m, hm⟩ := k2; exact DataW.trod_lt m _ _ _ hm
  obtain ⟨a2, rfl, rfl, rfl, g2⟩ := open_int Tryz.underlying22 (hval 2 22 v2 rfl rfl) h2
  clear hA0 hval0
  refine (walk cs0 x0 a1 len1 cap1 x1 a2 W y0 g0 y1 g1 g2).mono fun e W' ⟨he, bel⟩ => ?_
  subst he
  exact ⟨_, rfl, _, _, _, [], _, [], hW', trodAll_mk1 (shut_bool Tryz.underlying4 _), (trodAll_cons_mk (Below.trod laidOut (by kernel_rfl) (of_decide_eq_true (by kernel_rfl)) k0 bel lt0) (trodAll_cons_mk (Below.trod laidOut (by kernel_rfl) (of_decide_eq_true (by kernel_rfl)) k1 bel lt1) (trodAll_cons_mk (Below.trod laidOut (by kernel_rfl) (of_decide_eq_true (by kernel_rfl)) k2 bel lt2) trodAll_mk0))), rfl, bel.frame _, fun h => by cases h⟩

theorem over : Rows.decodeNextsRow.holds Tryz.pinned (OpenSpec.ofChange Rows.decodeNextsSpec) :=
  OpenClaim.holds_of_wide 4 Tryz.f4 rfl rfl rfl rfl rfl rfl rfl ⟨rfl, rfl, rfl, rfl, rfl⟩ rfl rfl rfl rfl rfl (by kernel_rfl) Tryz.func4 (by kernel_rfl)
    (of_decide_eq_true (by kernel_rfl)) (by unfold Func.isWrapper; first | (rw [if_pos (by decide +kernel)]; kernel_rfl) | (rw [if_neg (by decide +kernel)]; exact ⟨rfl, rfl⟩))
    (fun os started H enc _ => lifted os started H enc)

theorem proved : Rows.DecodeNextsSaid := over
end Go.Proofs.YtdfgmdmcdnnhfaaGreat.decodeNexts
