/- There are never more than Streams, nor more than Each of a session; no stream is taken twice; what is refused turns nothing. -/
import Derived.Test.YtmbhicjjbgbneaaRows
import Derived.WalkKit
import Derived.ProofKit
import Derived.OpenShut
import Derived.ShutString
import Derived.ChangeOld
import Derived.Below
import Derived.Test.YtmbhicjjbgbneaaOpn
import Derived.Test.YtmbhicjjbgbneaaAdI
import Derived.Deep.DeepCutAuto
import Derived.Deep.CutBlock
import Derived.Deep.RegionHeld3
namespace Go.Proofs.Ytmbhicjjbgbneaa.admitRooms
open Go.ChangeShapes Go.WideShapes Go.ChangeAt Go.RowKit
open Go.ChangeMaps (open_string shut_string)
set_option linter.unusedVariables false
set_option linter.unusedSimpArgs false
open Go.Proofs.YtmbhicjjbgbneaaW.PrintWords Go.Proofs.YtmbhicjjbgbneaaW.PrintLast Go.Proofs.YtmbhicjjbgbneaaW.PrintMore

theorem own : ownKnob Try.prog.godebug = none := by kernel_rfl
theorem laidOut : laidOutB Try.prog = true := by kernel_rfl

set_option maxRecDepth 100000
theorem slice_came {α : Type} {e : Nat} {d : Kd α} {w : World} {a : Option Addr} {len cap : Nat} {xs : List α} (h : (Kd.slice e d).K w xs [.slice a len cap]) : len = xs.length ∧ xs.length ≤ cap ∧ d.C w a xs.length xs := by
  obtain ⟨A, c, he, hl, hC⟩ := h
  simp only [List.cons.injEq, Value.slice.injEq, and_true] at he
  obtain ⟨rfl, rfl, rfl⟩ := he
  exact ⟨rfl, hl, hC⟩
/-- The table, what was met, the setting's box; all from base on. -/
structure RB (base : Nat) (st : TSet) (g p mA mP mm : Nat) (all : List (Int × Int)) (past : List Int) (M : List (Int × Bool)) (wr : World) : Prop where
  tab : AT wr base p mA mP st all past
  met : IsMp (Value.int .u64) wr mm (encB M)
  box : wr.heap[g]? = some (.cells st.box 26 (0, 0))
  ne : mm ≠ mA ∧ mm ≠ mP
section
variable {base : Nat} {st : TSet} {g p mA mP mm : Nat} {all all2 : List (Int × Int)} {past past2 : List Int} {M M2 : List (Int × Bool)} {wr w2 : World}
theorem RB.below (h : RB base st g p mA mP mm all past M wr) (hb : Below wr.heap.size wr w2) : RB base st g p mA mP mm all past M w2 := ⟨h.tab.below hb, h.met.below hb, blk_below h.box hb, h.ne⟩
theorem RB.mfa (h : RB base st g p mA mP mm all past M wr) : ¬ FA wr base p mA mP mm := by
  obtain ⟨es, cl, hm, -⟩ := h.met
  exact fa_map h.tab hm h.ne.1 h.ne.2
theorem RB.gfa (h : RB base st g p mA mP mm all past M wr) : ¬ FA wr base p mA mP g := fa_box h.tab h.box (by decide) (by decide)
theorem RB.turn (h : RB base st g p mA mP mm all past M wr) (ht : AT w2 base p mA mP st all2 past2) (hn : Tn (FA wr base p mA mP) wr w2) : RB base st g p mA mP mm all2 past2 M w2 := ⟨ht, h.met.move (hn.block mm h.met.lt h.mfa), (hn.block g (blk_lt h.box) h.gfa).trans h.box, h.ne⟩
theorem RB.put (h : RB base st g p mA mP mm all past M wr) (hm : IsMp (Value.int .u64) w2 mm (encB M2)) (hg : wr.grownBy w2 (some mm)) : RB base st g p mA mP mm all past M2 w2 := by
  obtain ⟨es, cl, hmm, -⟩ := h.met
  exact ⟨h.tab.grown hg h.mfa, hm, (hg.block g (blk_lt h.box) (fun e => by injection e with e; subst e; have := h.box; rw [hmm] at this; cases this)).trans h.box, h.ne⟩
end
def RI (w : World) (st : TSet) (g p mA mP mm i : Nat) (wr : World) : Prop := ∃ all past M, RB w.heap.size st g p mA mP mm all past M wr ∧ AI st all past ∧ MetOk M all past ∧ past.length ≤ i ∧ w.heap.size ≤ mm ∧ Below w.heap.size w wr
set_option maxHeartbeats 4000000 in
theorem walk (cs0 : Array Value) (x0 : TSet) (a1 : Option Addr) (len1 cap1 : Nat) (x1 : List AStepV) (w : World) (k0 : KSt.K w x0 cs0.toList) (gd0 : (StW) x0) (k1 : (Kd.slice 46 KAStep).K w x1 [.slice a1 len1 cap1]) (gd1 : (fun xs => (∀ x ∈ xs, AStepG x) ∧ xs.length ≤ maxLen) x1) :
    Calls Try.prog 4 #[.agg cs0, .slice a1 len1 cap1] w fun e w' => e = .returned (.bool true) ∧ Below w.heap.size w w' := by
  obtain rfl := st_cells k0
  obtain ⟨rfl, hcx, hx⟩ := slice_came k1
  obtain ⟨hgd, hml⟩ := gd1
  have HX := Lib.hid (fun (W' : World) (hb : Below w.heap.size w W') => Kd.C_below hx hb)
  have HGD := Lib.hid hgd
  have HSHO := Lib.hid (fun (W' : World) => short26_any a1 x1.length cap1 hcx W')
  have HFA := Lib.hid (fun (W' : World) (hb : Below w.heap.size w W') => far26_any a1 x1 cap1 W' (HX.out W' hb) hcx)
  obtain ⟨N, hN⟩ : ∃ N, x1.length = N := ⟨_, rfl⟩
  rw [hN] at hcx HSHO HFA ⊢
  have HN := Lib.hid hN
  obtain ⟨Mn, hM⟩ : ∃ M, min N 300 = M := ⟨_, rfl⟩
  rw [hM] at HSHO
  have hMN : Mn ≤ N := by omega
  have hM2 : Mn ≤ 300 := by omega
  obtain ⟨fb, hfb⟩ : ∃ b, decide (10000 < farA (x1.take 300)) = b := ⟨_, rfl⟩
  rw [hfb] at HFA
  have HTH := Lib.hid (fun W' => theirs26_any x0 W')
  have HNEW := Lib.hid (fun W' (h : x0.ok) => at_new W' x0 h)
  have HBAD := Lib.hid (fun W' (h : ¬ x0.ok) => adnew_bad W' x0 h)
  have HVV := Lib.hid (show x0.v = .agg #[.int .u64 x0.seed, .int .i64 x0.vocab, .int .i64 x0.dim, .int .i64 x0.layers, .int .i64 x0.top, .int .i64 x0.heat, .int .i64 x0.streams, .int .i64 x0.each, .int .i64 x0.prompt, .int .i64 x0.most] from rfl)
  rw [HVV.out] at HTH HNEW HBAD
  have hb0 := below_alloc (Below.refl w.heap.size w) (.cells #[.int .u64 x0.seed, .int .i64 x0.vocab, .int .i64 x0.dim, .int .i64 x0.layers, .int .i64 x0.top, .int .i64 x0.heat, .int .i64 x0.streams, .int .i64 x0.each, .int .i64 x0.prompt, .int .i64 x0.most] 26)
  have hk0 := heap_alloc_new w (.cells #[.int .u64 x0.seed, .int .i64 x0.vocab, .int .i64 x0.dim, .int .i64 x0.layers, .int .i64 x0.top, .int .i64 x0.heat, .int .i64 x0.streams, .int .i64 x0.each, .int .i64 x0.prompt, .int .i64 x0.most] 26)
  obtain ⟨W0, hW0⟩ : ∃ W0, w.alloc (.cells #[.int .u64 x0.seed, .int .i64 x0.vocab, .int .i64 x0.dim, .int .i64 x0.layers, .int .i64 x0.top, .int .i64 x0.heat, .int .i64 x0.streams, .int .i64 x0.each, .int .i64 x0.prompt, .int .i64 x0.most] 26) = W0 := ⟨_, rfl⟩
  obtain ⟨g, hg⟩ : ∃ g, w.heap.size = g := ⟨_, rfl⟩
  rw [hW0] at hb0 hk0
  rw [hg] at hk0
  have z0 := blk_cell hk0 0
  have z1 := blk_cell hk0 1
  have z2 := blk_cell hk0 2
  have z3 := blk_cell hk0 3
  have z4 := blk_cell hk0 4
  have z5 := blk_cell hk0 5
  have z6 := blk_cell hk0 6
  have z7 := blk_cell hk0 7
  have z8 := blk_cell hk0 8
  have z9 := blk_cell hk0 9
  have HB0 := Lib.hid hb0
  have HK0 := Lib.hid hk0
  have HG := Lib.hid hg
  have HW0 := Lib.hid hW0
  have hmk := @run_makeMap Try.prog
  clear k0 k1 gd0 hgd hx hN hM hml hb0 hk0 hfb
  go_enter Try.func4, Try.ntmps4
  go_wp2_with fail
  clear hW0 hg
  refine (HTH.out _).mono ?_
  rintro e w1 ⟨rfl, hb⟩
  have HB1 := Lib.hid (below_then HB0.out HB0.out.size hb)
  have HK1 := Lib.hid (blk_below HK0.out hb)
  clear hb z0 z1 z2 z3 z4 z5 z6 z7 z8 z9 HK0
  go_wp2_with fail
  by_cases hok : x0.ok
  · have HOK := Lib.hid hok
    refine (HNEW.out w1 hok).mono ?_
    rintro e w2 ⟨p, mA, mP, rfl, hT, hlt, hb⟩
    have HB2 := Lib.hid (below_then HB1.out HB1.out.size hb)
    have HK2 := Lib.hid (blk_below HK1.out hb)
    have HT2 := Lib.hid hT
    have HLT := Lib.hid hlt
    clear hb hT hlt hok HK1
    have HFB := Lib.hid (HFA.out w2 HB2.out)
    go_wp2_with fail
    refine HFB.out.mono ?_
    rintro e w3 ⟨rfl, hb⟩
    have HB3 := Lib.hid (below_then HB2.out HB2.out.size hb)
    have HK3 := Lib.hid (blk_below HK2.out hb)
    have HT3 := Lib.hid (HT2.out.below hb)
    have HS3 := Lib.hid (show p < w3.heap.size ∧ mA < w3.heap.size ∧ mP < w3.heap.size by have := HLT.out; have := hb.size; omega)
    clear hb HT2 HK2 HFB
    cases fb with
    | true =>
      go_wp2_with fail
      refine (alive26_any _).mono ?_
      rintro e w4 ⟨rfl, hb⟩
      have HE := Lib.hid (below_then HB3.out HB3.out.size hb)
      clear hb
      go_wp2_with fail
      go_ret
      exact ⟨rfl, HE.out⟩
    | false =>
      have hb4 := below_alloc (Below.refl w3.heap.size w3) (.map #[] 0)
      have hm4 := IsMp.made (Value.int .u64) w3
      obtain ⟨w4, hw4⟩ : ∃ w4, w3.alloc (.map #[] 0) = w4 := ⟨_, rfl⟩
      obtain ⟨mm, hmm⟩ : ∃ m, w3.heap.size = m := ⟨_, rfl⟩
      rw [hw4] at hb4 hm4
      rw [hmm] at hm4
      have HI := Lib.hid (show RI w x0 g p mA mP mm 0 w4 from
        ⟨[], [], [], ⟨by
          obtain ⟨lv, h1, h2, h3, h4, h5⟩ := HT3.out.below hb4
          have h6 := HB1.out.size
          exact ⟨lv, h1, h2.weak h6, Nat.le_trans h6 h3, Nat.le_trans h6 h4, Nat.le_trans h6 h5⟩, hm4, blk_below HK3.out hb4, by have := HS3.out; omega⟩, ai_new x0 HOK.out, fun k => by simp [metV, mlook, mkeys], Nat.le_refl _, by rw [← hmm]; exact HB3.out.size, below_then HB3.out HB3.out.size hb4⟩)
      clear hb4 hm4
      go_wp2_with fail
      clear hw4 hmm hmk
      refine (HSHO.out w4).mono ?_
      rintro e w' ⟨rfl, rfl⟩
      go_wp2_with fail
      go_loopw [37] (fun s37 wr => ∃ (i : Nat), s37 = .int .i64 i ∧ i ≤ Mn ∧ Hid (RI w x0 g p mA mP mm i wr)) (fun s _ => Mn - (intOf s).toNat)
      case atStart => exact ⟨0, rfl, by omega, HI⟩
      case round =>
        obtain ⟨i, rfl, hi, HIr⟩ := hrel
        obtain ⟨all, past, M, hR, hA, hMo, hpl, hmm, hbr⟩ := HIr.out
        have HR := Lib.hid hR
        have HA := Lib.hid hA
        have HMO := Lib.hid hMo
        have HMM := Lib.hid hmm
        have HBr := Lib.hid hbr
        have hst64 := HOK.out.2.1
        have hroom := hA.room
        obtain ⟨na, hna⟩ : ∃ n, all.length = n := ⟨_, rfl⟩
        rw [hna] at hroom
        have hna64 : na ≤ 64 := by omega
        have HNA := Lib.hid hna
        clear hR hA hMo hmm hbr HIr HI hna hroom hst64
        by_cases hiM : i < Mn
        · obtain ⟨ad, x, A, c, rfl, hxi, hxm, hxc, hxC, q0, q1, q2, q3, q4, q5⟩ := asteps_at (HX.out wr HBr.out) i (by rw [HN.out]; omega)
          have hg8 := HGD.out x hxm
          obtain ⟨kd, s, u, sd, xs, most⟩ := x
          dsimp only at hxc hxC q0 q1 q2 q3 q4 q5
          have hk : 0 ≤ kd ∧ kd ≤ 255 := by
            have h := hg8.1
            change (decide ((0 : Int) ≤ kd) && decide (kd ≤ (255 : Int))) = true at h
            simpa using h
          obtain ⟨n, hn⟩ : ∃ n, xs.length = n := ⟨_, rfl⟩
          rw [hn] at hxc q4
          have HXC := Lib.hid (fun (W' : World) (hb : Below wr.heap.size wr W') => Kd.C_below hxC hb)
          have HXN := Lib.hid hn
          clear hxi hxm hxC hg8 hn
          obtain ⟨W5, hW5⟩ : ∃ W5, wr.alloc (.cells #[.int .u8 kd, .int .u64 s, .int .u64 u, .int .u64 sd, .slice A n c, .int .i64 most] 46) = W5 := ⟨_, rfl⟩
          obtain ⟨zb, hzb⟩ : ∃ b, wr.heap.size = b := ⟨_, rfl⟩
          have hb5 := below_alloc (Below.refl wr.heap.size wr) (.cells #[.int .u8 kd, .int .u64 s, .int .u64 u, .int .u64 sd, .slice A n c, .int .i64 most] 46)
          have hk5 := heap_alloc_new wr (.cells #[.int .u8 kd, .int .u64 s, .int .u64 u, .int .u64 sd, .slice A n c, .int .i64 most] 46)
          rw [hW5] at hb5 hk5
          rw [hzb] at hk5
          have HW5 := Lib.hid (below_then HBr.out HBr.out.size hb5)
          have HR5 := Lib.hid (HR.out.below hb5)
          have HX5 := Lib.hid (fun (W' : World) (hb : Below W5.heap.size W5 W') => HXC.out W' (below_then hb5 hb5.size hb))
          have HZ5 := Lib.hid hk5
          have HST := Lib.hid (at_streams HR5.out.tab na HNA.out (by omega))
          clear hb5 hk5 HXC
          go_wp2_with fail
          clear hW5 hzb q0 q1 q2 q3 q4 q5
          refine HST.out.mono ?_
          rintro e w6 ⟨A6, c6, rfl, hb6⟩
          have HW6 := Lib.hid (below_then HW5.out HW5.out.size hb6)
          have HR6 := Lib.hid (HR5.out.below hb6)
          have HX6 := Lib.hid (fun (W' : World) (hb : Below w6.heap.size w6 W') => HX5.out W' (below_then hb6 hb6.size hb))
          have HZ6 := Lib.hid (blk_below HZ5.out hb6)
          clear hb6 HR5 HX5 HZ5 HST
          have y0 := blk_cell HZ6.out 0
          have y1 := blk_cell HZ6.out 1
          have y2 := blk_cell HZ6.out 2
          have y3 := blk_cell HZ6.out 3
          have y4 := blk_cell HZ6.out 4
          have y5 := blk_cell HZ6.out 5
          by_cases hk3 : kd % 3 = 1
          · -- Over
            cases hs : mlook all s with
            | none =>
              have HOV := Lib.hid (at_over_none HR6.out.tab s hs)
              have HE := Lib.hid (show RI w x0 g p mA mP mm (i + 1) w6 from ⟨all, past, M, HR6.out, HA.out, HMO.out, by omega, HMM.out, HW6.out⟩)
              clear hs
              go_wp2_with fail
              refine HOV.out.mono ?_
              rintro e w' ⟨rfl, rfl⟩
              go_wp2_with fail
              go_roundw
              case rel => exact ⟨i + 1, by go_num, by omega, HE⟩
              case measure => simp [intOf]; omega
            | some v =>
              have hsm := look_some_mem hs
              have hbs := HW6.out.size
              have HOV := Lib.hid (at_over HR6.out.tab hbs s v hs (HA.out.dis s hsm) (by omega))
              have hmv : metV M s = true := (HMO.out s).2 (.inl hsm)
              have HMV := Lib.hid hmv
              have HA2 := Lib.hid (HA.out.over hs)
              have HMO2 := Lib.hid (HMO.out.over HA.out.nd hs)
              have hln : (mdel all s).length = na - 1 := by rw [mdel_len, hs, HNA.out]; rfl
              have hna1 : 1 ≤ na := by
                have : 0 < all.length := by
                  rcases all with _ | ⟨x, l⟩
                  · cases hs
                  · simp
                rw [HNA.out] at this; exact this
              have HLN := Lib.hid hln
              clear hs hsm hbs hmv hln
              go_wp2_with fail
              refine HOV.out.mono ?_
              rintro e w7 ⟨rfl, ht7, hn7⟩
              have HR7 := Lib.hid (HR6.out.turn ht7 hn7)
              have HW7 := Lib.hid (HW6.out.trans (hn7.below HR6.out.tab.fa HW6.out.size))
              have HZ7 := Lib.hid ((hn7.block zb (blk_lt HZ6.out) (fa_box HR6.out.tab HZ6.out (by decide) (by decide))).trans HZ6.out)
              clear ht7 hn7 y0 y1 y2 y3 y4 y5
              have y1 := blk_cell HZ7.out 1
              have hrm := run_met HR7.out.met s
              rw [HMV.out] at hrm
              have HST := Lib.hid (at_streams HR7.out.tab (na - 1) HLN.out (by omega))
              have hcn : ((na - 1 : Nat) : Int) = (na : Int) - 1 := by omega
              go_wp2_with fail
              refine HST.out.mono ?_
              rintro e w8 ⟨A8, c8, rfl, hb8⟩
              have HE := Lib.hid (show RI w x0 g p mA mP mm (i + 1) w8 from ⟨_, _, M, HR7.out.below hb8, HA2.out, HMO2.out, by rw [List.length_append, List.length_singleton]; omega, HMM.out, below_then HW7.out HW7.out.size hb8⟩)
              clear hb8 hrm y1
              go_wp2_with fail
              go_roundw
              case rel => exact ⟨i + 1, by go_num, by omega, HE⟩
              case measure => simp [intOf]; omega
          · -- Ask, Take
            have hk3d : (kd % 3 == 1) = false := by simpa using hk3
            have HASK := Lib.hid (at_ask HR6.out.tab (by rw [HNA.out]; omega) s u sd most A c xs (HX6.out _ (Below.refl _ _)))
            obtain ⟨R, hR⟩ : ∃ R, askV x0 all past s u xs.length (decide (Jok x0.cfg xs most)) most = R := ⟨_, rfl⟩
            have HRR := Lib.hid hR
            rw [hR, HXN.out] at HASK
            clear hR
            go_wp2_with fail
            refine HASK.out.mono ?_
            rintro e w7 ⟨rfl, hb7⟩
            have HW7 := Lib.hid (below_then HW6.out HW6.out.size hb7)
            have HR7 := Lib.hid (HR6.out.below hb7)
            have HX7 := Lib.hid (fun (W' : World) (hb : Below w7.heap.size w7 W') => HX6.out W' (below_then hb7 hb7.size hb))
            have HZ7 := Lib.hid (blk_below HZ6.out hb7)
            clear hb7 y0 y1 y2 y3 y4 y5 HASK HR6 HX6 HZ6
            have y1 := blk_cell HZ7.out 1
            have y2 := blk_cell HZ7.out 2
            have y3 := blk_cell HZ7.out 3
            have y4 := blk_cell HZ7.out 4
            have y5 := blk_cell HZ7.out 5
            have HTK := Lib.hid (at_take HR7.out.tab (by rw [HNA.out]; omega) s u sd most A c xs (HX7.out _ (Below.refl _ _)))
            rw [HRR.out, HXN.out] at HTK
            go_wp2_with fail
            refine HTK.out.mono ?_
            rintro e w8 ⟨rfl, ht8, hn8⟩
            have HT8 := Lib.hid ht8
            have HN8 := Lib.hid hn8
            have HW8 := Lib.hid (HW7.out.trans (hn8.below HR7.out.tab.fa HW7.out.size))
            have HZ8 := Lib.hid ((hn8.block zb (blk_lt HZ7.out) (fa_box HR7.out.tab HZ7.out (by decide) (by decide))).trans HZ7.out)
            clear ht8 hn8 y1 y2 y3 y4 y5 HTK HX7 HZ7
            have y1 := blk_cell HZ8.out 1
            have y2 := blk_cell HZ8.out 2
            by_cases h0 : R = 0
            · as_aux_lemma =>
              subst h0
              rw [if_pos rfl] at HT8
              have hz := ask_zero HRR.out
              have hmv : metV M s = false := by
                rw [Bool.eq_false_iff]
                intro h
                rcases (HMO.out s).1 h with h | h
                · exact mlook_none.1 hz.1 h
                · exact hz.2.1 h
              have HMV := Lib.hid hmv
              have HA2 := Lib.hid (HA.out.take HRR.out)
              have HMO2 := Lib.hid (HMO.out.take (u := u) hz.1)
              obtain ⟨nl, hnl⟩ : ∃ nl, na + 1 = nl := ⟨_, rfl⟩
              have HLN := Lib.hid (show (mput all s u).length = nl by rw [mput_len, hz.1, HNA.out, ← hnl]; rfl)
              have hnl2 : (nl : Int) = (na : Int) + 1 := by omega
              have hn64 : nl ≤ 65 := by omega
              clear hnl
              clear hz hmv
              have HR8 := Lib.hid (HR7.out.turn HT8.out HN8.out)
              have hrm := run_met HR8.out.met s
              rw [HMV.out] at hrm
              have HST := Lib.hid (at_streams HR8.out.tab nl HLN.out (by omega))
              go_wp2_with fail
              refine HST.out.mono ?_
              rintro e w9 ⟨A9, c9, rfl, hb9⟩
              have HW9 := Lib.hid (below_then HW8.out HW8.out.size hb9)
              have HR9 := Lib.hid (HR8.out.below hb9)
              have HZ9 := Lib.hid (blk_below HZ8.out hb9)
              clear hb9 y1 y2 hrm HST
              have y1 := blk_cell HZ9.out 1
              have hrm := run_met HR9.out.met s
              rw [HMV.out] at hrm
              obtain ⟨w10, hput, hmp, hgr, -⟩ := run_mput (P := Try.prog) Try.underlying53 (key_int Try.underlying22) HR9.out.met s (.bool true)
              rw [encB_put] at hmp
              have HR10 := Lib.hid (HR9.out.put hmp hgr)
              have HW10 := Lib.hid (HW9.out.trans (((Tn.refl (fun k => k = mm) w9).grown hgr (.inl rfl)).below (base := w.heap.size) (fun k hk => by rw [hk]; exact HMM.out) HW9.out.size))
              have HZ10 := Lib.hid ((hgr.block zb (blk_lt HZ9.out) (fun e => by
                injection e with e
                subst e
                obtain ⟨es, cl, hmm, -⟩ := HR9.out.met
                have := HZ9.out
                rw [hmm] at this; cases this)).trans HZ9.out)
              clear hmp hgr
              have hD := below_drew (Below.refl w10.heap.size w10)
              have HRD := Lib.hid (HR10.out.below hD)
              have HST := Lib.hid (at_streams HRD.out.tab nl HLN.out (by omega))
              have HSD := Lib.hid (show w10.drew.cell? ⟨g, 6, none⟩ = some (.int .i64 x0.streams) ∧ w10.drew.cell? ⟨g, 7, none⟩ = some (.int .i64 x0.each) ∧ w10.drew.cell? ⟨zb, 2, none⟩ = some (.int .u64 u) ∧ Hid (Below w.heap.size w w10.drew) ∧ Hid (Below w10.heap.size w10 w10.drew) from
                ⟨blk_cell HRD.out.box 6, blk_cell HRD.out.box 7, blk_cell (blk_below HZ10.out hD) 2, Lib.hid (below_then HW10.out HW10.out.size hD), Lib.hid hD⟩)
              have HOF := Lib.hid (fun (W' : World) (hb : Below w10.heap.size w10 W') => at_of (HR10.out.below hb).tab u (by rw [HLN.out]; omega))
              have HC := Lib.hid (HA2.out).each
              have hcl : (cntS (encA (mput all s u)) u : Int) ≤ x0.each := HC.out u
              obtain ⟨C, hC⟩ : ∃ C, cntS (encA (mput all s u)) u = C := ⟨_, rfl⟩
              rw [hC] at HOF hcl
              have hrl : ((nl : Nat) : Int) ≤ x0.streams := by have := (HA2.out).room; rw [HLN.out] at this; exact this
              have hrl2 : decide (x0.streams < ((nl : Nat) : Int)) = false := decide_eq_false (by omega)
              clear hD hC
              have hrl3 : decide (x0.streams < (na : Int) + 1) = false := decide_eq_false (by omega)
              go_wp2_with fail
              clear y1 hrm hput
              go_region_held3 (fun w' => w'.cell? ⟨g, 6, none⟩ = some (.int .i64 x0.streams) ∧ w'.cell? ⟨g, 7, none⟩ = some (.int .i64 x0.each) ∧ w'.cell? ⟨zb, 2, none⟩ = some (.int .u64 u) ∧ Hid (Below w.heap.size w w') ∧ Hid (Below w10.heap.size w10 w'))
                (first | exact HSF.out | exact HSE.out | exact HSD.out)
                (first
                  | (go_at_call 21; refine HST.out.mono ?_; rintro e w11 ⟨A11, c11, rfl, hb11⟩; have HSE := Lib.hid (show w11.cell? ⟨g, 6, none⟩ = some (.int .i64 x0.streams) ∧ w11.cell? ⟨g, 7, none⟩ = some (.int .i64 x0.each) ∧ w11.cell? ⟨zb, 2, none⟩ = some (.int .u64 u) ∧ Hid (Below w.heap.size w w11) ∧ Hid (Below w10.heap.size w10 w11) from ⟨pw_cell_below hb11 HSD.out.1, pw_cell_below hb11 HSD.out.2.1, pw_cell_below hb11 HSD.out.2.2.1, Lib.hid (below_then HSD.out.2.2.2.1.out HSD.out.2.2.2.1.out.size hb11), Lib.hid (below_then HSD.out.2.2.2.2.out HSD.out.2.2.2.2.out.size hb11)⟩))
                  | (go_at_call 22; refine (HOF.out _ HSE.out.2.2.2.2.out).mono ?_; rintro e w12 ⟨rfl, hb12⟩; have HSF := Lib.hid (show w12.cell? ⟨g, 6, none⟩ = some (.int .i64 x0.streams) ∧ w12.cell? ⟨g, 7, none⟩ = some (.int .i64 x0.each) ∧ w12.cell? ⟨zb, 2, none⟩ = some (.int .u64 u) ∧ Hid (Below w.heap.size w w12) ∧ Hid (Below w10.heap.size w10 w12) from ⟨pw_cell_below hb12 HSE.out.1, pw_cell_below hb12 HSE.out.2.1, pw_cell_below hb12 HSE.out.2.2.1, Lib.hid (below_then HSE.out.2.2.2.1.out HSE.out.2.2.2.1.out.size hb12), Lib.hid (below_then HSE.out.2.2.2.2.out HSE.out.2.2.2.2.out.size hb12)⟩)))
              all_goals
                have HE := Lib.hid (show RI w x0 g p mA mP mm (i + 1) w12 from ⟨_, _, _, HR10.out.below HSF.out.2.2.2.2.out, HA2.out, HMO2.out, by omega, HMM.out, HSF.out.2.2.2.1.out⟩)
                go_wp2_with fail
                go_roundw
                case rel => exact ⟨i + 1, by go_num, by omega, HE⟩
                case measure => simp [intOf]; omega
            · by_cases h3 : R = 3
              · as_aux_lemma =>
                subst h3
                rw [if_neg (by omega)] at HT8
                have hmv : metV M s = true := (HMO.out s).2 (ask_three HRR.out)
                have HMV := Lib.hid hmv
                have HMO2 := Lib.hid (show MetOk (mput M s true) all past by have h := HMO.out.same s; rw [hmv] at h; exact h)
                clear hmv
                have HR8 := Lib.hid (HR7.out.turn HT8.out HN8.out)
                have hrm := run_met HR8.out.met s
                rw [HMV.out] at hrm
                have HST := Lib.hid (at_streams HR8.out.tab na HNA.out (by omega))
                go_wp2_with fail
                refine HST.out.mono ?_
                rintro e w9 ⟨A9, c9, rfl, hb9⟩
                have HW9 := Lib.hid (below_then HW8.out HW8.out.size hb9)
                have HR9 := Lib.hid (HR8.out.below hb9)
                have HZ9 := Lib.hid (blk_below HZ8.out hb9)
                clear hb9 y1 y2 hrm HST
                have y1 := blk_cell HZ9.out 1
                have hrm := run_met HR9.out.met s
                rw [HMV.out] at hrm
                obtain ⟨w10, hput, hmp, hgr, -⟩ := run_mput (P := Try.prog) Try.underlying53 (key_int Try.underlying22) HR9.out.met s (.bool true)
                rw [encB_put] at hmp
                have HR10 := Lib.hid (HR9.out.put hmp hgr)
                have HW10 := Lib.hid (HW9.out.trans (((Tn.refl (fun k => k = mm) w9).grown hgr (.inl rfl)).below (base := w.heap.size) (fun k hk => by rw [hk]; exact HMM.out) HW9.out.size))
                have HZ10 := Lib.hid ((hgr.block zb (blk_lt HZ9.out) (fun e => by
                  injection e with e
                  subst e
                  obtain ⟨es, cl, hmm, -⟩ := HR9.out.met
                  have := HZ9.out
                  rw [hmm] at this; cases this)).trans HZ9.out)
                clear hmp hgr
                have hD := below_drew (Below.refl w10.heap.size w10)
                have HRD := Lib.hid (HR10.out.below hD)
                have HST := Lib.hid (at_streams HRD.out.tab na HNA.out (by omega))
                have HSD := Lib.hid (show w10.drew.cell? ⟨g, 6, none⟩ = some (.int .i64 x0.streams) ∧ w10.drew.cell? ⟨g, 7, none⟩ = some (.int .i64 x0.each) ∧ w10.drew.cell? ⟨zb, 2, none⟩ = some (.int .u64 u) ∧ Hid (Below w.heap.size w w10.drew) ∧ Hid (Below w10.heap.size w10 w10.drew) from
                  ⟨blk_cell HRD.out.box 6, blk_cell HRD.out.box 7, blk_cell (blk_below HZ10.out hD) 2, Lib.hid (below_then HW10.out HW10.out.size hD), Lib.hid hD⟩)
                have HOF := Lib.hid (fun (W' : World) (hb : Below w10.heap.size w10 W') => at_of (HR10.out.below hb).tab u (by rw [HNA.out]; omega))
                have HC := Lib.hid (HA.out).each
                have hcl : (cntS (encA all) u : Int) ≤ x0.each := HC.out u
                obtain ⟨C, hC⟩ : ∃ C, cntS (encA all) u = C := ⟨_, rfl⟩
                rw [hC] at HOF hcl
                have hrl : ((na : Nat) : Int) ≤ x0.streams := by have := (HA.out).room; rw [HNA.out] at this; exact this
                have hrl2 : decide (x0.streams < ((na : Nat) : Int)) = false := decide_eq_false (by omega)
                clear hD hC
                go_wp2_with fail
                clear y1 hrm hput
                go_region_held3 (fun w' => w'.cell? ⟨g, 6, none⟩ = some (.int .i64 x0.streams) ∧ w'.cell? ⟨g, 7, none⟩ = some (.int .i64 x0.each) ∧ w'.cell? ⟨zb, 2, none⟩ = some (.int .u64 u) ∧ Hid (Below w.heap.size w w') ∧ Hid (Below w10.heap.size w10 w'))
                  (first | exact HSF.out | exact HSE.out | exact HSD.out)
                  (first
                    | (go_at_call 21; refine HST.out.mono ?_; rintro e w11 ⟨A11, c11, rfl, hb11⟩; have HSE := Lib.hid (show w11.cell? ⟨g, 6, none⟩ = some (.int .i64 x0.streams) ∧ w11.cell? ⟨g, 7, none⟩ = some (.int .i64 x0.each) ∧ w11.cell? ⟨zb, 2, none⟩ = some (.int .u64 u) ∧ Hid (Below w.heap.size w w11) ∧ Hid (Below w10.heap.size w10 w11) from ⟨pw_cell_below hb11 HSD.out.1, pw_cell_below hb11 HSD.out.2.1, pw_cell_below hb11 HSD.out.2.2.1, Lib.hid (below_then HSD.out.2.2.2.1.out HSD.out.2.2.2.1.out.size hb11), Lib.hid (below_then HSD.out.2.2.2.2.out HSD.out.2.2.2.2.out.size hb11)⟩))
                    | (go_at_call 22; refine (HOF.out _ HSE.out.2.2.2.2.out).mono ?_; rintro e w12 ⟨rfl, hb12⟩; have HSF := Lib.hid (show w12.cell? ⟨g, 6, none⟩ = some (.int .i64 x0.streams) ∧ w12.cell? ⟨g, 7, none⟩ = some (.int .i64 x0.each) ∧ w12.cell? ⟨zb, 2, none⟩ = some (.int .u64 u) ∧ Hid (Below w.heap.size w w12) ∧ Hid (Below w10.heap.size w10 w12) from ⟨pw_cell_below hb12 HSE.out.1, pw_cell_below hb12 HSE.out.2.1, pw_cell_below hb12 HSE.out.2.2.1, Lib.hid (below_then HSE.out.2.2.2.1.out HSE.out.2.2.2.1.out.size hb12), Lib.hid (below_then HSE.out.2.2.2.2.out HSE.out.2.2.2.2.out.size hb12)⟩)))
                all_goals
                  have HE := Lib.hid (show RI w x0 g p mA mP mm (i + 1) w12 from ⟨_, _, _, HR10.out.below HSF.out.2.2.2.2.out, HA.out, HMO2.out, by omega, HMM.out, HSF.out.2.2.2.1.out⟩)
                  go_wp2_with fail
                  go_roundw
                  case rel => exact ⟨i + 1, by go_num, by omega, HE⟩
                  case measure => simp [intOf]; omega
              · as_aux_lemma =>
                cases hbb : metV M s with
                | false =>
                  rw [if_neg h0] at HT8
                  have HMV := Lib.hid hbb
                  have HMO2 := Lib.hid (show MetOk (mput M s false) all past by have h := HMO.out.same s; rw [hbb] at h; exact h)
                  have h0d : (R == 0) = false := by simpa using h0
                  have h3d : (R == 3) = false := by simpa using h3
                  have h0e : (R != 0) = true := by simp [h0d, bne]
                  clear hbb h0 h3
                  have HR8 := Lib.hid (HR7.out.turn HT8.out HN8.out)
                  have hrm := run_met HR8.out.met s
                  rw [HMV.out] at hrm
                  have HST := Lib.hid (at_streams HR8.out.tab na HNA.out (by omega))
                  go_wp2_with fail
                  refine HST.out.mono ?_
                  rintro e w9 ⟨A9, c9, rfl, hb9⟩
                  have HW9 := Lib.hid (below_then HW8.out HW8.out.size hb9)
                  have HR9 := Lib.hid (HR8.out.below hb9)
                  have HZ9 := Lib.hid (blk_below HZ8.out hb9)
                  clear hb9 y1 y2 hrm HST
                  have y1 := blk_cell HZ9.out 1
                  have hrm := run_met HR9.out.met s
                  rw [HMV.out] at hrm
                  obtain ⟨w10, hput, hmp, hgr, -⟩ := run_mput (P := Try.prog) Try.underlying53 (key_int Try.underlying22) HR9.out.met s (.bool false)
                  rw [encB_put] at hmp
                  have HR10 := Lib.hid (HR9.out.put hmp hgr)
                  have HW10 := Lib.hid (HW9.out.trans (((Tn.refl (fun k => k = mm) w9).grown hgr (.inl rfl)).below (base := w.heap.size) (fun k hk => by rw [hk]; exact HMM.out) HW9.out.size))
                  have HZ10 := Lib.hid ((hgr.block zb (blk_lt HZ9.out) (fun e => by
                    injection e with e
                    subst e
                    obtain ⟨es, cl, hmm, -⟩ := HR9.out.met
                    have := HZ9.out
                    rw [hmm] at this; cases this)).trans HZ9.out)
                  clear hmp hgr
                  have hD := below_drew (Below.refl w10.heap.size w10)
                  have HRD := Lib.hid (HR10.out.below hD)
                  have HST := Lib.hid (at_streams HRD.out.tab na HNA.out (by omega))
                  have HSD := Lib.hid (show w10.drew.cell? ⟨g, 6, none⟩ = some (.int .i64 x0.streams) ∧ w10.drew.cell? ⟨g, 7, none⟩ = some (.int .i64 x0.each) ∧ w10.drew.cell? ⟨zb, 2, none⟩ = some (.int .u64 u) ∧ Hid (Below w.heap.size w w10.drew) ∧ Hid (Below w10.heap.size w10 w10.drew) from
                    ⟨blk_cell HRD.out.box 6, blk_cell HRD.out.box 7, blk_cell (blk_below HZ10.out hD) 2, Lib.hid (below_then HW10.out HW10.out.size hD), Lib.hid hD⟩)
                  have HOF := Lib.hid (fun (W' : World) (hb : Below w10.heap.size w10 W') => at_of (HR10.out.below hb).tab u (by rw [HNA.out]; omega))
                  have HC := Lib.hid (HA.out).each
                  have hcl : (cntS (encA all) u : Int) ≤ x0.each := HC.out u
                  obtain ⟨C, hC⟩ : ∃ C, cntS (encA all) u = C := ⟨_, rfl⟩
                  rw [hC] at HOF hcl
                  have hrl : ((na : Nat) : Int) ≤ x0.streams := by have := (HA.out).room; rw [HNA.out] at this; exact this
                  have hrl2 : decide (x0.streams < ((na : Nat) : Int)) = false := decide_eq_false (by omega)
                  clear hD hC
                  go_wp2_with fail
                  clear y1 hrm hput
                  go_region_held3 (fun w' => w'.cell? ⟨g, 6, none⟩ = some (.int .i64 x0.streams) ∧ w'.cell? ⟨g, 7, none⟩ = some (.int .i64 x0.each) ∧ w'.cell? ⟨zb, 2, none⟩ = some (.int .u64 u) ∧ Hid (Below w.heap.size w w') ∧ Hid (Below w10.heap.size w10 w'))
                    (first | exact HSF.out | exact HSE.out | exact HSD.out)
                    (first
                      | (go_at_call 21; refine HST.out.mono ?_; rintro e w11 ⟨A11, c11, rfl, hb11⟩; have HSE := Lib.hid (show w11.cell? ⟨g, 6, none⟩ = some (.int .i64 x0.streams) ∧ w11.cell? ⟨g, 7, none⟩ = some (.int .i64 x0.each) ∧ w11.cell? ⟨zb, 2, none⟩ = some (.int .u64 u) ∧ Hid (Below w.heap.size w w11) ∧ Hid (Below w10.heap.size w10 w11) from ⟨pw_cell_below hb11 HSD.out.1, pw_cell_below hb11 HSD.out.2.1, pw_cell_below hb11 HSD.out.2.2.1, Lib.hid (below_then HSD.out.2.2.2.1.out HSD.out.2.2.2.1.out.size hb11), Lib.hid (below_then HSD.out.2.2.2.2.out HSD.out.2.2.2.2.out.size hb11)⟩))
                      | (go_at_call 22; refine (HOF.out _ HSE.out.2.2.2.2.out).mono ?_; rintro e w12 ⟨rfl, hb12⟩; have HSF := Lib.hid (show w12.cell? ⟨g, 6, none⟩ = some (.int .i64 x0.streams) ∧ w12.cell? ⟨g, 7, none⟩ = some (.int .i64 x0.each) ∧ w12.cell? ⟨zb, 2, none⟩ = some (.int .u64 u) ∧ Hid (Below w.heap.size w w12) ∧ Hid (Below w10.heap.size w10 w12) from ⟨pw_cell_below hb12 HSE.out.1, pw_cell_below hb12 HSE.out.2.1, pw_cell_below hb12 HSE.out.2.2.1, Lib.hid (below_then HSE.out.2.2.2.1.out HSE.out.2.2.2.1.out.size hb12), Lib.hid (below_then HSE.out.2.2.2.2.out HSE.out.2.2.2.2.out.size hb12)⟩)))
                  all_goals
                    have HE := Lib.hid (show RI w x0 g p mA mP mm (i + 1) w12 from ⟨_, _, _, HR10.out.below HSF.out.2.2.2.2.out, HA.out, HMO2.out, by omega, HMM.out, HSF.out.2.2.2.1.out⟩)
                    go_wp2_with fail
                    go_roundw
                    case rel => exact ⟨i + 1, by go_num, by omega, HE⟩
                    case measure => simp [intOf]; omega
                | true =>
                  rw [if_neg h0] at HT8
                  have HMV := Lib.hid hbb
                  have HMO2 := Lib.hid (show MetOk (mput M s true) all past by have h := HMO.out.same s; rw [hbb] at h; exact h)
                  have h0d : (R == 0) = false := by simpa using h0
                  have h3d : (R == 3) = false := by simpa using h3
                  have h0e : (R != 0) = true := by simp [h0d, bne]
                  clear hbb h0 h3
                  have HR8 := Lib.hid (HR7.out.turn HT8.out HN8.out)
                  have hrm := run_met HR8.out.met s
                  rw [HMV.out] at hrm
                  have HST := Lib.hid (at_streams HR8.out.tab na HNA.out (by omega))
                  go_wp2_with fail
                  refine HST.out.mono ?_
                  rintro e w9 ⟨A9, c9, rfl, hb9⟩
                  have HW9 := Lib.hid (below_then HW8.out HW8.out.size hb9)
                  have HR9 := Lib.hid (HR8.out.below hb9)
                  have HZ9 := Lib.hid (blk_below HZ8.out hb9)
                  clear hb9 y1 y2 hrm HST
                  have y1 := blk_cell HZ9.out 1
                  have hrm := run_met HR9.out.met s
                  rw [HMV.out] at hrm
                  obtain ⟨w10, hput, hmp, hgr, -⟩ := run_mput (P := Try.prog) Try.underlying53 (key_int Try.underlying22) HR9.out.met s (.bool true)
                  rw [encB_put] at hmp
                  have HR10 := Lib.hid (HR9.out.put hmp hgr)
                  have HW10 := Lib.hid (HW9.out.trans (((Tn.refl (fun k => k = mm) w9).grown hgr (.inl rfl)).below (base := w.heap.size) (fun k hk => by rw [hk]; exact HMM.out) HW9.out.size))
                  have HZ10 := Lib.hid ((hgr.block zb (blk_lt HZ9.out) (fun e => by
                    injection e with e
                    subst e
                    obtain ⟨es, cl, hmm, -⟩ := HR9.out.met
                    have := HZ9.out
                    rw [hmm] at this; cases this)).trans HZ9.out)
                  clear hmp hgr
                  have hD := below_drew (Below.refl w10.heap.size w10)
                  have HRD := Lib.hid (HR10.out.below hD)
                  have HST := Lib.hid (at_streams HRD.out.tab na HNA.out (by omega))
                  have HSD := Lib.hid (show w10.drew.cell? ⟨g, 6, none⟩ = some (.int .i64 x0.streams) ∧ w10.drew.cell? ⟨g, 7, none⟩ = some (.int .i64 x0.each) ∧ w10.drew.cell? ⟨zb, 2, none⟩ = some (.int .u64 u) ∧ Hid (Below w.heap.size w w10.drew) ∧ Hid (Below w10.heap.size w10 w10.drew) from
                    ⟨blk_cell HRD.out.box 6, blk_cell HRD.out.box 7, blk_cell (blk_below HZ10.out hD) 2, Lib.hid (below_then HW10.out HW10.out.size hD), Lib.hid hD⟩)
                  have HOF := Lib.hid (fun (W' : World) (hb : Below w10.heap.size w10 W') => at_of (HR10.out.below hb).tab u (by rw [HNA.out]; omega))
                  have HC := Lib.hid (HA.out).each
                  have hcl : (cntS (encA all) u : Int) ≤ x0.each := HC.out u
                  obtain ⟨C, hC⟩ : ∃ C, cntS (encA all) u = C := ⟨_, rfl⟩
                  rw [hC] at HOF hcl
                  have hrl : ((na : Nat) : Int) ≤ x0.streams := by have := (HA.out).room; rw [HNA.out] at this; exact this
                  have hrl2 : decide (x0.streams < ((na : Nat) : Int)) = false := decide_eq_false (by omega)
                  clear hD hC
                  go_wp2_with fail
                  clear y1 hrm hput
                  go_region_held3 (fun w' => w'.cell? ⟨g, 6, none⟩ = some (.int .i64 x0.streams) ∧ w'.cell? ⟨g, 7, none⟩ = some (.int .i64 x0.each) ∧ w'.cell? ⟨zb, 2, none⟩ = some (.int .u64 u) ∧ Hid (Below w.heap.size w w') ∧ Hid (Below w10.heap.size w10 w'))
                    (first | exact HSF.out | exact HSE.out | exact HSD.out)
                    (first
                      | (go_at_call 21; refine HST.out.mono ?_; rintro e w11 ⟨A11, c11, rfl, hb11⟩; have HSE := Lib.hid (show w11.cell? ⟨g, 6, none⟩ = some (.int .i64 x0.streams) ∧ w11.cell? ⟨g, 7, none⟩ = some (.int .i64 x0.each) ∧ w11.cell? ⟨zb, 2, none⟩ = some (.int .u64 u) ∧ Hid (Below w.heap.size w w11) ∧ Hid (Below w10.heap.size w10 w11) from ⟨pw_cell_below hb11 HSD.out.1, pw_cell_below hb11 HSD.out.2.1, pw_cell_below hb11 HSD.out.2.2.1, Lib.hid (below_then HSD.out.2.2.2.1.out HSD.out.2.2.2.1.out.size hb11), Lib.hid (below_then HSD.out.2.2.2.2.out HSD.out.2.2.2.2.out.size hb11)⟩))
                      | (go_at_call 22; refine (HOF.out _ HSE.out.2.2.2.2.out).mono ?_; rintro e w12 ⟨rfl, hb12⟩; have HSF := Lib.hid (show w12.cell? ⟨g, 6, none⟩ = some (.int .i64 x0.streams) ∧ w12.cell? ⟨g, 7, none⟩ = some (.int .i64 x0.each) ∧ w12.cell? ⟨zb, 2, none⟩ = some (.int .u64 u) ∧ Hid (Below w.heap.size w w12) ∧ Hid (Below w10.heap.size w10 w12) from ⟨pw_cell_below hb12 HSE.out.1, pw_cell_below hb12 HSE.out.2.1, pw_cell_below hb12 HSE.out.2.2.1, Lib.hid (below_then HSE.out.2.2.2.1.out HSE.out.2.2.2.1.out.size hb12), Lib.hid (below_then HSE.out.2.2.2.2.out HSE.out.2.2.2.2.out.size hb12)⟩)))
                  all_goals
                    have HE := Lib.hid (show RI w x0 g p mA mP mm (i + 1) w12 from ⟨_, _, _, HR10.out.below HSF.out.2.2.2.2.out, HA.out, HMO2.out, by omega, HMM.out, HSF.out.2.2.2.1.out⟩)
                    go_wp2_with fail
                    go_roundw
                    case rel => exact ⟨i + 1, by go_num, by omega, HE⟩
                    case measure => simp [intOf]; omega
        · have hin : i = Mn := by omega
          have HWr := HBr
          go_wp2_with fail
          refine (alive26_any _).mono ?_
          rintro e w5 ⟨rfl, hb⟩
          have HE := Lib.hid (below_then HWr.out HWr.out.size hb)
          clear hb
          go_wp2_with fail
          go_ret
          exact ⟨rfl, HE.out⟩
  · refine (HBAD.out w1 hok).mono ?_
    rintro e w2 ⟨rfl, hb⟩
    have HB2 := Lib.hid (below_then HB1.out HB1.out.size hb)
    clear hb
    go_wp2_with fail
    refine (alive26_any _).mono ?_
    rintro e w5 ⟨rfl, hb⟩
    have HE := Lib.hid (below_then HB2.out HB2.out.size hb)
    clear hb
    go_wp2_with fail
    go_ret
    exact ⟨rfl, HE.out⟩

set_option maxRecDepth 100000 in
theorem lifted (os : Os) (started : os.Started) (H : Type) (enc : TypeId × Value → H) :
    ReturnsInHanded {} Try.checked os 4 .any (Rows.admitRoomsSpec.pre6 enc Try.prog Try.f4 Rows.admitRoomsRow.domain false) (Rows.admitRoomsSpec.post enc Try.prog Try.f4 false true false false) := by
  refine returnsInHanded_of_change (C := Try.checked) own started (by kernel_rfl) Try.func4
    (ChangeSpec.witness6 (enc := enc) (C := Try.checked) false ⟨#[], #[.agg #[.int .u64 0, .int .i64 0, .int .i64 0, .int .i64 0, .int .i64 0, .int .i64 0, .int .i64 0, .int .i64 0, .int .i64 0, .int .i64 0], .slice none 0 0], []⟩ 8 (by kernel_rfl) (by kernel_rfl) (by kernel_rfl) (by kernel_rfl)) ?_
  intro W base args ds gs before hval0 hW hcnd _
  have hval : ∀ (j : Nat) t v, Try.f4.params[j]? = some t → args[j]? = some v → Value.okWide Try.prog W .any base t v := hval0
  have hW' := hW
  obtain ⟨p, q, hA0, hV, rfl, hfz, hnd⟩ := hW
  have hA : DataW.TrodAll enc Try.prog W 0 (fun _ => true) true Try.f4.params.toList args.toList ds p := hA0
  rw [Try.params4] at hA hval
  obtain ⟨v0, vs0, d0, ds0, p0, q0, hargs, rfl, rfl, h0, r0⟩ := trodAll_cons hA
  obtain ⟨v1, vs1, d1, ds1, p1, q1, rfl, rfl, rfl, h1, r1⟩ := trodAll_cons r0
  obtain ⟨rfl, rfl, rfl⟩ := trodAll_nil r1
  obtain rfl : args = #[v0, v1] := by cases args; simp_all
  obtain ⟨rfl, rfl⟩ := trodVars_none hV
  have k0 := h0
  have lt0 : ∀ x ∈ p0, x.block < W.heap.size := by obtain ⟨m, hm⟩ := k0; exact DataW.trod_lt m _ _ _ hm
  obtain ⟨cs0, rfl, _⟩ := okWide_struct Try.underlying26 (hval 0 26 v0 rfl rfl)
  obtain ⟨x0, y0, g0⟩ : ∃ x, KSt.K W x cs0.toList ∧ (StW) x := by obtain ⟨m, hm⟩ := k0; exact op_st _ _ _ m _ _ hm
  have k1 := h1
  have lt1 : ∀ x ∈ p1, x.block < W.heap.size := by obtain ⟨m, hm⟩ := k1; exact DataW.trod_lt m _ _ _ hm
  obtain ⟨a1, len1, cap1, rfl⟩ := okWide_slice Try.underlying27 (hval 1 27 v1 rfl rfl)
  obtain ⟨x1, y1, g1⟩ : ∃ x, (Kd.slice 46 KAStep).K W x [.slice a1 len1 cap1] ∧ (fun xs => (∀ x ∈ xs, AStepG x) ∧ xs.length ≤ maxLen) x := by obtain ⟨m, hm⟩ := k1; exact op_asteps _ _ _ m _ _ hm
  clear hA0 hval0
  refine (walk cs0 x0 a1 len1 cap1 x1 W y0 g0 y1 g1).mono fun e W' ⟨he, bel⟩ => ?_
  subst he
  exact ⟨_, rfl, _, _, _, [], _, [], hW', trodAll_mk1 (shut_bool Try.underlying4 _), (trodAll_cons_mk (Below.trod laidOut (by kernel_rfl) (of_decide_eq_true (by kernel_rfl)) k0 bel lt0) (trodAll_cons_mk (Below.trod laidOut (by kernel_rfl) (of_decide_eq_true (by kernel_rfl)) k1 bel lt1) trodAll_mk0)), rfl, bel.frame _, fun h => by cases h⟩

theorem over : Rows.admitRoomsRow.holds Try.pinned (OpenSpec.ofChange Rows.admitRoomsSpec) :=
  OpenClaim.holds_of_wide 4 Try.f4 rfl rfl rfl rfl rfl rfl rfl ⟨rfl, rfl, rfl, rfl, rfl⟩ rfl rfl rfl rfl rfl (by kernel_rfl) Try.func4 (by kernel_rfl)
    (of_decide_eq_true (by kernel_rfl)) (by unfold Func.isWrapper; first | (rw [if_pos (by decide +kernel)]; kernel_rfl) | (rw [if_neg (by decide +kernel)]; exact ⟨rfl, rfl⟩))
    (fun os started H enc _ => lifted os started H enc)

theorem proved : Rows.AdmitRoomsSaid := over
end Go.Proofs.Ytmbhicjjbgbneaa.admitRooms
