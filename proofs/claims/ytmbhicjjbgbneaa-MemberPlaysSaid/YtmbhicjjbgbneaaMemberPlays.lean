/- A list answers every call, in every order, at every time, as the document says, and has behind each what the document's has. -/
import Derived.Test.YtmbhicjjbgbneaaRows
import Derived.WalkKit
import Derived.ProofKit
import Derived.OpenShut
import Derived.ShutString
import Derived.ChangeOld
import Derived.Below
import Derived.Test.YtmbhicjjbgbneaaOpn
import Derived.Test.YtmbhicjjbgbneaaMbW
import Derived.Deep.DeepCutAuto
import Derived.Deep.CutBlock
import Derived.Deep.RegionHeld3
namespace Go.Proofs.Ytmbhicjjbgbneaa.memberPlays
open Go.ChangeShapes Go.WideShapes Go.ChangeAt Go.RowKit
open Go.ChangeMaps (open_string shut_string)
set_option linter.unusedVariables false
set_option linter.unusedSimpArgs false
open Go.Proofs.YtmbhicjjbgbneaaW.PrintWords Go.Proofs.YtmbhicjjbgbneaaW.PrintLast Go.Proofs.YtmbhicjjbgbneaaW.PrintMore

theorem own : ownKnob Try.prog.godebug = none := by kernel_rfl
theorem laidOut : laidOutB Try.prog = true := by kernel_rfl

set_option maxRecDepth 100000
theorem slice_came {α : Type} {e : Nat} {d : Kd α} {w : World} {a : Option Addr} {len cap : Nat} {xs : List α} (h : (Kd.slice e d).K w xs [.slice a len cap]) : len = xs.length ∧ xs.length ≤ cap ∧ d.C w a xs.length xs := by
  obtain ⟨A, c, he, hl, hC⟩ := h
  simp only [List.cons.injEq, Value.slice.injEq, and_true] at he
  obtain ⟨rfl, rfl, rfl⟩ := he
  exact ⟨rfl, hl, hC⟩
/-- Both lists, with blocks of their own from base on. -/
def PB (base : Nat) (wr : World) (F G : Nat → Prop) (p m q : Nat) (T last : Int) (V : List Rp) (T2 last2 : Int) (V2 : List Rp) : Prop := MS wr F p m T last V ∧ RL wr G q T2 last2 V2 ∧ (∀ k, F k → ¬ G k) ∧ (∀ k, F k → base ≤ k) ∧ (∀ k, G k → base ≤ k)
def PlI (w : World) (p m q : Nat) (i : Nat) (wr : World) : Prop := ∃ F G T last V, PB w.heap.size wr F G p m q T last V T last V ∧ PG T last V ∧ Below w.heap.size w wr ∧ last ≤ i
section
variable {base : Nat} {wr w3 : World} {F G : Nat → Prop} {p m q : Nat} {T last T2 last2 T3 last3 : Int} {V V2 V3 : List Rp}
theorem rl_lt (h : RL wr G q T last V) : ∀ k, G k → k < wr.heap.size := h.choose_spec.choose_spec.2.2.2.2
theorem PB.mem (h : PB base wr F G p m q T last V T2 last2 V2) (hm : MR wr F p m T3 last3 V3 w3) (hb : base ≤ wr.heap.size) : PB base w3 (Nw wr w3 F) G p m q T3 last3 V3 T2 last2 V2 := by
  obtain ⟨h1, h2, h3, h4, h5⟩ := h
  refine ⟨hm.1, h2.keep hm.2 (fun k hk hf => h3 k hf hk), fun k hk hg => ?_, fun k hk => ?_, h5⟩
  · rcases hk with hk | hk
    · exact h3 k hk hg
    · have := rl_lt h2 k hg; omega
  · rcases hk with hk | hk
    · exact h4 k hk
    · omega
theorem PB.ref (h : PB base wr F G p m q T last V T2 last2 V2) (hr : RL w3 (Nw wr w3 G) q T3 last3 V3) (ht : Tn G wr w3) (hb : base ≤ wr.heap.size) : PB base w3 F (Nw wr w3 G) p m q T last V T3 last3 V3 := by
  obtain ⟨h1, h2, h3, h4, h5⟩ := h
  refine ⟨h1.keep ht h3, hr, fun k hk hg => ?_, h4, fun k hk => ?_⟩
  · rcases hg with hg | hg
    · exact h3 k hk hg
    · have := h1.lt k hk; omega
  · rcases hk with hk | hk
    · exact h5 k hk
    · omega
theorem PB.below (h : PB base wr F G p m q T last V T2 last2 V2) (hb : Below wr.heap.size wr w3) : PB base w3 F G p m q T last V T2 last2 V2 := by
  obtain ⟨h1, h2, h3, h4, h5⟩ := h
  exact ⟨h1.below hb, h2.below hb, h3, h4, h5⟩
theorem PB.bm (h : PB base wr F G p m q T last V T2 last2 V2) (ht : Tn F wr w3) (hb : base ≤ wr.heap.size) : Below base wr w3 := ht.below h.2.2.2.1 hb
theorem PB.br (h : PB base wr F G p m q T last V T2 last2 V2) (ht : Tn G wr w3) (hb : base ≤ wr.heap.size) : Below base wr w3 := ht.below h.2.2.2.2 hb
end
theorem pg_nd {now last : Int} {V : List Rp} (g : PG now last V) : (mkeys V).Nodup := ((ascV_keys V).1 g.asc).imp (fun h => by omega)
theorem rem_rr {T last nw n : Int} {V : List Rp} {r : R4} (g : PG T last V) (h : T ≤ lat T nw ∧ lat T nw ≤ 1099511627776) (hl : mlook V n = some r) : 0 ≤ r.2.2.2 ∧ r.2.2.2 ≤ lat T nw ∧ lat T nw ≤ 1099511627776 := by
  have := el_later g h.1 hl
  exact ⟨this.2.2.2.1, this.2.2.2.2, h.2⟩
theorem add_last (now last : Int) (V : List Rp) : (pAdd now last V).2.1 ≤ last + 1 := by unfold pAdd; split <;> (dsimp only; omega)
attribute [local go_sem] gb_max2 gb_min2 gb_max_two gb_min_two gb_max_three gb_min_three
set_option maxHeartbeats 4000000 in
theorem walk (a0 : Option Addr) (len0 cap0 : Nat) (x0 : List MStepV) (w : World) (k0 : (Kd.slice 64 KMStep).K w x0 [.slice a0 len0 cap0]) (gd0 : (fun xs => (∀ x ∈ xs, MStepG x) ∧ xs.length ≤ maxLen) x0) :
    Calls Try.prog 7 #[.slice a0 len0 cap0] w fun e w' => e = .returned (.bool true) ∧ Below w.heap.size w w' := by
  obtain ⟨rfl, hcx, hx⟩ := slice_came k0
  obtain ⟨hgd, hml⟩ := gd0
  have HX := Lib.hid (fun (W' : World) (hb : Below w.heap.size w W') => Kd.C_below hx hb)
  have HGD := Lib.hid hgd
  have HSHO := Lib.hid (fun (W' : World) => short24_any a0 x0.length cap0 hcx W')
  obtain ⟨N, hN⟩ : ∃ N, x0.length = N := ⟨_, rfl⟩
  rw [hN] at hcx HSHO ⊢
  have HN := Lib.hid hN
  obtain ⟨M, hM⟩ : ∃ M, min N 200 = M := ⟨_, rfl⟩
  rw [hM] at HSHO
  have hMN : M ≤ N := by omega
  have hM2 : M ≤ 200 := by omega
  clear k0 hgd hx hN hM hml
  go_enter Try.func7, Try.ntmps7
  go_wp2_with fail
  refine (msnew _).mono ?_
  rintro e w1 ⟨p, m, rfl, hS, hb⟩
  obtain ⟨w2, hw2⟩ : ∃ w2, w1.alloc (.cells #[.int .i64 0, .int .u64 0, .slice none 0 0] 83) = w2 := ⟨_, rfl⟩
  obtain ⟨q, hq⟩ : ∃ q, w1.heap.size = q := ⟨_, rfl⟩
  have hb2 := below_alloc (Below.refl w1.heap.size w1) (.cells #[.int .i64 0, .int .u64 0, .slice none 0 0] 83)
  have hbx2 := heap_alloc_new w1 (.cells #[.int .i64 0, .int .u64 0, .slice none 0 0] 83)
  rw [hw2] at hb2 hbx2
  rw [hq] at hbx2
  have HI := Lib.hid (show PlI w p m q 0 w2 from by
    refine ⟨_, fun k => k = q, 0, 0, [], ⟨hS.below hb2, ⟨none, 0, hbx2, World.ownsRow_nil _ _ _ _, rfl, fun k hk => by simp [Value.ownBlock] at hk, fun k hk => by rw [show k = q from hk]; exact blk_lt hbx2⟩, fun k hk e => ?_, fun k hk => hk.1, fun k hk => ?_⟩, ⟨by omega, by omega, by omega, by omega, List.Pairwise.nil, by simp, fun x hx => by cases hx⟩, below_then hb hb.size hb2, by omega⟩
    · have := hk.2; dsimp only at e; omega
    · dsimp only at hk; have := hb.size; omega)
  clear hS hb hb2 hbx2
  go_wp2_with fail
  clear hw2 hq
  refine (HSHO.out w2).mono ?_
  rintro e w' ⟨rfl, rfl⟩
  go_wp2_with fail
  go_loopw [23] (fun s23 wr => ∃ (i : Nat), s23 = .int .i64 i ∧ i ≤ M ∧ Hid (PlI w p m q i wr)) (fun s _ => M - (intOf s).toNat)
  case atStart => exact ⟨0, rfl, by omega, HI⟩
  case round =>
    obtain ⟨i, rfl, hi, HIr⟩ := hrel
    obtain ⟨F, G, T, last, V, hP, hG, hbr, hla⟩ := HIr.out
    have HPr := Lib.hid hP
    have HGr := Lib.hid hG
    have HBr := Lib.hid hbr
    have hT0 := hG.now0
    have hT9 := hG.now9
    clear hP hG hbr HIr HI
    by_cases hiM : i < M
    · obtain ⟨ad, x, rfl, hxi, q0, q1, q2, q3, q4, q5⟩ := msteps_at (HX.out w (Below.refl _ _)) i (by rw [HN.out]; omega)
      have hg := HGD.out x (List.mem_of_getElem? hxi)
      obtain ⟨kd, lt, n, ic, wt, by_⟩ := x
      have hk : 0 ≤ kd ∧ kd ≤ 255 := by
        have h := hg.1
        change (decide ((0 : Int) ≤ kd) && decide (kd ≤ (255 : Int))) = true at h
        simpa using h
      have hic : 0 ≤ ic := by
        have h := hg.2.2.2.1
        change (decide ((0 : Int) ≤ ic) && decide (ic ≤ (18446744073709551615 : Int))) = true at h
        simp at h; omega
      have q0 := pw_cell_below HBr.out q0
      have q1 := pw_cell_below HBr.out q1
      have q2 := pw_cell_below HBr.out q2
      have q3 := pw_cell_below HBr.out q3
      have q4 := pw_cell_below HBr.out q4
      have q5 := pw_cell_below HBr.out q5
      dsimp only at q0 q1 q2 q3 q4 q5
      clear hxi hg
      obtain ⟨W0, hW0⟩ : ∃ W0, wr.alloc (.cells #[.int .u8 kd, .int .i64 lt, .int .u64 n, .int .u64 ic, .int .i64 wt, .int .i64 by_] 64) = W0 := ⟨_, rfl⟩
      have hb0 : Below wr.heap.size wr W0 := by rw [← hW0]; exact below_alloc (Below.refl _ _) _
      have HP0 := Lib.hid (HPr.out.below hb0)
      have HB0 := Lib.hid (below_then HBr.out HBr.out.size hb0)
      have hbx := heap_alloc_new wr (.cells #[.int .u8 kd, .int .i64 lt, .int .u64 n, .int .u64 ic, .int .i64 wt, .int .i64 by_] 64)
      rw [hW0] at hbx
      obtain ⟨b0, hb0'⟩ : ∃ b, wr.heap.size = b := ⟨_, rfl⟩
      rw [hb0'] at hbx
      have HFb := Lib.hid (show ∀ k, F k ∨ G k → k < b0 from fun k hk => by
        rw [← hb0']
        rcases hk with hk | hk
        · exact HPr.out.1.lt k hk
        · exact rl_lt HPr.out.2.1 k hk)
      have HBX := Lib.hid hbx
      have z0 := blk_cell hbx 0
      have z1 := blk_cell hbx 1
      have z2 := blk_cell hbx 2
      have z3 := blk_cell hbx 3
      have z4 := blk_cell hbx 4
      have z5 := blk_cell hbx 5
      have t0 := (rl_01 HP0.out.2.1).1
      clear hbx hb0
      go_upto_region 9 with fail
      clear q0 q1 q2 q3 q4 q5
      go_cut [36] (fun s36 wx => s36 = .bool (decide (-100000 < lt ∧ lt < 1125899906842624)) ∧ wx = W0)
      case first =>
        by_cases h1 : -100000 < lt
        · by_cases h2 : lt < 1125899906842624
          · go_wp2_with fail
            go_meet
            exact ⟨by rw [decide_eq_true (show -100000 < lt ∧ lt < 1125899906842624 by omega)], rfl⟩
          · go_wp2_with fail
            go_meet
            exact ⟨by rw [decide_eq_false (show ¬ (-100000 < lt ∧ lt < 1125899906842624) by omega)], rfl⟩
        · go_wp2_with fail
          go_meet
          exact ⟨by rw [decide_eq_false (show ¬ (-100000 < lt ∧ lt < 1125899906842624) by omega)], rfl⟩
      case rest =>
        obtain ⟨rfl, rfl⟩ := hcut
        obtain ⟨nw, hnw⟩ : ∃ x, (if -100000 < lt ∧ lt < 1125899906842624 then T + lt else T) = x := ⟨_, rfl⟩
        have HNW := Lib.hid hnw
        clear hnw
        go_upto_if 36 with fail
        go_cut [7] (fun s7 wx => s7 = .int .i64 nw ∧ wx = wc)
        case first =>
          by_cases h1 : -100000 < lt ∧ lt < 1125899906842624
          · have hd : decide (-100000 < lt ∧ lt < 1125899906842624) = true := decide_eq_true h1
            have HN2 := Lib.hid (show T + lt = nw by rw [← HNW.out, if_pos h1])
            rw [hd]
            obtain ⟨h1, h2⟩ := h1
            clear hd
            go_wp2_with fail
            go_meet
            exact ⟨by rw [← HN2.out], rfl⟩
          · have hd : decide (-100000 < lt ∧ lt < 1125899906842624) = false := decide_eq_false h1
            have HN2 := Lib.hid (show T = nw by rw [← HNW.out, if_neg h1])
            rw [hd]
            clear hd h1
            go_wp2_with fail
            go_meet
            exact ⟨by rw [← HN2.out], rfl⟩
        case rest =>
          obtain ⟨rfl, rfl⟩ := hcut
          obtain ⟨wa, hwa⟩ : ∃ wa, wa = wc := ⟨_, rfl⟩
          subst hwa
          obtain ⟨K, hK⟩ : ∃ K, kd % 7 = K := ⟨_, rfl⟩
          have hK0 : K = 0 ∨ K = 1 ∨ K = 2 ∨ K = 3 ∨ K = 4 ∨ K = 5 ∨ K = 6 := by omega
          have HLT := Lib.hid (lat_le T nw HGr.out.now9)
          have HBS := Lib.hid HB0.out.size
          go_upto_block 2 with fail
          go_cut [8, 43] (fun s8 s43 wx => s8 = .bool true ∧ Hid (PlI w p m q (i + 1) wx))
          case first =>
            rcases hK0 with rfl | rfl | rfl | rfl | rfl | rfl | rfl
            · as_aux_lemma =>
              have HC := Lib.hid (msadd HP0.out.1 HGr.out nw)
              have hpg := pg_add HGr.out HLT.out.1 HLT.out.2 (by omega)
              have hll : (pAdd (lat T nw) last V).2.1 ≤ (i : Int) + 1 := by have := add_last (lat T nw) last V; omega
              obtain ⟨R, hR⟩ : ∃ R, pAdd (lat T nw) last V = R := ⟨_, rfl⟩
              have HRR := Lib.hid hR
              rw [hR] at HC hpg hll
              obtain ⟨⟨an, code⟩, l1, V1⟩ := R
              have HPG := Lib.hid hpg
              have HLL := Lib.hid hll
              clear hpg hll hR
              dsimp only at HC HPG HLL
              go_wp2_with fail
              refine HC.out.mono ?_
              rintro e w3 ⟨rfl, hm3⟩
              have HP3 := Lib.hid (HP0.out.mem hm3 HBS.out)
              have HB3 := Lib.hid (HB0.out.trans (HP0.out.bm hm3.2 HBS.out))
              have hbx3 := (hm3.2.block b0 (blk_lt HBX.out) (fun hf => by have := HFb.out b0 (.inl hf); omega)).trans HBX.out
              have y0 := blk_cell hbx3 0
              have y2 := blk_cell hbx3 2
              have y3 := blk_cell hbx3 3
              have HC2 := Lib.hid (rladd HP3.out.2.1 HGr.out.len HGr.out.last0 HGr.out.last9 nw)
              rw [HRR.out] at HC2
              dsimp only at HC2
              clear hm3 hbx3
              go_wp2_with fail
              refine HC2.out.mono ?_
              rintro e w4 ⟨rfl, hr4, ht4⟩
              have HF := Lib.hid (show PlI w p m q (i + 1) w4 from ⟨_, _, _, _, _, HP3.out.ref hr4 ht4 HB3.out.size, HPG.out, HB3.out.trans (HP3.out.br ht4 HB3.out.size), HLL.out⟩)
              clear hr4 ht4
              go_wp2_with fail
              go_meet
              exact ⟨rfl, HF⟩
            · as_aux_lemma =>
              have HC := Lib.hid (msup HP0.out.1 HGr.out nw n ic hic)
              have hpg := pg_up HGr.out HLT.out.1 HLT.out.2 n ic hic
              have hll : last ≤ (i : Int) + 1 := by omega
              obtain ⟨R, hR⟩ : ∃ R, pUp (lat T nw) n ic V = R := ⟨_, rfl⟩
              have HRR := Lib.hid hR
              rw [hR] at HC hpg
              obtain ⟨⟨an, code⟩, V1⟩ := R
              have HPG := Lib.hid hpg
              have HLL := Lib.hid hll
              clear hpg hll hR
              dsimp only at HC HPG HLL
              go_wp2_with fail
              refine HC.out.mono ?_
              rintro e w3 ⟨rfl, hm3⟩
              have HP3 := Lib.hid (HP0.out.mem hm3 HBS.out)
              have HB3 := Lib.hid (HB0.out.trans (HP0.out.bm hm3.2 HBS.out))
              have hbx3 := (hm3.2.block b0 (blk_lt HBX.out) (fun hf => by have := HFb.out b0 (.inl hf); omega)).trans HBX.out
              have y0 := blk_cell hbx3 0
              have y2 := blk_cell hbx3 2
              have y3 := blk_cell hbx3 3
              have HC2 := Lib.hid (rlup HP3.out.2.1 (pg_nd HGr.out) (by have := HGr.out.len; omega) (fun x hx => ⟨(HGr.out.el x hx).2.2.1, (HGr.out.el x hx).2.2.2.1⟩) nw n ic hic)
              rw [HRR.out] at HC2
              dsimp only at HC2
              clear hm3 hbx3
              go_wp2_with fail
              refine HC2.out.mono ?_
              rintro e w4 ⟨rfl, hr4, ht4⟩
              have HF := Lib.hid (show PlI w p m q (i + 1) w4 from ⟨_, _, _, _, _, HP3.out.ref (hr4.up ht4) ht4 HB3.out.size, HPG.out, HB3.out.trans (HP3.out.br ht4 HB3.out.size), HLL.out⟩)
              clear hr4 ht4
              go_wp2_with fail
              go_meet
              exact ⟨rfl, HF⟩
            · as_aux_lemma =>
              have hbd := below_drew (Below.refl wa.heap.size wa)
              have HPD := Lib.hid (HP0.out.below hbd)
              have HBD := Lib.hid (below_then HB0.out HB0.out.size hbd)
              have HBXD := Lib.hid (blk_below HBX.out hbd)
              have HC := Lib.hid (mslost HPD.out.1 nw n)
              have HD := Lib.hid (rllost HPD.out.2.1 (pg_nd HGr.out) (by have := HGr.out.len; omega) nw n)
              have hpg := pg_leave HGr.out HLT.out.1 HLT.out.2 4 n (by omega)
              obtain ⟨R, hR⟩ : ∃ R, pLeave 4 (lat T nw) n V = R := ⟨_, rfl⟩
              have HRR := Lib.hid hR
              rw [hR] at HC HD hpg
              obtain ⟨code, V1⟩ := R
              have HPG := Lib.hid hpg
              have HLL := Lib.hid (show last ≤ (i : Int) + 1 by omega)
              have HS0 := Lib.hid (show wa.drew.cell? ⟨b0, 2, none⟩ = some (.int .u64 n) from blk_cell (HBXD.out) 2)
              have HFN := Lib.hid (show ∀ w3 : World, Tn F wa.drew w3 → w3.heap[b0]? = some (.cells #[.int .u8 kd, .int .i64 lt, .int .u64 n, .int .u64 ic, .int .i64 wt, .int .i64 by_] 64 (0, 0)) from fun w3 ht => (ht.block b0 (blk_lt HBXD.out) (fun hf => by have := HFb.out b0 (.inl hf); omega)).trans HBXD.out)
              have HGN := Lib.hid (show ∀ w3 : World, Tn G wa.drew w3 → w3.heap[b0]? = some (.cells #[.int .u8 kd, .int .i64 lt, .int .u64 n, .int .u64 ic, .int .i64 wt, .int .i64 by_] 64 (0, 0)) from fun w3 ht => (ht.block b0 (blk_lt HBXD.out) (fun hf => by have := HFb.out b0 (.inr hf); omega)).trans HBXD.out)
              clear hpg hR hbd
              dsimp only at HC HD HPG
              go_wp2_with fail
              clear z0 z1 z2 z3 z4 z5
              go_region_held3 (fun w' => w'.cell? ⟨b0, 2, none⟩ = some (.int .u64 n))
                (first | exact HS0.out | exact HS1.out | exact HS2.out | exact HS3.out | exact HS4.out)
                (first
                  | (go_at_call 30; refine HC.out.mono ?_; rintro e w3 ⟨rfl, hm3⟩; have HP3 := Lib.hid (HPD.out.mem hm3 HBD.out.size); have HB3 := Lib.hid (HBD.out.trans (HPD.out.bm hm3.2 HBD.out.size)); have hbx3 := HFN.out w3 hm3.2; have HS1 := Lib.hid (show w3.cell? ⟨b0, 2, none⟩ = some (.int .u64 n) from blk_cell (hbx3) 2); have HX3 := Lib.hid hbx3; have HD3 := Lib.hid (rllost HP3.out.2.1 (pg_nd HGr.out) (by have := HGr.out.len; omega) nw n); rw [HRR.out] at HD3; dsimp only at HD3; have HF3 := Lib.hid hm3.2; clear hm3 hbx3)
                  | (go_at_call 40; refine HD3.out.mono ?_; rintro e w4 ⟨rfl, hr4, ht4⟩; have HF := Lib.hid (show PlI w p m q (i + 1) w4 from ⟨_, _, _, _, _, HP3.out.ref (hr4.up ht4) ht4 HB3.out.size, HPG.out, HB3.out.trans (HP3.out.br ht4 HB3.out.size), HLL.out⟩); have hbx4 := (ht4.block b0 (blk_lt HX3.out) (fun hf => by have := HFb.out b0 (.inr hf); omega)).trans HX3.out; have HS2 := Lib.hid (show w4.cell? ⟨b0, 2, none⟩ = some (.int .u64 n) from blk_cell (hbx4) 2); clear hr4 ht4 hbx4)
                  | (go_at_call 40; refine HD.out.mono ?_; rintro e w5 ⟨rfl, hr5, ht5⟩; have HP5 := Lib.hid (HPD.out.ref (hr5.up ht5) ht5 HBD.out.size); have HB5 := Lib.hid (HBD.out.trans (HPD.out.br ht5 HBD.out.size)); have hbx5 := HGN.out w5 ht5; have HS3 := Lib.hid (show w5.cell? ⟨b0, 2, none⟩ = some (.int .u64 n) from blk_cell (hbx5) 2); have HX5 := Lib.hid hbx5; have HC5 := Lib.hid (mslost HP5.out.1 nw n); rw [HRR.out] at HC5; dsimp only at HC5; clear hr5 ht5 hbx5)
                  | (go_at_call 30; refine HC5.out.mono ?_; rintro e w6 ⟨rfl, hm6⟩; have HF := Lib.hid (show PlI w p m q (i + 1) w6 from ⟨_, _, _, _, _, HP5.out.mem hm6 HB5.out.size, HPG.out, HB5.out.trans (HP5.out.bm hm6.2 HB5.out.size), HLL.out⟩); have hbx6 := (hm6.2.block b0 (blk_lt HX5.out) (fun hf => by have := HFb.out b0 (.inl hf); omega)).trans HX5.out; have HS4 := Lib.hid (show w6.cell? ⟨b0, 2, none⟩ = some (.int .u64 n) from blk_cell (hbx6) 2); clear hm6 hbx6))
              all_goals
                go_wp2_with fail
                go_meet
                exact ⟨rfl, HF⟩
            · as_aux_lemma =>
              have hbd := below_drew (Below.refl wa.heap.size wa)
              have HPD := Lib.hid (HP0.out.below hbd)
              have HBD := Lib.hid (below_then HB0.out HB0.out.size hbd)
              have HBXD := Lib.hid (blk_below HBX.out hbd)
              have HC := Lib.hid (msdrain HPD.out.1 nw n)
              have HD := Lib.hid (rldrain HPD.out.2.1 (pg_nd HGr.out) (by have := HGr.out.len; omega) nw n)
              have hpg := pg_leave HGr.out HLT.out.1 HLT.out.2 3 n (by omega)
              obtain ⟨R, hR⟩ : ∃ R, pLeave 3 (lat T nw) n V = R := ⟨_, rfl⟩
              have HRR := Lib.hid hR
              rw [hR] at HC HD hpg
              obtain ⟨code, V1⟩ := R
              have HPG := Lib.hid hpg
              have HLL := Lib.hid (show last ≤ (i : Int) + 1 by omega)
              have HS0 := Lib.hid (show wa.drew.cell? ⟨b0, 2, none⟩ = some (.int .u64 n) from blk_cell (HBXD.out) 2)
              have HFN := Lib.hid (show ∀ w3 : World, Tn F wa.drew w3 → w3.heap[b0]? = some (.cells #[.int .u8 kd, .int .i64 lt, .int .u64 n, .int .u64 ic, .int .i64 wt, .int .i64 by_] 64 (0, 0)) from fun w3 ht => (ht.block b0 (blk_lt HBXD.out) (fun hf => by have := HFb.out b0 (.inl hf); omega)).trans HBXD.out)
              have HGN := Lib.hid (show ∀ w3 : World, Tn G wa.drew w3 → w3.heap[b0]? = some (.cells #[.int .u8 kd, .int .i64 lt, .int .u64 n, .int .u64 ic, .int .i64 wt, .int .i64 by_] 64 (0, 0)) from fun w3 ht => (ht.block b0 (blk_lt HBXD.out) (fun hf => by have := HFb.out b0 (.inr hf); omega)).trans HBXD.out)
              clear hpg hR hbd
              dsimp only at HC HD HPG
              go_wp2_with fail
              clear z0 z1 z2 z3 z4 z5
              go_region_held3 (fun w' => w'.cell? ⟨b0, 2, none⟩ = some (.int .u64 n))
                (first | exact HS0.out | exact HS1.out | exact HS2.out | exact HS3.out | exact HS4.out)
                (first
                  | (go_at_call 31; refine HC.out.mono ?_; rintro e w3 ⟨rfl, hm3⟩; have HP3 := Lib.hid (HPD.out.mem hm3 HBD.out.size); have HB3 := Lib.hid (HBD.out.trans (HPD.out.bm hm3.2 HBD.out.size)); have hbx3 := HFN.out w3 hm3.2; have HS1 := Lib.hid (show w3.cell? ⟨b0, 2, none⟩ = some (.int .u64 n) from blk_cell (hbx3) 2); have HX3 := Lib.hid hbx3; have HD3 := Lib.hid (rldrain HP3.out.2.1 (pg_nd HGr.out) (by have := HGr.out.len; omega) nw n); rw [HRR.out] at HD3; dsimp only at HD3; have HF3 := Lib.hid hm3.2; clear hm3 hbx3)
                  | (go_at_call 41; refine HD3.out.mono ?_; rintro e w4 ⟨rfl, hr4, ht4⟩; have HF := Lib.hid (show PlI w p m q (i + 1) w4 from ⟨_, _, _, _, _, HP3.out.ref (hr4.up ht4) ht4 HB3.out.size, HPG.out, HB3.out.trans (HP3.out.br ht4 HB3.out.size), HLL.out⟩); have hbx4 := (ht4.block b0 (blk_lt HX3.out) (fun hf => by have := HFb.out b0 (.inr hf); omega)).trans HX3.out; have HS2 := Lib.hid (show w4.cell? ⟨b0, 2, none⟩ = some (.int .u64 n) from blk_cell (hbx4) 2); clear hr4 ht4 hbx4)
                  | (go_at_call 41; refine HD.out.mono ?_; rintro e w5 ⟨rfl, hr5, ht5⟩; have HP5 := Lib.hid (HPD.out.ref (hr5.up ht5) ht5 HBD.out.size); have HB5 := Lib.hid (HBD.out.trans (HPD.out.br ht5 HBD.out.size)); have hbx5 := HGN.out w5 ht5; have HS3 := Lib.hid (show w5.cell? ⟨b0, 2, none⟩ = some (.int .u64 n) from blk_cell (hbx5) 2); have HX5 := Lib.hid hbx5; have HC5 := Lib.hid (msdrain HP5.out.1 nw n); rw [HRR.out] at HC5; dsimp only at HC5; clear hr5 ht5 hbx5)
                  | (go_at_call 31; refine HC5.out.mono ?_; rintro e w6 ⟨rfl, hm6⟩; have HF := Lib.hid (show PlI w p m q (i + 1) w6 from ⟨_, _, _, _, _, HP5.out.mem hm6 HB5.out.size, HPG.out, HB5.out.trans (HP5.out.bm hm6.2 HB5.out.size), HLL.out⟩); have hbx6 := (hm6.2.block b0 (blk_lt HX5.out) (fun hf => by have := HFb.out b0 (.inl hf); omega)).trans HX5.out; have HS4 := Lib.hid (show w6.cell? ⟨b0, 2, none⟩ = some (.int .u64 n) from blk_cell (hbx6) 2); clear hm6 hbx6))
              all_goals
                go_wp2_with fail
                go_meet
                exact ⟨rfl, HF⟩
            · as_aux_lemma =>
              have hbd := below_drew (Below.refl wa.heap.size wa)
              have HPD := Lib.hid (HP0.out.below hbd)
              have HBD := Lib.hid (below_then HB0.out HB0.out.size hbd)
              have HBXD := Lib.hid (blk_below HBX.out hbd)
              have HC := Lib.hid (msremove HPD.out.1 HGr.out nw n wt)
              have HD := Lib.hid (rlremove HPD.out.2.1 (pg_nd HGr.out) (by have := HGr.out.len; omega) nw n wt (fun r hl => rem_rr HGr.out HLT.out hl))
              have hpg := pg_rem HGr.out HLT.out.1 HLT.out.2 n wt
              obtain ⟨R, hR⟩ : ∃ R, pRem (lat T nw) n wt V = R := ⟨_, rfl⟩
              have HRR := Lib.hid hR
              rw [hR] at HC HD hpg
              obtain ⟨code, V1⟩ := R
              have HPG := Lib.hid hpg
              have HLL := Lib.hid (show last ≤ (i : Int) + 1 by omega)
              have HS0 := Lib.hid (show wa.drew.cell? ⟨b0, 2, none⟩ = some (.int .u64 n) ∧ wa.drew.cell? ⟨b0, 4, none⟩ = some (.int .i64 wt) from ⟨blk_cell (HBXD.out) 2, blk_cell (HBXD.out) 4⟩)
              have HFN := Lib.hid (show ∀ w3 : World, Tn F wa.drew w3 → w3.heap[b0]? = some (.cells #[.int .u8 kd, .int .i64 lt, .int .u64 n, .int .u64 ic, .int .i64 wt, .int .i64 by_] 64 (0, 0)) from fun w3 ht => (ht.block b0 (blk_lt HBXD.out) (fun hf => by have := HFb.out b0 (.inl hf); omega)).trans HBXD.out)
              have HGN := Lib.hid (show ∀ w3 : World, Tn G wa.drew w3 → w3.heap[b0]? = some (.cells #[.int .u8 kd, .int .i64 lt, .int .u64 n, .int .u64 ic, .int .i64 wt, .int .i64 by_] 64 (0, 0)) from fun w3 ht => (ht.block b0 (blk_lt HBXD.out) (fun hf => by have := HFb.out b0 (.inr hf); omega)).trans HBXD.out)
              clear hpg hR hbd
              dsimp only at HC HD HPG
              go_wp2_with fail
              clear z0 z1 z2 z3 z4 z5
              go_region_held3 (fun w' => w'.cell? ⟨b0, 2, none⟩ = some (.int .u64 n) ∧ w'.cell? ⟨b0, 4, none⟩ = some (.int .i64 wt))
                (first | exact HS0.out | exact HS1.out | exact HS2.out | exact HS3.out | exact HS4.out)
                (first
                  | (go_at_call 32; refine HC.out.mono ?_; rintro e w3 ⟨rfl, hm3⟩; have HP3 := Lib.hid (HPD.out.mem hm3 HBD.out.size); have HB3 := Lib.hid (HBD.out.trans (HPD.out.bm hm3.2 HBD.out.size)); have hbx3 := HFN.out w3 hm3.2; have HS1 := Lib.hid (show w3.cell? ⟨b0, 2, none⟩ = some (.int .u64 n) ∧ w3.cell? ⟨b0, 4, none⟩ = some (.int .i64 wt) from ⟨blk_cell (hbx3) 2, blk_cell (hbx3) 4⟩); have HX3 := Lib.hid hbx3; have HD3 := Lib.hid (rlremove HP3.out.2.1 (pg_nd HGr.out) (by have := HGr.out.len; omega) nw n wt (fun r hl => rem_rr HGr.out HLT.out hl)); rw [HRR.out] at HD3; dsimp only at HD3; have HF3 := Lib.hid hm3.2; clear hm3 hbx3)
                  | (go_at_call 42; refine HD3.out.mono ?_; rintro e w4 ⟨rfl, hr4, ht4⟩; have HF := Lib.hid (show PlI w p m q (i + 1) w4 from ⟨_, _, _, _, _, HP3.out.ref hr4 ht4 HB3.out.size, HPG.out, HB3.out.trans (HP3.out.br ht4 HB3.out.size), HLL.out⟩); have hbx4 := (ht4.block b0 (blk_lt HX3.out) (fun hf => by have := HFb.out b0 (.inr hf); omega)).trans HX3.out; have HS2 := Lib.hid (show w4.cell? ⟨b0, 2, none⟩ = some (.int .u64 n) ∧ w4.cell? ⟨b0, 4, none⟩ = some (.int .i64 wt) from ⟨blk_cell (hbx4) 2, blk_cell (hbx4) 4⟩); clear hr4 ht4 hbx4)
                  | (go_at_call 42; refine HD.out.mono ?_; rintro e w5 ⟨rfl, hr5, ht5⟩; have HP5 := Lib.hid (HPD.out.ref hr5 ht5 HBD.out.size); have HB5 := Lib.hid (HBD.out.trans (HPD.out.br ht5 HBD.out.size)); have hbx5 := HGN.out w5 ht5; have HS3 := Lib.hid (show w5.cell? ⟨b0, 2, none⟩ = some (.int .u64 n) ∧ w5.cell? ⟨b0, 4, none⟩ = some (.int .i64 wt) from ⟨blk_cell (hbx5) 2, blk_cell (hbx5) 4⟩); have HX5 := Lib.hid hbx5; have HC5 := Lib.hid (msremove HP5.out.1 HGr.out nw n wt); rw [HRR.out] at HC5; dsimp only at HC5; clear hr5 ht5 hbx5)
                  | (go_at_call 32; refine HC5.out.mono ?_; rintro e w6 ⟨rfl, hm6⟩; have HF := Lib.hid (show PlI w p m q (i + 1) w6 from ⟨_, _, _, _, _, HP5.out.mem hm6 HB5.out.size, HPG.out, HB5.out.trans (HP5.out.bm hm6.2 HB5.out.size), HLL.out⟩); have hbx6 := (hm6.2.block b0 (blk_lt HX5.out) (fun hf => by have := HFb.out b0 (.inl hf); omega)).trans HX5.out; have HS4 := Lib.hid (show w6.cell? ⟨b0, 2, none⟩ = some (.int .u64 n) ∧ w6.cell? ⟨b0, 4, none⟩ = some (.int .i64 wt) from ⟨blk_cell (hbx6) 2, blk_cell (hbx6) 4⟩); clear hm6 hbx6))
              all_goals
                go_wp2_with fail
                go_meet
                exact ⟨rfl, HF⟩
            · as_aux_lemma =>
              have hbd := below_drew (Below.refl wa.heap.size wa)
              have HPD := Lib.hid (HP0.out.below hbd)
              have HBD := Lib.hid (below_then HB0.out HB0.out.size hbd)
              have HBXD := Lib.hid (blk_below HBX.out hbd)
              have HC := Lib.hid (msbind HPD.out.1 HGr.out n by_)
              have HD := Lib.hid (rlbind HPD.out.2.1 (pg_nd HGr.out) (by have := HGr.out.len; omega) (fun x hx => (HGr.out.el x hx).2.2.2.2.1) n by_)
              have hpg := pg_bind HGr.out n by_
              obtain ⟨R, hR⟩ : ∃ R, pBind n by_ V = R := ⟨_, rfl⟩
              have HRR := Lib.hid hR
              rw [hR] at HC HD hpg
              obtain ⟨code, V1⟩ := R
              have HPG := Lib.hid hpg
              have HLL := Lib.hid (show last ≤ (i : Int) + 1 by omega)
              have HS0 := Lib.hid (show wa.drew.cell? ⟨b0, 2, none⟩ = some (.int .u64 n) ∧ wa.drew.cell? ⟨b0, 5, none⟩ = some (.int .i64 by_) from ⟨blk_cell (HBXD.out) 2, blk_cell (HBXD.out) 5⟩)
              have HFN := Lib.hid (show ∀ w3 : World, Tn F wa.drew w3 → w3.heap[b0]? = some (.cells #[.int .u8 kd, .int .i64 lt, .int .u64 n, .int .u64 ic, .int .i64 wt, .int .i64 by_] 64 (0, 0)) from fun w3 ht => (ht.block b0 (blk_lt HBXD.out) (fun hf => by have := HFb.out b0 (.inl hf); omega)).trans HBXD.out)
              have HGN := Lib.hid (show ∀ w3 : World, Tn G wa.drew w3 → w3.heap[b0]? = some (.cells #[.int .u8 kd, .int .i64 lt, .int .u64 n, .int .u64 ic, .int .i64 wt, .int .i64 by_] 64 (0, 0)) from fun w3 ht => (ht.block b0 (blk_lt HBXD.out) (fun hf => by have := HFb.out b0 (.inr hf); omega)).trans HBXD.out)
              clear hpg hR hbd
              dsimp only at HC HD HPG
              go_wp2_with fail
              clear z0 z1 z2 z3 z4 z5
              go_region_held3 (fun w' => w'.cell? ⟨b0, 2, none⟩ = some (.int .u64 n) ∧ w'.cell? ⟨b0, 5, none⟩ = some (.int .i64 by_))
                (first | exact HS0.out | exact HS1.out | exact HS2.out | exact HS3.out | exact HS4.out)
                (first
                  | (go_at_call 33; refine HC.out.mono ?_; rintro e w3 ⟨rfl, hm3⟩; have HP3 := Lib.hid (HPD.out.mem hm3 HBD.out.size); have HB3 := Lib.hid (HBD.out.trans (HPD.out.bm hm3.2 HBD.out.size)); have hbx3 := HFN.out w3 hm3.2; have HS1 := Lib.hid (show w3.cell? ⟨b0, 2, none⟩ = some (.int .u64 n) ∧ w3.cell? ⟨b0, 5, none⟩ = some (.int .i64 by_) from ⟨blk_cell (hbx3) 2, blk_cell (hbx3) 5⟩); have HX3 := Lib.hid hbx3; have HD3 := Lib.hid (rlbind HP3.out.2.1 (pg_nd HGr.out) (by have := HGr.out.len; omega) (fun x hx => (HGr.out.el x hx).2.2.2.2.1) n by_); rw [HRR.out] at HD3; dsimp only at HD3; have HF3 := Lib.hid hm3.2; clear hm3 hbx3)
                  | (go_at_call 43; refine HD3.out.mono ?_; rintro e w4 ⟨rfl, hr4, ht4⟩; have HF := Lib.hid (show PlI w p m q (i + 1) w4 from ⟨_, _, _, _, _, HP3.out.ref (hr4.up ht4) ht4 HB3.out.size, HPG.out, HB3.out.trans (HP3.out.br ht4 HB3.out.size), HLL.out⟩); have hbx4 := (ht4.block b0 (blk_lt HX3.out) (fun hf => by have := HFb.out b0 (.inr hf); omega)).trans HX3.out; have HS2 := Lib.hid (show w4.cell? ⟨b0, 2, none⟩ = some (.int .u64 n) ∧ w4.cell? ⟨b0, 5, none⟩ = some (.int .i64 by_) from ⟨blk_cell (hbx4) 2, blk_cell (hbx4) 5⟩); clear hr4 ht4 hbx4)
                  | (go_at_call 43; refine HD.out.mono ?_; rintro e w5 ⟨rfl, hr5, ht5⟩; have HP5 := Lib.hid (HPD.out.ref (hr5.up ht5) ht5 HBD.out.size); have HB5 := Lib.hid (HBD.out.trans (HPD.out.br ht5 HBD.out.size)); have hbx5 := HGN.out w5 ht5; have HS3 := Lib.hid (show w5.cell? ⟨b0, 2, none⟩ = some (.int .u64 n) ∧ w5.cell? ⟨b0, 5, none⟩ = some (.int .i64 by_) from ⟨blk_cell (hbx5) 2, blk_cell (hbx5) 5⟩); have HX5 := Lib.hid hbx5; have HC5 := Lib.hid (msbind HP5.out.1 HGr.out n by_); rw [HRR.out] at HC5; dsimp only at HC5; clear hr5 ht5 hbx5)
                  | (go_at_call 33; refine HC5.out.mono ?_; rintro e w6 ⟨rfl, hm6⟩; have HF := Lib.hid (show PlI w p m q (i + 1) w6 from ⟨_, _, _, _, _, HP5.out.mem hm6 HB5.out.size, HPG.out, HB5.out.trans (HP5.out.bm hm6.2 HB5.out.size), HLL.out⟩); have hbx6 := (hm6.2.block b0 (blk_lt HX5.out) (fun hf => by have := HFb.out b0 (.inl hf); omega)).trans HX5.out; have HS4 := Lib.hid (show w6.cell? ⟨b0, 2, none⟩ = some (.int .u64 n) ∧ w6.cell? ⟨b0, 5, none⟩ = some (.int .i64 by_) from ⟨blk_cell (hbx6) 2, blk_cell (hbx6) 5⟩); clear hm6 hbx6))
              all_goals
                go_wp2_with fail
                go_meet
                exact ⟨rfl, HF⟩
            · as_aux_lemma =>
              have HC := Lib.hid (msup HP0.out.1 HGr.out nw n ic hic)
              have hpg := pg_up HGr.out HLT.out.1 HLT.out.2 n ic hic
              have hll : last ≤ (i : Int) + 1 := by omega
              obtain ⟨R, hR⟩ : ∃ R, pUp (lat T nw) n ic V = R := ⟨_, rfl⟩
              have HRR := Lib.hid hR
              rw [hR] at HC hpg
              obtain ⟨⟨an, code⟩, V1⟩ := R
              have HPG := Lib.hid hpg
              have HLL := Lib.hid hll
              clear hpg hll hR
              dsimp only at HC HPG HLL
              go_wp2_with fail
              refine HC.out.mono ?_
              rintro e w3 ⟨rfl, hm3⟩
              have HP3 := Lib.hid (HP0.out.mem hm3 HBS.out)
              have HB3 := Lib.hid (HB0.out.trans (HP0.out.bm hm3.2 HBS.out))
              have hbx3 := (hm3.2.block b0 (blk_lt HBX.out) (fun hf => by have := HFb.out b0 (.inl hf); omega)).trans HBX.out
              have y0 := blk_cell hbx3 0
              have y2 := blk_cell hbx3 2
              have y3 := blk_cell hbx3 3
              have HC2 := Lib.hid (rlup HP3.out.2.1 (pg_nd HGr.out) (by have := HGr.out.len; omega) (fun x hx => ⟨(HGr.out.el x hx).2.2.1, (HGr.out.el x hx).2.2.2.1⟩) nw n ic hic)
              rw [HRR.out] at HC2
              dsimp only at HC2
              clear hm3 hbx3
              go_wp2_with fail
              refine HC2.out.mono ?_
              rintro e w4 ⟨rfl, hr4, ht4⟩
              have HF := Lib.hid (show PlI w p m q (i + 1) w4 from ⟨_, _, _, _, _, HP3.out.ref (hr4.up ht4) ht4 HB3.out.size, HPG.out, HB3.out.trans (HP3.out.br ht4 HB3.out.size), HLL.out⟩)
              clear hr4 ht4
              go_wp2_with fail
              go_meet
              exact ⟨rfl, HF⟩
          case rest => as_aux_lemma =>
            obtain ⟨rfl, HPI⟩ := hcut
            obtain ⟨w3, hw3⟩ : ∃ w3, w3 = wc := ⟨_, rfl⟩
            subst hw3
            obtain ⟨F1, G1, T1, last1, V1, hP, hG, hbr, hla1⟩ := HPI.out
            obtain ⟨A, c, hx⟩ := hP.2.1
            obtain ⟨n1, hn1⟩ : ∃ n1, V1.length = n1 := ⟨_, rfl⟩
            have HN1 := Lib.hid hn1
            have hn8 : n1 ≤ 8 := by rw [← hn1]; exact hG.len
            have HP1 := Lib.hid hP
            have HG1 := Lib.hid hG
            have HB1 := Lib.hid hbr
            have HFU := Lib.hid (fun (W' : World) (hb : Below w3.heap.size w3 W') => show (W'.cell? ⟨q, 0, none⟩ = some (.int .i64 T1) ∧ W'.cell? ⟨q, 2, none⟩ = some (.slice A n1 c)) ∧ KRp.C W' A n1 V1 from by
              have h := hx.below hb
              have h2 := h.row
              have h3 := h.at_.1
              rw [hn1] at h2 h3
              exact ⟨⟨h3.1, h3.2.2⟩, h2⟩)
            have hnc : n1 ≤ c := by
              obtain ⟨A', c', e, h9, -⟩ := Kd.R_reads (rp_of_own hx.2.1)
              injection e with e1 e2 e3
              rw [e3, ← hn1]; exact h9
            have HNC := Lib.hid hnc
            obtain ⟨lv, hlv⟩ : ∃ lv, liveN V1 = lv := ⟨_, rfl⟩
            have HLV := Lib.hid hlv
            have HBD := Lib.hid (below_drew (Below.refl w3.heap.size w3))
            have HALL := Lib.hid (msall (HP1.out.below HBD.out).1 HG1.out)
            have HS0 := Lib.hid (HFU.out w3.drew HBD.out).1
            clear hP hG hbr hx hn1 hlv hnc HPI z0 z1 z2 z3 z4 z5
            go_wp2_with fail
            go_region_held3 (fun w' => w'.cell? ⟨q, 0, none⟩ = some (.int .i64 T1) ∧ w'.cell? ⟨q, 2, none⟩ = some (.slice A n1 c))
              (first | exact HS0.out | exact HS5.out | exact HS6.out | exact HS7.out)
              (first
                | (go_at_call 28; refine HALL.out.mono ?_; rintro e w5 ⟨v5, rfl, hr5, hb5⟩; obtain ⟨A5, c5, e5, hc5, hC5⟩ := Kd.R_reads hr5; rw [HN1.out] at e5 hc5 hC5; subst e5; have HB5 := Lib.hid (below_then HBD.out HBD.out.size hb5); have HS5 := Lib.hid (HFU.out w5 HB5.out).1; have HSM := Lib.hid (same24_any w5 A5 A c5 c n1 V1 HN1.out hC5 (HFU.out w5 HB5.out).2 (by omega) hc5 HNC.out); clear hr5 hb5 hc5 hC5)
                | (go_at_call 45; refine HSM.out.mono ?_; rintro e w6 ⟨rfl, hb6⟩; have HB6 := Lib.hid (below_then HB5.out HB5.out.size hb6); have HS6 := Lib.hid (HFU.out w6 HB6.out).1; have HL6 := Lib.hid (mslive (HP1.out.below HB6.out).1 HG1.out); have HR6 := Lib.hid (rllive (HP1.out.below HB6.out).2.1 (by rw [HN1.out]; omega)); rw [HLV.out] at HL6 HR6; clear hb6)
                | (go_at_call 46; refine HR7.out.mono ?_; rintro e w' ⟨rfl, rfl⟩)
                | (go_at_call 46; refine HR6.out.mono ?_; rintro e w' ⟨rfl, rfl⟩)
                | (go_at_call 37; refine HL6.out.mono ?_; rintro e w7 ⟨rfl, hb7⟩; have HB7 := Lib.hid (below_then HB6.out HB6.out.size hb7); have HS7 := Lib.hid (HFU.out w7 HB7.out).1; have HR7 := Lib.hid (rllive (HP1.out.below HB7.out).2.1 (by rw [HN1.out]; omega)); rw [HLV.out] at HR7; have HN7 := Lib.hid (msnow (HP1.out.below HB7.out).1); clear hb7)
                | (go_at_call 47; refine HN7.out.mono ?_; rintro e w' ⟨rfl, rfl⟩))
            all_goals
              go_wp2_with fail
              go_roundw
              case rel => exact ⟨i + 1, by go_num, by omega, Lib.hid ⟨F1, G1, T1, last1, V1, HP1.out.below HB7.out, HG1.out, below_then HB1.out HB1.out.size HB7.out, by omega⟩⟩
              case measure => simp [intOf]; omega
    · have hiM2 : i = M := by omega
      subst hiM2
      go_wp2_with fail
      refine (alive24_any wr).mono ?_
      rintro e w4 ⟨rfl, hb⟩
      have HB4 := Lib.hid (below_then HBr.out HBr.out.size hb)
      clear hb
      go_wp2_with fail
      go_ret
      exact ⟨rfl, HB4.out⟩

set_option maxRecDepth 100000 in
theorem lifted (os : Os) (started : os.Started) (H : Type) (enc : TypeId × Value → H) :
    ReturnsInHanded {} Try.checked os 7 .any (Rows.memberPlaysSpec.pre6 enc Try.prog Try.f7 Rows.memberPlaysRow.domain false) (Rows.memberPlaysSpec.post enc Try.prog Try.f7 false true false false) := by
  refine returnsInHanded_of_change (C := Try.checked) own started (by kernel_rfl) Try.func7
    (ChangeSpec.witness6 (enc := enc) (C := Try.checked) false ⟨#[], #[.slice none 0 0], []⟩ 8 (by kernel_rfl) (by kernel_rfl) (by kernel_rfl) (by kernel_rfl)) ?_
  intro W base args ds gs before hval0 hW hcnd _
  have hval : ∀ (j : Nat) t v, Try.f7.params[j]? = some t → args[j]? = some v → Value.okWide Try.prog W .any base t v := hval0
  have hW' := hW
  obtain ⟨p, q, hA0, hV, rfl, hfz, hnd⟩ := hW
  have hA : DataW.TrodAll enc Try.prog W 0 (fun _ => true) true Try.f7.params.toList args.toList ds p := hA0
  rw [Try.params7] at hA hval
  obtain ⟨v0, vs0, d0, ds0, p0, q0, hargs, rfl, rfl, h0, r0⟩ := trodAll_cons hA
  obtain ⟨rfl, rfl, rfl⟩ := trodAll_nil r0
  obtain rfl : args = #[v0] := by cases args; simp_all
  obtain ⟨rfl, rfl⟩ := trodVars_none hV
  have k0 := h0
  have lt0 : ∀ x ∈ p0, x.block < W.heap.size := by obtain ⟨m, hm⟩ := k0; exact DataW.trod_lt m _ _ _ hm
  obtain ⟨a0, len0, cap0, rfl⟩ := okWide_slice Try.underlying59 (hval 0 59 v0 rfl rfl)
  obtain ⟨x0, y0, g0⟩ : ∃ x, (Kd.slice 64 KMStep).K W x [.slice a0 len0 cap0] ∧ (fun xs => (∀ x ∈ xs, MStepG x) ∧ xs.length ≤ maxLen) x := by obtain ⟨m, hm⟩ := k0; exact op_msteps _ _ _ m _ _ hm
  clear hA0 hval0
  refine (walk a0 len0 cap0 x0 W y0 g0).mono fun e W' ⟨he, bel⟩ => ?_
  subst he
  exact ⟨_, rfl, _, _, _, [], _, [], hW', trodAll_mk1 (shut_bool Try.underlying4 _), (trodAll_cons_mk (Below.trod laidOut (by kernel_rfl) (of_decide_eq_true (by kernel_rfl)) k0 bel lt0) trodAll_mk0), rfl, bel.frame _, fun h => by cases h⟩

theorem over : Rows.memberPlaysRow.holds Try.pinned (OpenSpec.ofChange Rows.memberPlaysSpec) :=
  OpenClaim.holds_of_wide 7 Try.f7 rfl rfl rfl rfl rfl rfl rfl ⟨rfl, rfl, rfl, rfl, rfl⟩ rfl rfl rfl rfl rfl (by kernel_rfl) Try.func7 (by kernel_rfl)
    (of_decide_eq_true (by kernel_rfl)) (by unfold Func.isWrapper; first | (rw [if_pos (by decide +kernel)]; kernel_rfl) | (rw [if_neg (by decide +kernel)]; exact ⟨rfl, rfl⟩))
    (fun os started H enc _ => lifted os started H enc)

theorem proved : Rows.MemberPlaysSaid := over
end Go.Proofs.Ytmbhicjjbgbneaa.memberPlays
