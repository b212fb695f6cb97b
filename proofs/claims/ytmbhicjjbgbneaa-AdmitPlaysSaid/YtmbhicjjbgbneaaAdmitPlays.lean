/- A table answers every call, in every order, as the document says, and has behind each the streams that the document's has. -/
import Derived.Test.YtmbhicjjbgbneaaRows
import Derived.WalkKit
import Derived.ProofKit
import Derived.OpenShut
import Derived.ShutString
import Derived.ChangeOld
import Derived.Below
import Derived.Test.YtmbhicjjbgbneaaOpn
import Derived.Test.YtmbhicjjbgbneaaAdO
import Derived.Deep.DeepCutAuto
import Derived.Deep.CutBlock
import Derived.Deep.RegionHeld3
namespace Go.Proofs.Ytmbhicjjbgbneaa.admitPlays
open Go.ChangeShapes Go.WideShapes Go.ChangeAt Go.RowKit
open Go.ChangeMaps (open_string shut_string)
set_option linter.unusedVariables false
set_option linter.unusedSimpArgs false
open Go.Proofs.YtmbhicjjbgbneaaW.PrintWords Go.Proofs.YtmbhicjjbgbneaaW.PrintLast Go.Proofs.YtmbhicjjbgbneaaW.PrintMore

theorem own : ownKnob Try.prog.godebug = none := by kernel_rfl
theorem laidOut : laidOutB Try.prog = true := by kernel_rfl

set_option maxRecDepth 100000
theorem slice_came {α : Type} {e : Nat} {d : Kd α} {w : World} {a : Option Addr} {len cap : Nat} {xs : List α} (h : (Kd.slice e d).K w xs [.slice a len cap]) : len = xs.length ∧ xs.length ≤ cap ∧ d.C w a xs.length xs := by
  obtain ⟨A, c, he, hl, hC⟩ := h
  simp only [List.cons.injEq, Value.slice.injEq, and_true] at he
  obtain ⟨rfl, rfl, rfl⟩ := he
  exact ⟨rfl, hl, hC⟩
theorem rise (ys ks : List Int) (hp : ys.Perm ks) (hn : ks.Nodup) (hs : ys.Pairwise (fun a b => a ≤ b)) (j : Nat) (hj : j + 1 < ys.length) : ys.getD j 0 < ys.getD (j + 1) 0 := by
  have hnd : ys.Nodup := hp.nodup_iff.2 hn
  have h1 := List.pairwise_iff_getElem.1 hs j (j + 1) (by omega) hj (by omega)
  have h2 := List.pairwise_iff_getElem.1 hnd j (j + 1) (by omega) hj (by omega)
  rw [List.getD_eq_getElem?_getD, List.getD_eq_getElem?_getD, List.getElem?_eq_getElem (by omega), List.getElem?_eq_getElem hj]
  show ys[j] < ys[j + 1]
  omega
theorem rd_nat (xs : List Int) (j : Nat) : rd xs (j : Int) = xs.getD j 0 := by
  unfold rd
  rw [Int.toNat_natCast]
theorem keys_in (ys ks : List Int) (hp : ys.Perm ks) (j : Nat) (hj : j < ys.length) : ys.getD j 0 ∈ ks := by
  rw [List.getD_eq_getElem?_getD, List.getElem?_eq_getElem hj]
  exact hp.mem_iff.1 (List.getElem_mem hj)
theorem ks_some {V : List Sm} {n : Int} (h : n ∈ mkeys V) (b : Bool) : ((mlook V n).isSome || b) = true := by
  have : (mlook V n).isSome = true := by
    rw [Option.isSome_iff_ne_none]
    intro h2
    exact mlook_none.1 h2 h
  rw [this]; rfl
set_option maxHeartbeats 8000000 in
theorem walk (cs0 : Array Value) (x0 : TSet) (a1 : Option Addr) (len1 cap1 : Nat) (x1 : List AStepV) (w : World) (k0 : KSt.K w x0 cs0.toList) (gd0 : (StW) x0) (k1 : (Kd.slice 46 KAStep).K w x1 [.slice a1 len1 cap1]) (gd1 : (fun xs => (∀ x ∈ xs, AStepG x) ∧ xs.length ≤ maxLen) x1) :
    Calls Try.prog 3 #[.agg cs0, .slice a1 len1 cap1] w fun e w' => e = .returned (.bool true) ∧ Below w.heap.size w w' := by
  obtain rfl := st_cells k0
  obtain ⟨rfl, hcx, hx⟩ := slice_came k1
  obtain ⟨hgd, hml⟩ := gd1
  have HX := Lib.hid (fun (W' : World) (hb : Below w.heap.size w W') => Kd.C_below hx hb)
  have HGD := Lib.hid hgd
  have HSHO := Lib.hid (fun (W' : World) => short26_any a1 x1.length cap1 hcx W')
  have HFA := Lib.hid (fun (W' : World) (hb : Below w.heap.size w W') => far26_any a1 x1 cap1 W' (HX.out W' hb) hcx)
  obtain ⟨N, hN⟩ : ∃ N, x1.length = N := ⟨_, rfl⟩
  rw [hN] at hcx HSHO HFA ⊢
  have HN := Lib.hid hN
  obtain ⟨Mn, hM⟩ : ∃ M, min N 300 = M := ⟨_, rfl⟩
  rw [hM] at HSHO
  have hMN : Mn ≤ N := by omega
  have hM2 : Mn ≤ 300 := by omega
  obtain ⟨fb, hfb⟩ : ∃ b, decide (10000 < farA (x1.take 300)) = b := ⟨_, rfl⟩
  rw [hfb] at HFA
  have HMAY := Lib.hid (fun W' => rmay26 x0 W')
  have HTH := Lib.hid (fun W' => theirs26_any x0 W')
  have HNEW := Lib.hid (fun W' (h : x0.ok) => af_new W' x0 h)
  have HBAD := Lib.hid (fun W' (h : ¬ x0.ok) => adnew_bad W' x0 h)
  have HVV := Lib.hid (show x0.v = .agg #[.int .u64 x0.seed, .int .i64 x0.vocab, .int .i64 x0.dim, .int .i64 x0.layers, .int .i64 x0.top, .int .i64 x0.heat, .int .i64 x0.streams, .int .i64 x0.each, .int .i64 x0.prompt, .int .i64 x0.most] from rfl)
  rw [HVV.out] at HTH HNEW HBAD HMAY
  have hb0 := below_alloc (Below.refl w.heap.size w) (.cells #[.int .u64 x0.seed, .int .i64 x0.vocab, .int .i64 x0.dim, .int .i64 x0.layers, .int .i64 x0.top, .int .i64 x0.heat, .int .i64 x0.streams, .int .i64 x0.each, .int .i64 x0.prompt, .int .i64 x0.most] 26)
  have hk0 := heap_alloc_new w (.cells #[.int .u64 x0.seed, .int .i64 x0.vocab, .int .i64 x0.dim, .int .i64 x0.layers, .int .i64 x0.top, .int .i64 x0.heat, .int .i64 x0.streams, .int .i64 x0.each, .int .i64 x0.prompt, .int .i64 x0.most] 26)
  obtain ⟨W0, hW0⟩ : ∃ W0, w.alloc (.cells #[.int .u64 x0.seed, .int .i64 x0.vocab, .int .i64 x0.dim, .int .i64 x0.layers, .int .i64 x0.top, .int .i64 x0.heat, .int .i64 x0.streams, .int .i64 x0.each, .int .i64 x0.prompt, .int .i64 x0.most] 26) = W0 := ⟨_, rfl⟩
  obtain ⟨g, hg⟩ : ∃ g, w.heap.size = g := ⟨_, rfl⟩
  rw [hW0] at hb0 hk0
  rw [hg] at hk0
  have z0 := blk_cell hk0 0
  have z1 := blk_cell hk0 1
  have z2 := blk_cell hk0 2
  have z3 := blk_cell hk0 3
  have z4 := blk_cell hk0 4
  have z5 := blk_cell hk0 5
  have z6 := blk_cell hk0 6
  have z7 := blk_cell hk0 7
  have z8 := blk_cell hk0 8
  have z9 := blk_cell hk0 9
  have HB0 := Lib.hid hb0
  have HK0 := Lib.hid hk0
  have HG := Lib.hid hg
  have HW0 := Lib.hid hW0
  clear k0 k1 gd0 hgd hx hN hM hml hb0 hk0 hfb
  go_enter Try.func3, Try.ntmps3
  go_wp2_with fail
  clear hW0 hg
  refine (HTH.out _).mono ?_
  rintro e w1 ⟨rfl, hb⟩
  have HB1 := Lib.hid (below_then HB0.out HB0.out.size hb)
  have HK1 := Lib.hid (blk_below HK0.out hb)
  clear hb z0 z1 z2 z3 z4 z5 z6 z7 z8 z9 HK0
  go_wp2_with fail
  by_cases hok : x0.ok
  · have HOK := Lib.hid hok
    rw [decide_eq_true hok] at HMAY
    refine (HNEW.out w1 hok).mono ?_
    rintro e w2 ⟨p, mA, mP, rfl, hT, hb⟩
    have HB2 := Lib.hid (below_then HB1.out HB1.out.size hb)
    have HK2 := Lib.hid (blk_below HK1.out hb)
    have HT2 := Lib.hid hT
    clear hb hT hok HK1
    have z0 := blk_cell HK2.out 0
    have z1 := blk_cell HK2.out 1
    have z2 := blk_cell HK2.out 2
    have z3 := blk_cell HK2.out 3
    have z4 := blk_cell HK2.out 4
    have z5 := blk_cell HK2.out 5
    have z6 := blk_cell HK2.out 6
    have z7 := blk_cell HK2.out 7
    have z8 := blk_cell HK2.out 8
    have z9 := blk_cell HK2.out 9
    go_wp2_with fail
    refine (HMAY.out _).mono ?_
    rintro e w3 ⟨rfl, hb⟩
    have HB3 := Lib.hid (below_then HB2.out HB2.out.size hb)
    have HK3 := Lib.hid (blk_below HK2.out hb)
    have HT3 := Lib.hid (HT2.out.below hb)
    have HS23 := Lib.hid hb.size
    clear hb HK2 z0 z1 z2 z3 z4 z5 z6 z7 z8 z9
    have HFB := Lib.hid (HFA.out w3 HB3.out)
    go_wp2_with fail
    refine HFB.out.mono ?_
    rintro e w4 ⟨rfl, hb⟩
    have HB4 := Lib.hid (below_then HB3.out HB3.out.size hb)
    have HK4 := Lib.hid (blk_below HK3.out hb)
    have HT4 := Lib.hid (HT3.out.below hb)
    have HS24 := Lib.hid (show w2.heap.size ≤ w4.heap.size from Nat.le_trans HS23.out hb.size)
    clear hb HK3 HFB
    have z0 := blk_cell HK4.out 0
    have z1 := blk_cell HK4.out 1
    have z2 := blk_cell HK4.out 2
    have z3 := blk_cell HK4.out 3
    have z4 := blk_cell HK4.out 4
    have z5 := blk_cell HK4.out 5
    have z6 := blk_cell HK4.out 6
    have z7 := blk_cell HK4.out 7
    have z8 := blk_cell HK4.out 8
    have z9 := blk_cell HK4.out 9
    cases fb with
    | true =>
      go_wp2_with fail
      refine (HMAY.out _).mono ?_
      rintro e w5 ⟨rfl, hb⟩
      have HB5 := Lib.hid (below_then HB4.out HB4.out.size hb)
      have HK5 := Lib.hid (blk_below HK4.out hb)
      clear hb HK4 z0 z1 z2 z3 z4 z5 z6 z7 z8 z9
      have z0 := blk_cell HK5.out 0
      have z1 := blk_cell HK5.out 1
      have z2 := blk_cell HK5.out 2
      have z3 := blk_cell HK5.out 3
      have z4 := blk_cell HK5.out 4
      have z5 := blk_cell HK5.out 5
      have z6 := blk_cell HK5.out 6
      have z7 := blk_cell HK5.out 7
      have z8 := blk_cell HK5.out 8
      have z9 := blk_cell HK5.out 9
      go_wp2_with fail
      refine (HMAY.out _).mono ?_
      rintro e w6 ⟨rfl, hb⟩
      have HB6 := Lib.hid (below_then HB5.out HB5.out.size hb)
      clear hb HK5 z0 z1 z2 z3 z4 z5 z6 z7 z8 z9
      go_wp2_with fail
      refine (alive26_any _).mono ?_
      rintro e w7 ⟨rfl, hb⟩
      have HE := Lib.hid (below_then HB6.out HB6.out.size hb)
      clear hb
      go_wp2_with fail
      go_ret
      exact ⟨rfl, HE.out⟩
    | false =>
      have HI := Lib.hid (show PlA w x0 p mA mP w4.heap.size 0 (w4.alloc (.cells (x0.rbox (.slice none 0 0) (.slice none 0 0)) 40)) from by
        refine pla_new (b0 := w1.heap.size) HOK.out ?_ HB1.out.size HB4.out
        obtain ⟨lv, h1, h2, ⟨f1, f2, f3⟩, h4, h5⟩ := HT4.out
        have hs : w2.heap.size ≤ w4.heap.size := HS24.out
        exact ⟨lv, h1, h2, ⟨⟨f1.1, by omega⟩, ⟨f2.1, by omega⟩, f3.1, by omega⟩, fun k hk => ⟨(h4 k hk).1, by have := (h4 k hk).2; omega⟩, fun k hk => hk.2⟩)
      unfold TSet.rbox at HI
      obtain ⟨W5, hW5⟩ : ∃ W5, w4.alloc (.cells #[.int .u64 x0.seed, .int .i64 x0.vocab, .int .i64 x0.dim, .int .i64 x0.layers, .int .i64 x0.top, .int .i64 x0.heat, .int .i64 x0.streams, .int .i64 x0.each, .int .i64 x0.prompt, .int .i64 x0.most, .slice none 0 0, .slice none 0 0] 40) = W5 := ⟨_, rfl⟩
      obtain ⟨q, hq⟩ : ∃ q, w4.heap.size = q := ⟨_, rfl⟩
      rw [hW5, hq] at HI
      have HW5 := Lib.hid hW5
      clear hW5
      go_wp2_with fail
      rw [HW5.out]
      clear hq z0 z1 z2 z3 z4 z5 z6 z7 z8 z9
      refine (HSHO.out W5).mono ?_
      rintro e w' ⟨rfl, rfl⟩
      go_wp2_with fail
      go_loopw [51] (fun s51 wr => ∃ (i : Nat), s51 = .int .i64 i ∧ i ≤ Mn ∧ Hid (PlA w x0 p mA mP q i wr)) (fun s _ => Mn - (intOf s).toNat)
      case atStart => exact ⟨0, rfl, by omega, HI⟩
      case round =>
        obtain ⟨i, rfl, hi, HIr⟩ := hrel
        obtain ⟨F, G, all, past, hP, hA, hpl, hbr⟩ := HIr.out
        have HP := Lib.hid hP
        have HA := Lib.hid hA
        have HBr := Lib.hid hbr
        have hst64 := HOK.out.2.1
        have hroom := hA.room
        have HAL := Lib.hid (show all.length ≤ 64 by omega)
        clear hP hA hbr HIr HI hroom hst64
        by_cases hiM : i < Mn
        · obtain ⟨ad, x, A, c, rfl, hxi, hxm, hxc, hxC0, q0, q1, q2, q3, q4, q5⟩ := asteps_at (HX.out w (Below.refl _ _)) i (by rw [HN.out]; omega)
          have q0 := pw_cell_below HBr.out q0
          have q1 := pw_cell_below HBr.out q1
          have q2 := pw_cell_below HBr.out q2
          have q3 := pw_cell_below HBr.out q3
          have q4 := pw_cell_below HBr.out q4
          have q5 := pw_cell_below HBr.out q5
          have hxW := fun (W' : World) (hb : Below w.heap.size w W') => Kd.C_below hxC0 hb
          have hxC := hxW wr HBr.out
          clear hxC0
          have hg8 := HGD.out x hxm
          obtain ⟨kd, s, u, sd, xs, most⟩ := x
          dsimp only at hxc hxC hxW q0 q1 q2 q3 q4 q5
          have hk : 0 ≤ kd ∧ kd ≤ 255 := by
            have h := hg8.1
            change (decide ((0 : Int) ≤ kd) && decide (kd ≤ (255 : Int))) = true at h
            simpa using h
          obtain ⟨n, hn⟩ : ∃ n, xs.length = n := ⟨_, rfl⟩
          rw [hn] at hxc q4
          have HXC := Lib.hid (fun (W' : World) (hb : Below wr.heap.size wr W') => Kd.C_below hxC hb)
          have HXW := Lib.hid (fun (W' : World) (hb : Below w.heap.size w W') => hxW W' hb)
          have HXN := Lib.hid hn
          clear hxi hxm hxC hxW hg8 hn
          obtain ⟨W6, hW6⟩ : ∃ W6, wr.alloc (.cells #[.int .u8 kd, .int .u64 s, .int .u64 u, .int .u64 sd, .slice A n c, .int .i64 most] 46) = W6 := ⟨_, rfl⟩
          obtain ⟨zb, hzb⟩ : ∃ b, wr.heap.size = b := ⟨_, rfl⟩
          have hb6 := below_alloc (Below.refl wr.heap.size wr) (.cells #[.int .u8 kd, .int .u64 s, .int .u64 u, .int .u64 sd, .slice A n c, .int .i64 most] 46)
          have hk6 := heap_alloc_new wr (.cells #[.int .u8 kd, .int .u64 s, .int .u64 u, .int .u64 sd, .slice A n c, .int .i64 most] 46)
          rw [hW6] at hb6 hk6
          rw [hzb] at hk6
          have HFZ := Lib.hid (show ∀ k, F k ∨ G k → k ≠ zb from fun k hk e => by
            rcases hk with hk | hk
            · have := HP.out.1.lt k hk; omega
            · have := HP.out.2.1.lt k hk; omega)
          have HB6 := Lib.hid (below_then HBr.out HBr.out.size hb6)
          have HP6 := Lib.hid (HP.out.below hb6)
          have HX6 := Lib.hid (fun (W' : World) (hb : Below W6.heap.size W6 W') => HXC.out W' (below_then hb6 hb6.size hb))
          have HZ6 := Lib.hid hk6
          obtain ⟨R, hR⟩ : ∃ R, askV x0 all past s u xs.length (decide (Jok x0.cfg xs most)) most = R := ⟨_, rfl⟩
          have HRR := Lib.hid hR
          have HAR := Lib.hid (rge_ask HP6.out.2.1 HA.out.room (by have := HAL.out; omega) (by omega) s u sd most A c xs (HX6.out _ (Below.refl _ _)))
          rw [hR, HXN.out] at HAR
          clear hb6 hk6 HXC hR HP
          have y1 := blk_cell HZ6.out 1
          have y2 := blk_cell HZ6.out 2
          have y3 := blk_cell HZ6.out 3
          have y4 := blk_cell HZ6.out 4
          have y5 := blk_cell HZ6.out 5
          go_wp2_with fail
          clear hW6 hzb q0 q1 q2 q3 q4 q5
          refine HAR.out.mono ?_
          rintro e w7 ⟨rfl, hb7⟩
          have HB7 := Lib.hid (below_then HB6.out HB6.out.size hb7)
          have HP7 := Lib.hid (HP6.out.below hb7)
          have HX7 := Lib.hid (fun (W' : World) (hb : Below w7.heap.size w7 W') => HX6.out W' (below_then hb7 hb7.size hb))
          have HZ7 := Lib.hid (blk_below HZ6.out hb7)
          clear hb7 y1 y2 y3 y4 y5 HAR HP6 HX6 HZ6
          have y1 := blk_cell HZ7.out 1
          have y2 := blk_cell HZ7.out 2
          have y3 := blk_cell HZ7.out 3
          have y4 := blk_cell HZ7.out 4
          have y5 := blk_cell HZ7.out 5
          have HAP := Lib.hid (show Calls Try.prog 16 #[.pointer (some ⟨p, 0, none⟩), .int .u64 s, .int .u64 u, .agg #[.int .u64 sd, .slice A n c, .int .i64 most]] w7 fun e w' => e = .returned (.int .i64 R) ∧ Below w7.heap.size w7 w' from by
            obtain ⟨lv, ht⟩ := af_tt HP7.out.1
            have h := adask_in ht (by have := HAL.out; omega) s u sd most A c xs (HX7.out _ (Below.refl _ _))
            rw [HRR.out, HXN.out] at h
            exact h)
          go_wp2_with fail
          refine HAP.out.mono ?_
          rintro e w8 ⟨rfl, hb8⟩
          have HB8 := Lib.hid (below_then HB7.out HB7.out.size hb8)
          have HP8 := Lib.hid (HP7.out.below hb8)
          have HX8 := Lib.hid (fun (W' : World) (hb : Below w8.heap.size w8 W') => HX7.out W' (below_then hb8 hb8.size hb))
          have HZ8 := Lib.hid (blk_below HZ7.out hb8)
          clear hb8 y1 y2 y3 y4 y5 HAP HP7 HX7 HZ7
          have y0 := blk_cell HZ8.out 0
          go_upto_if 75 with fail
          go_cut [] (fun wx => Hid (∃ F G a2 p2, PA w.heap.size wx F G p mA mP q x0 a2 p2 a2 p2 ∧ AI x0 a2 p2 ∧ p2.length ≤ i + 1 ∧ Below w.heap.size w wx ∧ wx.heap[zb]? = some (.cells #[.int .u8 kd, .int .u64 s, .int .u64 u, .int .u64 sd, .slice A n c, .int .i64 most] 46 (0, 0))))
          case first =>
            have hbd := below_drew (Below.refl w8.heap.size w8)
            have HPD := Lib.hid (HP8.out.below hbd)
            have HBD := Lib.hid (below_then HB8.out HB8.out.size hbd)
            have HZD := Lib.hid (blk_below HZ8.out hbd)
            have HXD := Lib.hid (HX8.out _ hbd)
            have HFN := Lib.hid (show ∀ w3 : World, Tn F w8.drew w3 → w3.heap[zb]? = some (.cells #[.int .u8 kd, .int .u64 s, .int .u64 u, .int .u64 sd, .slice A n c, .int .i64 most] 46 (0, 0)) from fun w3 ht => (ht.block zb (blk_lt HZD.out) (fun hf => HFZ.out zb (.inl hf) rfl)).trans HZD.out)
            have HGN := Lib.hid (show ∀ w3 : World, Tn G w8.drew w3 → w3.heap[zb]? = some (.cells #[.int .u8 kd, .int .u64 s, .int .u64 u, .int .u64 sd, .slice A n c, .int .i64 most] 46 (0, 0)) from fun w3 ht => (ht.block zb (blk_lt HZD.out) (fun hf => HFZ.out zb (.inr hf) rfl)).trans HZD.out)
            clear hbd
            by_cases hk3 : kd % 3 = 1
            · as_aux_lemma =>
              have HC := Lib.hid (af_overall HPD.out.1 HA.out s (by omega))
              have HD := Lib.hid (rge_overall HPD.out.2.1 HA.out.nd (by have := HAL.out; omega) s (by omega))
              have HAI := Lib.hid (ai_over HA.out s)
              have HLN := Lib.hid (show (ovP all past s).length ≤ i + 1 by have := ovP_len all past s; omega)
              have HS0 := Lib.hid (show w8.drew.cell? ⟨zb, 1, none⟩ = some (.int .u64 s) from blk_cell (HZD.out) 1)
              go_wp2_with fail
              clear y0
              go_region_held3 (fun w' => w'.cell? ⟨zb, 1, none⟩ = some (.int .u64 s))
                (first | exact HS4.out | exact HS2.out | exact HS3.out | exact HS1.out | exact HS0.out)
                (first
                  | (go_at_call 18; refine HD3.out.mono ?_; rintro e w4 ⟨rfl, hr4, ht4⟩; have HF := Lib.hid (show ∃ F G a2 p2, PA w.heap.size w4 F G p mA mP q x0 a2 p2 a2 p2 ∧ AI x0 a2 p2 ∧ p2.length ≤ i + 1 ∧ Below w.heap.size w w4 ∧ w4.heap[zb]? = some (.cells #[.int .u8 kd, .int .u64 s, .int .u64 u, .int .u64 sd, .slice A n c, .int .i64 most] 46 (0, 0)) from ⟨_, _, _, _, HP3.out.ref hr4 ht4 HB3.out.size, HAI.out, HLN.out, HB3.out.trans (HP3.out.br ht4 HB3.out.size), (ht4.block zb (blk_lt HX3.out) (fun hf => HFZ.out zb (.inr hf) rfl)).trans HX3.out⟩); have HS2 := Lib.hid (show w4.cell? ⟨zb, 1, none⟩ = some (.int .u64 s) from blk_cell (HF.out.choose_spec.choose_spec.choose_spec.choose_spec.2.2.2.2) 1); clear hr4 ht4)
                  | (go_at_call 17; refine HC5.out.mono ?_; rintro e w6 ⟨rfl, hm6, ht6⟩; have HF := Lib.hid (show ∃ F G a2 p2, PA w.heap.size w6 F G p mA mP q x0 a2 p2 a2 p2 ∧ AI x0 a2 p2 ∧ p2.length ≤ i + 1 ∧ Below w.heap.size w w6 ∧ w6.heap[zb]? = some (.cells #[.int .u8 kd, .int .u64 s, .int .u64 u, .int .u64 sd, .slice A n c, .int .i64 most] 46 (0, 0)) from ⟨_, _, _, _, HP5.out.mem hm6 ht6 HB5.out.size, HAI.out, HLN.out, HB5.out.trans (HP5.out.bm ht6 HB5.out.size), (ht6.block zb (blk_lt HX5.out) (fun hf => HFZ.out zb (.inl hf) rfl)).trans HX5.out⟩); have HS4 := Lib.hid (show w6.cell? ⟨zb, 1, none⟩ = some (.int .u64 s) from blk_cell (HF.out.choose_spec.choose_spec.choose_spec.choose_spec.2.2.2.2) 1); clear hm6 ht6)
                  | (go_at_call 17; refine HC.out.mono ?_; rintro e w3 ⟨rfl, hm3, ht3⟩; have HP3 := Lib.hid (HPD.out.mem hm3 ht3 HBD.out.size); have HB3 := Lib.hid (HBD.out.trans (HPD.out.bm ht3 HBD.out.size)); have hbx3 := HFN.out w3 ht3; have HS1 := Lib.hid (show w3.cell? ⟨zb, 1, none⟩ = some (.int .u64 s) from blk_cell (hbx3) 1); have HX3 := Lib.hid hbx3; have HD3 := Lib.hid (rge_overall HP3.out.2.1 HA.out.nd (by have := HAL.out; omega) s (by omega)); clear hm3 ht3 hbx3)
                  | (go_at_call 18; refine HD.out.mono ?_; rintro e w5 ⟨rfl, hr5, ht5⟩; have HP5 := Lib.hid (HPD.out.ref hr5 ht5 HBD.out.size); have HB5 := Lib.hid (HBD.out.trans (HPD.out.br ht5 HBD.out.size)); have hbx5 := HGN.out w5 ht5; have HS3 := Lib.hid (show w5.cell? ⟨zb, 1, none⟩ = some (.int .u64 s) from blk_cell (hbx5) 1); have HX5 := Lib.hid hbx5; have HC5 := Lib.hid (af_overall HP5.out.1 HA.out s (by omega)); clear hr5 ht5 hbx5))
              all_goals
                go_wp2_with fail
                go_meet
                exact HF
            · as_aux_lemma =>
              have hk3d : (kd % 3 == 1) = false := by simpa using hk3
              have HC := Lib.hid (af_take HPD.out.1 (by have := HAL.out; omega) s u sd most A c xs HXD.out)
              have HD := Lib.hid (rge_take HPD.out.2.1 HA.out.room (by have := HAL.out; omega) (by omega) s u sd most A c xs HXD.out)
              have HAI := Lib.hid (show AI x0 (if R = 0 then mput all s u else all) past from by
                by_cases hz : R = 0
                · rw [if_pos hz]; exact HA.out.take (HRR.out.trans hz)
                · rw [if_neg hz]; exact HA.out)
              have HLN := Lib.hid (show past.length ≤ i + 1 by omega)
              rw [HRR.out, HXN.out] at HC HD
              have HS0 := Lib.hid (show w8.drew.cell? ⟨zb, 1, none⟩ = some (.int .u64 s) ∧ w8.drew.cell? ⟨zb, 2, none⟩ = some (.int .u64 u) ∧ w8.drew.cell? ⟨zb, 3, none⟩ = some (.int .u64 sd) ∧ w8.drew.cell? ⟨zb, 4, none⟩ = some (.slice A n c) ∧ w8.drew.cell? ⟨zb, 5, none⟩ = some (.int .i64 most) from ⟨blk_cell (HZD.out) 1, blk_cell (HZD.out) 2, blk_cell (HZD.out) 3, blk_cell (HZD.out) 4, blk_cell (HZD.out) 5⟩)
              go_wp2_with fail
              clear y0
              go_region_held3 (fun w' => w'.cell? ⟨zb, 1, none⟩ = some (.int .u64 s) ∧ w'.cell? ⟨zb, 2, none⟩ = some (.int .u64 u) ∧ w'.cell? ⟨zb, 3, none⟩ = some (.int .u64 sd) ∧ w'.cell? ⟨zb, 4, none⟩ = some (.slice A n c) ∧ w'.cell? ⟨zb, 5, none⟩ = some (.int .i64 most))
                (first | exact HS4.out | exact HS2.out | exact HS3.out | exact HS1.out | exact HS0.out)
                (first
                  | (go_at_call 20; refine HD3.out.mono ?_; rintro e w4 ⟨rfl, hr4, ht4⟩; have HF := Lib.hid (show ∃ F G a2 p2, PA w.heap.size w4 F G p mA mP q x0 a2 p2 a2 p2 ∧ AI x0 a2 p2 ∧ p2.length ≤ i + 1 ∧ Below w.heap.size w w4 ∧ w4.heap[zb]? = some (.cells #[.int .u8 kd, .int .u64 s, .int .u64 u, .int .u64 sd, .slice A n c, .int .i64 most] 46 (0, 0)) from ⟨_, _, _, _, HP3.out.ref hr4 ht4 HB3.out.size, HAI.out, HLN.out, HB3.out.trans (HP3.out.br ht4 HB3.out.size), (ht4.block zb (blk_lt HX3.out) (fun hf => HFZ.out zb (.inr hf) rfl)).trans HX3.out⟩); have HS2 := Lib.hid (show w4.cell? ⟨zb, 1, none⟩ = some (.int .u64 s) ∧ w4.cell? ⟨zb, 2, none⟩ = some (.int .u64 u) ∧ w4.cell? ⟨zb, 3, none⟩ = some (.int .u64 sd) ∧ w4.cell? ⟨zb, 4, none⟩ = some (.slice A n c) ∧ w4.cell? ⟨zb, 5, none⟩ = some (.int .i64 most) from ⟨blk_cell (HF.out.choose_spec.choose_spec.choose_spec.choose_spec.2.2.2.2) 1, blk_cell (HF.out.choose_spec.choose_spec.choose_spec.choose_spec.2.2.2.2) 2, blk_cell (HF.out.choose_spec.choose_spec.choose_spec.choose_spec.2.2.2.2) 3, blk_cell (HF.out.choose_spec.choose_spec.choose_spec.choose_spec.2.2.2.2) 4, blk_cell (HF.out.choose_spec.choose_spec.choose_spec.choose_spec.2.2.2.2) 5⟩); clear hr4 ht4)
                  | (go_at_call 19; refine HC5.out.mono ?_; rintro e w6 ⟨rfl, hm6, ht6⟩; have HF := Lib.hid (show ∃ F G a2 p2, PA w.heap.size w6 F G p mA mP q x0 a2 p2 a2 p2 ∧ AI x0 a2 p2 ∧ p2.length ≤ i + 1 ∧ Below w.heap.size w w6 ∧ w6.heap[zb]? = some (.cells #[.int .u8 kd, .int .u64 s, .int .u64 u, .int .u64 sd, .slice A n c, .int .i64 most] 46 (0, 0)) from ⟨_, _, _, _, HP5.out.mem hm6 ht6 HB5.out.size, HAI.out, HLN.out, HB5.out.trans (HP5.out.bm ht6 HB5.out.size), (ht6.block zb (blk_lt HX5.out) (fun hf => HFZ.out zb (.inl hf) rfl)).trans HX5.out⟩); have HS4 := Lib.hid (show w6.cell? ⟨zb, 1, none⟩ = some (.int .u64 s) ∧ w6.cell? ⟨zb, 2, none⟩ = some (.int .u64 u) ∧ w6.cell? ⟨zb, 3, none⟩ = some (.int .u64 sd) ∧ w6.cell? ⟨zb, 4, none⟩ = some (.slice A n c) ∧ w6.cell? ⟨zb, 5, none⟩ = some (.int .i64 most) from ⟨blk_cell (HF.out.choose_spec.choose_spec.choose_spec.choose_spec.2.2.2.2) 1, blk_cell (HF.out.choose_spec.choose_spec.choose_spec.choose_spec.2.2.2.2) 2, blk_cell (HF.out.choose_spec.choose_spec.choose_spec.choose_spec.2.2.2.2) 3, blk_cell (HF.out.choose_spec.choose_spec.choose_spec.choose_spec.2.2.2.2) 4, blk_cell (HF.out.choose_spec.choose_spec.choose_spec.choose_spec.2.2.2.2) 5⟩); clear hm6 ht6)
                  | (go_at_call 19; refine HC.out.mono ?_; rintro e w3 ⟨rfl, hm3, ht3⟩; have HP3 := Lib.hid (HPD.out.mem hm3 ht3 HBD.out.size); have HB3 := Lib.hid (HBD.out.trans (HPD.out.bm ht3 HBD.out.size)); have hbx3 := HFN.out w3 ht3; have HS1 := Lib.hid (show w3.cell? ⟨zb, 1, none⟩ = some (.int .u64 s) ∧ w3.cell? ⟨zb, 2, none⟩ = some (.int .u64 u) ∧ w3.cell? ⟨zb, 3, none⟩ = some (.int .u64 sd) ∧ w3.cell? ⟨zb, 4, none⟩ = some (.slice A n c) ∧ w3.cell? ⟨zb, 5, none⟩ = some (.int .i64 most) from ⟨blk_cell (hbx3) 1, blk_cell (hbx3) 2, blk_cell (hbx3) 3, blk_cell (hbx3) 4, blk_cell (hbx3) 5⟩); have HX3 := Lib.hid hbx3; have HD3 := Lib.hid (rge_take HP3.out.2.1 HA.out.room (by have := HAL.out; omega) (by omega) s u sd most A c xs (HXW.out w3 HB3.out)); rw [HRR.out, HXN.out] at HD3; clear hm3 ht3 hbx3)
                  | (go_at_call 20; refine HD.out.mono ?_; rintro e w5 ⟨rfl, hr5, ht5⟩; have HP5 := Lib.hid (HPD.out.ref hr5 ht5 HBD.out.size); have HB5 := Lib.hid (HBD.out.trans (HPD.out.br ht5 HBD.out.size)); have hbx5 := HGN.out w5 ht5; have HS3 := Lib.hid (show w5.cell? ⟨zb, 1, none⟩ = some (.int .u64 s) ∧ w5.cell? ⟨zb, 2, none⟩ = some (.int .u64 u) ∧ w5.cell? ⟨zb, 3, none⟩ = some (.int .u64 sd) ∧ w5.cell? ⟨zb, 4, none⟩ = some (.slice A n c) ∧ w5.cell? ⟨zb, 5, none⟩ = some (.int .i64 most) from ⟨blk_cell (hbx5) 1, blk_cell (hbx5) 2, blk_cell (hbx5) 3, blk_cell (hbx5) 4, blk_cell (hbx5) 5⟩); have HX5 := Lib.hid hbx5; have HC5 := Lib.hid (af_take HP5.out.1 (by have := HAL.out; omega) s u sd most A c xs (HXW.out w5 HB5.out)); rw [HRR.out, HXN.out] at HC5; clear hr5 ht5 hbx5))
              all_goals
                go_wp2_with fail
                go_meet
                exact HF
          case rest =>
            have HCUT := hcut
            obtain ⟨w9, hw9⟩ : ∃ w9, w9 = wc := ⟨_, rfl⟩
            subst hw9
            clear HP8 HX8 HZ8 HA HFZ HAL HB8 HB7 HB6
            obtain ⟨F2, G2, a2, p2, hP2, hA2, hp2, hb2, hz2⟩ := HCUT.out
            obtain ⟨na, hna⟩ : ∃ n, a2.length = n := ⟨_, rfl⟩
            have hroom := hA2.room
            have hst64 := HOK.out.2.1
            have hna64 : na ≤ 64 := by omega
            have HNA := Lib.hid hna
            have HP2 := Lib.hid hP2
            have HA2 := Lib.hid hA2
            have HB2 := Lib.hid hb2
            have HZ2 := Lib.hid hz2
            have HST := Lib.hid (show Calls Try.prog 21 #[.pointer (some ⟨p, 0, none⟩)] w9 (SrtK w9 (mkeys a2)) from by
              obtain ⟨lv, ht⟩ := af_tt HP2.out.1
              exact adstreams_in ht (by rw [HNA.out]; omega))
            clear hP2 hA2 hb2 hz2 hna hroom hst64 hcut y0
            go_wp2_with fail
            refine HST.out.mono ?_
            rintro e w10 ⟨ys, v, rfl, hyp, hys, hyr, hb10⟩
            have hyl : ys.length = na := by rw [hyp.length_eq, ← HNA.out]; unfold mkeys; rw [List.length_map]
            have HB10 := Lib.hid (below_then HB2.out HB2.out.size hb10)
            have HP10 := Lib.hid (HP2.out.below hb10)
            have HZ10 := Lib.hid (blk_below HZ2.out hb10)
            have HYP := Lib.hid hyp
            have HYS := Lib.hid hys
            have HYL := Lib.hid hyl
            rw [hyl] at hyr
            obtain ⟨Y, cy, rfl⟩ := own_slice hyr
            have HYR := Lib.hid hyr
            clear hyp hys hyl hyr hb10 HST
            obtain ⟨Ar, Br, cr, dr, hrg⟩ := HP10.out.2.1
            have HRG := Lib.hid (fun (W' : World) (hb : Below w10.heap.size w10 W') => hrg.below hb)
            have HTT := Lib.hid (fun (W' : World) (hb : Below w10.heap.size w10 W') => show ∃ lv, Tt W' p mA mP x0 a2 p2 lv from af_tt (HP10.out.below hb).1)
            have hD := below_drew (Below.refl w10.heap.size w10)
            have HD0 := Lib.hid hD
            have hrD := (HRG.out _ hD)
            have k10 : w10.drew.cell? ⟨q, 10, none⟩ = some (.slice Ar a2.length cr) := blk_cell hrD.box 10
            rw [HNA.out] at k10
            have HSD := Lib.hid (show w10.drew.cell? ⟨q, 10, none⟩ = some (.slice Ar na cr) ∧ w10.drew.cell? ⟨zb, 1, none⟩ = some (.int .u64 s) ∧ w10.drew.cell? ⟨zb, 2, none⟩ = some (.int .u64 u) from ⟨k10, blk_cell (blk_below HZ10.out hD) 1, blk_cell (blk_below HZ10.out hD) 2⟩)
            obtain ⟨C, hC⟩ : ∃ C, cntS (encA a2) u = C := ⟨_, rfl⟩
            obtain ⟨kb, hkb⟩ : ∃ kb, ((mlook a2 s).isSome || decide (s ∈ p2)) = kb := ⟨_, rfl⟩
            have HOF := Lib.hid (show Calls Try.prog 22 #[.pointer (some ⟨p, 0, none⟩), .int .u64 u] w10.drew fun e w' => e = .returned (.int .i64 C) ∧ Below w10.drew.heap.size w10.drew w' from by
              obtain ⟨lv, ht⟩ := HTT.out _ HD0.out
              have h := adof_in ht u (by rw [HNA.out]; omega)
              rw [hC] at h
              exact h)
            have HRO := Lib.hid (fun (W' : World) (hb : Below w10.heap.size w10 W') => show Calls Try.prog 23 #[.pointer (some ⟨q, 0, none⟩), .int .u64 u] W' fun e w' => e = .returned (.int .i64 C) ∧ W' = w' from by
              have h := rgof (HRG.out W' hb) u (by rw [HNA.out]; omega)
              rw [hC] at h
              exact h)
            have HKN := Lib.hid (fun (W' : World) (hb : Below w10.heap.size w10 W') => show Calls Try.prog 24 #[.pointer (some ⟨p, 0, none⟩), .int .u64 s] W' fun e w' => e = .returned (.bool kb) ∧ W' = w' from by
              obtain ⟨lv, ht⟩ := HTT.out _ hb
              have h := adknows_in ht s
              rw [hkb] at h
              exact h)
            have HRK := Lib.hid (fun (W' : World) (hb : Below w10.heap.size w10 W') => show Calls Try.prog 25 #[.pointer (some ⟨q, 0, none⟩), .int .u64 s] W' fun e w' => e = .returned (.bool kb) ∧ W' = w' from by
              have h := rgknows (HRG.out W' hb) s (by rw [HNA.out]; omega) (by omega)
              rw [hkb] at h
              exact h)
            clear hrg hD hrD k10 hC hkb
            go_wp2_with fail
            go_region_held3 (fun w' => w'.cell? ⟨q, 10, none⟩ = some (.slice Ar na cr) ∧ w'.cell? ⟨zb, 1, none⟩ = some (.int .u64 s) ∧ w'.cell? ⟨zb, 2, none⟩ = some (.int .u64 u))
              (first | exact HSE.out | exact HSD.out)
              (first
                | (go_at_call 22; refine HOF.out.mono ?_; rintro e w11 ⟨rfl, hb11⟩; have HD1 := Lib.hid (below_then HD0.out HD0.out.size hb11); have HSE := Lib.hid (show w11.cell? ⟨q, 10, none⟩ = some (.slice Ar na cr) ∧ w11.cell? ⟨zb, 1, none⟩ = some (.int .u64 s) ∧ w11.cell? ⟨zb, 2, none⟩ = some (.int .u64 u) from ⟨pw_cell_below hb11 HSD.out.1, pw_cell_below hb11 HSD.out.2.1, pw_cell_below hb11 HSD.out.2.2⟩); clear hb11)
                | (go_at_call 23; refine (HRO.out _ HD1.out).mono ?_; rintro e w' ⟨rfl, rfl⟩)
                | (go_at_call 23; refine (HRO.out _ HD0.out).mono ?_; rintro e w' ⟨rfl, rfl⟩)
                | (go_at_call 24; refine (HKN.out _ HD1.out).mono ?_; rintro e w' ⟨rfl, rfl⟩)
                | (go_at_call 25; refine (HRK.out _ HD1.out).mono ?_; rintro e w' ⟨rfl, rfl⟩))
            all_goals
              have HP11 := Lib.hid (HP10.out.below HD1.out)
              have HB11 := Lib.hid (below_then HB10.out HB10.out.size HD1.out)
              have HYR11 := Lib.hid (own_move HYR.out (fun k hk => HD1.out.block k (own_lt HYR.out k hk)))
              have HKQ := Lib.hid (fun n => rgknows (HRG.out _ HD1.out) n (by rw [HNA.out]; omega) (by omega))
              have HE := Lib.hid (show PlA w x0 p mA mP q (i + 1) w11 from ⟨F2, G2, a2, p2, HP11.out, HA2.out, hp2, HB11.out⟩)
              go_wp2_with fail
              go_loopw [130] (fun s130 wz => ∃ j : Nat, s130 = .int .i64 j ∧ j ≤ na ∧ wz = w11) (fun s _ => na - (intOf s).toNat)
              case atStart => exact ⟨0, rfl, by omega, rfl⟩
              case round =>
                obtain ⟨j, rfl, hj, rfl⟩ := hrel
                by_cases hjn : j < na
                · have hkn := keys_in ys _ HYP.out j (by rw [HYL.out]; exact hjn)
                  obtain ⟨gy, rfl⟩ : ∃ gy : Nat, Y = some ⟨gy, 0, none⟩ := by
                    obtain ⟨h1, h2⟩ := HYR11.out
                    rcases h2 with ⟨h2, h3⟩ | ⟨g2, cap2, cur2, h2, -⟩
                    · omega
                    · injection h2 with h2
                      exact ⟨g2, h2⟩
                  have c1 := (own_at HYR11.out (j : Int) (by omega) (by omega)).1
                  rw [Int.toNat_natCast, rd_nat] at c1
                  obtain ⟨y, hy⟩ : ∃ y, ys.getD j 0 = y := ⟨_, rfl⟩
                  rw [hy] at hkn c1
                  have HK := Lib.hid (HKQ.out y)
                  rw [ks_some hkn] at HK
                  have HY := Lib.hid hy
                  clear hkn hy
                  cases j with
                  | zero =>
                    go_wp2_with fail
                    refine HK.out.mono ?_
                    rintro e w' ⟨rfl, rfl⟩
                    go_wp2_with fail
                    go_roundw
                    case rel => exact ⟨1, by go_num, by omega, by first | rfl | trivial⟩
                    case measure => simp [intOf]; omega
                  | succ j =>
                    have c0 := (own_at HYR11.out (j : Int) (by omega) (by omega)).1
                    rw [Int.toNat_natCast, rd_nat] at c0
                    have hlt := rise ys _ HYP.out HA2.out.nd HYS.out j (by rw [HYL.out]; exact hjn)
                    obtain ⟨z, hz⟩ : ∃ z, ys.getD j 0 = z := ⟨_, rfl⟩
                    rw [hz] at c0 hlt
                    rw [HY.out] at hlt
                    have hcast : ((j + 1 : Nat) : Int) = (j : Int) + 1 := by omega
                    rw [hcast]
                    have hwj : IntKind.i64.wrap (((j : Int) + 1) - 1) = (j : Int) := by unfold IntKind.wrap; simp [IntKind.bits, IntKind.signed]; omega
                    have hge : decide (y ≤ z) = false := decide_eq_false (by omega)
                    clear hz hcast
                    go_wp2_with fail
                    refine HK.out.mono ?_
                    rintro e w' ⟨rfl, rfl⟩
                    go_wp2_with fail
                    go_roundw
                    case rel => exact ⟨j + 2, by go_num, by omega, by first | rfl | trivial⟩
                    case measure => simp [intOf]; omega
                · go_wp2_with fail
                  go_roundw
                  case rel => exact ⟨i + 1, by go_num, by omega, HE⟩
                  case measure => simp [intOf]; omega
        · have hin : i = Mn := by omega
          have HWr := HBr
          go_wp2_with fail
          refine (alive26_any _).mono ?_
          rintro e w5 ⟨rfl, hb⟩
          have HE := Lib.hid (below_then HWr.out HWr.out.size hb)
          clear hb
          go_wp2_with fail
          go_ret
          exact ⟨rfl, HE.out⟩
  · rw [decide_eq_false hok] at HMAY
    refine (HBAD.out w1 hok).mono ?_
    rintro e w2 ⟨rfl, hb⟩
    have HB2 := Lib.hid (below_then HB1.out HB1.out.size hb)
    have HK2 := Lib.hid (blk_below HK1.out hb)
    clear hb HK1
    have z0 := blk_cell HK2.out 0
    have z1 := blk_cell HK2.out 1
    have z2 := blk_cell HK2.out 2
    have z3 := blk_cell HK2.out 3
    have z4 := blk_cell HK2.out 4
    have z5 := blk_cell HK2.out 5
    have z6 := blk_cell HK2.out 6
    have z7 := blk_cell HK2.out 7
    have z8 := blk_cell HK2.out 8
    have z9 := blk_cell HK2.out 9
    go_wp2_with fail
    refine (HMAY.out _).mono ?_
    rintro e w3 ⟨rfl, hb⟩
    have HB3 := Lib.hid (below_then HB2.out HB2.out.size hb)
    have HK3 := Lib.hid (blk_below HK2.out hb)
    clear hb HK2 z0 z1 z2 z3 z4 z5 z6 z7 z8 z9
    have z0 := blk_cell HK3.out 0
    have z1 := blk_cell HK3.out 1
    have z2 := blk_cell HK3.out 2
    have z3 := blk_cell HK3.out 3
    have z4 := blk_cell HK3.out 4
    have z5 := blk_cell HK3.out 5
    have z6 := blk_cell HK3.out 6
    have z7 := blk_cell HK3.out 7
    have z8 := blk_cell HK3.out 8
    have z9 := blk_cell HK3.out 9
    go_wp2_with fail
    refine (HMAY.out _).mono ?_
    rintro e w4 ⟨rfl, hb⟩
    have HB4 := Lib.hid (below_then HB3.out HB3.out.size hb)
    have HK4 := Lib.hid (blk_below HK3.out hb)
    clear hb HK3 z0 z1 z2 z3 z4 z5 z6 z7 z8 z9
    have z0 := blk_cell HK4.out 0
    have z1 := blk_cell HK4.out 1
    have z2 := blk_cell HK4.out 2
    have z3 := blk_cell HK4.out 3
    have z4 := blk_cell HK4.out 4
    have z5 := blk_cell HK4.out 5
    have z6 := blk_cell HK4.out 6
    have z7 := blk_cell HK4.out 7
    have z8 := blk_cell HK4.out 8
    have z9 := blk_cell HK4.out 9
    go_wp2_with fail
    refine (HMAY.out _).mono ?_
    rintro e w5 ⟨rfl, hb⟩
    have HB5 := Lib.hid (below_then HB4.out HB4.out.size hb)
    clear hb HK4 z0 z1 z2 z3 z4 z5 z6 z7 z8 z9
    go_wp2_with fail
    refine (alive26_any _).mono ?_
    rintro e w6 ⟨rfl, hb⟩
    have HE := Lib.hid (below_then HB5.out HB5.out.size hb)
    clear hb
    go_wp2_with fail
    go_ret
    exact ⟨rfl, HE.out⟩

set_option maxRecDepth 100000 in
theorem lifted (os : Os) (started : os.Started) (H : Type) (enc : TypeId × Value → H) :
    ReturnsInHanded {} Try.checked os 3 .any (Rows.admitPlaysSpec.pre6 enc Try.prog Try.f3 Rows.admitPlaysRow.domain false) (Rows.admitPlaysSpec.post enc Try.prog Try.f3 false true false false) := by
  refine returnsInHanded_of_change (C := Try.checked) own started (by kernel_rfl) Try.func3
    (ChangeSpec.witness6 (enc := enc) (C := Try.checked) false ⟨#[], #[.agg #[.int .u64 0, .int .i64 0, .int .i64 0, .int .i64 0, .int .i64 0, .int .i64 0, .int .i64 0, .int .i64 0, .int .i64 0, .int .i64 0], .slice none 0 0], []⟩ 8 (by kernel_rfl) (by kernel_rfl) (by kernel_rfl) (by kernel_rfl)) ?_
  intro W base args ds gs before hval0 hW hcnd _
  have hval : ∀ (j : Nat) t v, Try.f3.params[j]? = some t → args[j]? = some v → Value.okWide Try.prog W .any base t v := hval0
  have hW' := hW
  obtain ⟨p, q, hA0, hV, rfl, hfz, hnd⟩ := hW
  have hA : DataW.TrodAll enc Try.prog W 0 (fun _ => true) true Try.f3.params.toList args.toList ds p := hA0
  rw [Try.params3] at hA hval
  obtain ⟨v0, vs0, d0, ds0, p0, q0, hargs, rfl, rfl, h0, r0⟩ := trodAll_cons hA
  obtain ⟨v1, vs1, d1, ds1, p1, q1, rfl, rfl, rfl, h1, r1⟩ := trodAll_cons r0
  obtain ⟨rfl, rfl, rfl⟩ := trodAll_nil r1
  obtain rfl : args = #[v0, v1] := by cases args; simp_all
  obtain ⟨rfl, rfl⟩ := trodVars_none hV
  have k0 := h0
  have lt0 : ∀ x ∈ p0, x.block < W.heap.size := by obtain ⟨m, hm⟩ := k0; exact DataW.trod_lt m _ _ _ hm
  obtain ⟨cs0, rfl, _⟩ := okWide_struct Try.underlying26 (hval 0 26 v0 rfl rfl)
  obtain ⟨x0, y0, g0⟩ : ∃ x, KSt.K W x cs0.toList ∧ (StW) x := by obtain ⟨m, hm⟩ := k0; exact op_st _ _ _ m _ _ hm
  have k1 := h1
  have lt1 : ∀ x ∈ p1, x.block < W.heap.size := by obtain ⟨m, hm⟩ := k1; exact DataW.trod_lt m _ _ _ hm
  obtain ⟨a1, len1, cap1, rfl⟩ := okWide_slice Try.underlying27 (hval 1 27 v1 rfl rfl)
  obtain ⟨x1, y1, g1⟩ : ∃ x, (Kd.slice 46 KAStep).K W x [.slice a1 len1 cap1] ∧ (fun xs => (∀ x ∈ xs, AStepG x) ∧ xs.length ≤ maxLen) x := by obtain ⟨m, hm⟩ := k1; exact op_asteps _ _ _ m _ _ hm
  clear hA0 hval0
  refine (walk cs0 x0 a1 len1 cap1 x1 W y0 g0 y1 g1).mono fun e W' ⟨he, bel⟩ => ?_
  subst he
  exact ⟨_, rfl, _, _, _, [], _, [], hW', trodAll_mk1 (shut_bool Try.underlying4 _), (trodAll_cons_mk (Below.trod laidOut (by kernel_rfl) (of_decide_eq_true (by kernel_rfl)) k0 bel lt0) (trodAll_cons_mk (Below.trod laidOut (by kernel_rfl) (of_decide_eq_true (by kernel_rfl)) k1 bel lt1) trodAll_mk0)), rfl, bel.frame _, fun h => by cases h⟩

theorem over : Rows.admitPlaysRow.holds Try.pinned (OpenSpec.ofChange Rows.admitPlaysSpec) :=
  OpenClaim.holds_of_wide 3 Try.f3 rfl rfl rfl rfl rfl rfl rfl ⟨rfl, rfl, rfl, rfl, rfl⟩ rfl rfl rfl rfl rfl (by kernel_rfl) Try.func3 (by kernel_rfl)
    (of_decide_eq_true (by kernel_rfl)) (by unfold Func.isWrapper; first | (rw [if_pos (by decide +kernel)]; kernel_rfl) | (rw [if_neg (by decide +kernel)]; exact ⟨rfl, rfl⟩))
    (fun os started H enc _ => lifted os started H enc)

theorem proved : Rows.AdmitPlaysSaid := over
end Go.Proofs.Ytmbhicjjbgbneaa.admitPlays
