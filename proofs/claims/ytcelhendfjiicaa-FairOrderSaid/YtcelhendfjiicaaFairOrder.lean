/- Items of one flow come in the order in which they were pushed, each once; behind as many pops as there are items there are none. -/
import Derived.Test.YtcelhendfjiicaaRows
import Derived.WalkKit
import Derived.ProofKit
import Derived.OpenShut
import Derived.ShutString
import Derived.ChangeOld
import Derived.Below
import Derived.Test.YtcelhendfjiicaaOpn
import Derived.Test.YtcelhendfjiicaaFqW
import Derived.Deep.LoopGhost
import Derived.Deep.RegionHeld3
import Derived.Deep.RegionHeldLaw
import Derived.Deep.DeepCutAuto
import Derived.Deep.CutBlock
namespace Go.Proofs.Ytcelhendfjiicaa.fairOrder
open Go.ChangeShapes Go.WideShapes Go.ChangeAt Go.RowKit
open Go.ChangeMaps (open_string shut_string)
set_option linter.unusedVariables false
set_option linter.unusedSimpArgs false
open Go.Proofs.YtcelhendfjiicaaW.PrintWords Go.Proofs.YtcelhendfjiicaaW.PrintLast Go.Proofs.YtcelhendfjiicaaW.PrintMore

theorem own : ownKnob Try.prog.godebug = none := by kernel_rfl
theorem laidOut : laidOutB Try.prog = true := by kernel_rfl

set_option maxRecDepth 100000
attribute [local go_sem] gb_max2 gb_min2 gb_max_two gb_min_two gb_max_three gb_min_three
theorem slice_came {α : Type} {e : Nat} {d : Kd α} {w : World} {a : Option Addr} {len cap : Nat} {xs : List α} (h : (Kd.slice e d).K w xs [.slice a len cap]) : len = xs.length ∧ xs.length ≤ cap ∧ d.C w a xs.length xs := by
  obtain ⟨A, c, he, hl, hC⟩ := h
  simp only [List.cons.injEq, Value.slice.injEq, and_true] at he
  obtain ⟨rfl, rfl, rfl⟩ := he
  exact ⟨rfl, hl, hC⟩
/-- What stands behind step i. -/
def OrdI (w wr : World) (p bq bn bw m : Nat) (q : Int) (i : Nat) : Prop := ∃ F G b l wt E, FO wr w.heap.size F G p bq bn bw m q b l wt E ∧ totF l ≤ i ∧ Below w.heap.size w wr
set_option maxHeartbeats 4000000 in
theorem walk (a0 : Int) (a1 : Option Addr) (len1 cap1 : Nat) (x1 : List FStV) (w : World) (gd0 : (Lit.int .u8 a0).wf = true) (k1 : (Kd.slice 62 KFSt).K w x1 [.slice a1 len1 cap1]) (gd1 : (fun xs => (∀ x ∈ xs, FStG x) ∧ xs.length ≤ maxLen) x1) :
    Calls Try.prog 6 #[.int .u8 a0, .slice a1 len1 cap1] w fun e w' => e = .returned (.bool true) ∧ Below w.heap.size w w' := by
  obtain ⟨ha0, ha1⟩ := u8wf gd0
  obtain ⟨rfl, hcx, hx⟩ := slice_came k1
  obtain ⟨hgd, hml⟩ := gd1
  have HX := Lib.hid (fun (W' : World) (hb : Below w.heap.size w W') => Kd.C_below hx hb)
  have HGD := Lib.hid hgd
  have HSHO := Lib.hid (fun (W' : World) => short35_any a1 x1.length cap1 hcx W')
  obtain ⟨N, hN⟩ : ∃ N, x1.length = N := ⟨_, rfl⟩
  rw [hN] at hcx HSHO ⊢
  have HN := Lib.hid hN
  obtain ⟨M, hM⟩ : ∃ M, min N 120 = M := ⟨_, rfl⟩
  rw [hM] at HSHO
  have hMN : M ≤ N := by omega
  have hM2 : M ≤ 120 := by omega
  obtain ⟨q, hq⟩ : ∃ q, a0 + 1 = q := ⟨_, rfl⟩
  have hq1 : 1 ≤ q := by omega
  have hq2 : q ≤ 256 := by omega
  have hmk := @run_makeMap Try.prog
  have hmf : ∀ (fn : Fn) (first cap : Array Value) (w : World), (Instr.makeFunc fn first cap).run Try.prog w = .ok (.func fn first cap) w := fun _ _ _ _ => rfl
  clear k1 gd0 hgd hx hN hM hml
  go_enter Try.func6, Try.ntmps6
  go_wp2_with fail
  refine (qnew_any w w.heap.size (Nat.le_refl _) 4096 q (by omega) (by omega) hq1 (by omega)).mono ?_
  rintro e w1 ⟨p, F, rfl, hqv, hF, hb⟩
  obtain ⟨W2, hW2⟩ : ∃ W2, w1.alloc (.cells #[.pointer (some ⟨p, 0, none⟩)] 35) = W2 := ⟨_, rfl⟩
  obtain ⟨bq, hbq⟩ : ∃ b, w1.heap.size = b := ⟨_, rfl⟩
  have hb2 : Below w1.heap.size w1 W2 := by rw [← hW2]; exact below_alloc (Below.refl _ _) _
  have hs2 : W2.heap.size = bq + 1 := by rw [← hW2, ← hbq]; simp
  have hx2 : W2.heap[bq]? = some (.cells #[.pointer (some ⟨p, 0, none⟩)] 35 (0, 0)) := by rw [← hW2, ← hbq]; exact heap_alloc_new _ _
  obtain ⟨W3, hW3⟩ : ∃ W3, W2.alloc (.map #[] 0) = W3 := ⟨_, rfl⟩
  obtain ⟨m, hm⟩ : ∃ b, W2.heap.size = b := ⟨_, rfl⟩
  have hb3 : Below W2.heap.size W2 W3 := by rw [← hW3]; exact below_alloc (Below.refl _ _) _
  have hs3 : W3.heap.size = m + 1 := by rw [← hW3, ← hm]; simp
  have hmp3 : IsMp (.int .u64) W3 m [] := by have h := IsMp.made (Value.int .u64) W2; rw [hW3, hm] at h; exact h
  obtain ⟨W4, hW4⟩ : ∃ W4, W3.alloc (.cells #[.map (some m)] 58) = W4 := ⟨_, rfl⟩
  obtain ⟨bw, hbw⟩ : ∃ b, W3.heap.size = b := ⟨_, rfl⟩
  have hb4 : Below W3.heap.size W3 W4 := by rw [← hW4]; exact below_alloc (Below.refl _ _) _
  have hs4 : W4.heap.size = bw + 1 := by rw [← hW4, ← hbw]; simp
  have hx4 : W4.heap[bw]? = some (.cells #[.map (some m)] 58 (0, 0)) := by rw [← hW4, ← hbw]; exact heap_alloc_new _ _
  obtain ⟨W5, hW5⟩ : ∃ W5, W4.alloc (.cells #[.int .i64 0] 3) = W5 := ⟨_, rfl⟩
  obtain ⟨bn, hbn⟩ : ∃ b, W4.heap.size = b := ⟨_, rfl⟩
  have hb5 : Below W4.heap.size W4 W5 := by rw [← hW5]; exact below_alloc (Below.refl _ _) _
  have hs5 : W5.heap.size = bn + 1 := by rw [← hW5, ← hbn]; simp
  have hx5 : W5.heap[bn]? = some (.cells #[.int .i64 0] 3 (0, 0)) := by rw [← hW5, ← hbn]; exact heap_alloc_new _ _
  have hlt := hqv.flt
  have zq : W2.cell? ⟨bq, 0, none⟩ = some (.pointer (some ⟨p, 0, none⟩)) := blk_cell hx2 0
  have h25 : Below W2.heap.size W2 W5 := below_then (below_then hb3 hb3.size hb4) (Nat.le_trans hb3.size hb4.size) hb5
  have HI := Lib.hid (show OrdI w W5 p bq bn bw m q 0 from ⟨F, fun k => k = m, false, [], [], [], {
    Q := (hqv.below hb2).below h25
    J := trivial
    wj := WtJ.nil
    S := ⟨fun k hk => by have h1 := hb.size; subst hk; omega, rfl, (hmp3.below hb4).below hb5, (fun e he => by cases he), (fun e he => by cases he), by simp [mkeys]⟩
    it := fun n => rfl
    xq := ⟨⟨blk_below hx2 h25, fun h => by have := (hlt _ h).2; omega⟩, by show ¬ bq = m; omega⟩
    xn := ⟨⟨hx5, fun h => by have := (hlt _ h).2; omega⟩, by show ¬ bn = m; omega⟩
    xw := ⟨⟨blk_below hx4 hb5, fun h => by have := (hlt _ h).2; omega⟩, by show ¬ bw = m; omega⟩
    dis := fun k hk e => by have := (hlt _ hk).2; subst e; omega
    lo := by have h1 := hb.size; omega }, Nat.le_refl _, by have h1 := below_then hb hb.size hb2; exact below_then h1 h1.size h25⟩)
  clear hqv hF hb hb2 hb3 hb4 hb5 h25 hs2 hs3 hs4 hs5 hx2 hx4 hx5 hmp3 hlt hq
  have HW5 := Lib.hid hW5
  have HBN := Lib.hid hbn
  clear hW5 hbn
  go_wp2_with fail
  rw [HW5.out]
  try rw [HBN.out]
  clear hW2 hbq hW3 hm hW4 hbw HW5 HBN hmk hmf zq
  refine (HSHO.out W5).mono ?_
  rintro e w' ⟨rfl, rfl⟩
  go_wp2_with fail
  go_loopg [33] M (fun gk v wr => ∃ i : Nat, i + gk = M ∧ v = .int .i64 i ∧ Hid (OrdI w wr p bq bn bw m q i))
  case atStart => exact ⟨0, by omega, rfl, HI⟩
  case round =>
    clear HI
    obtain ⟨i, hi, rfl, HI⟩ := hrel
    by_cases hiM : i < M
    · obtain ⟨F1, G1, b, l, wt, E, hFO, htl, hbl⟩ := HI.out
      obtain ⟨ad, x, e1, -, hxm, q0, q1, q2, q3⟩ := fsts_at (HX.out wr hbl) i (by rw [HN.out]; omega)
      subst e1
      obtain ⟨kd, fl, co, id0⟩ := x
      dsimp only at q0 q1 q2 q3
      have hwf := i64wf (HGD.out _ hxm).2.2.1
      have hwk := u8wf (HGD.out _ hxm).1
      dsimp only at hwf hwk
      obtain ⟨W6, hW6⟩ : ∃ W6, wr.alloc (.cells #[.int .u8 kd, .int .u64 fl, .int .i64 co, .int .u64 id0] 62) = W6 := ⟨_, rfl⟩
      obtain ⟨xb, hxb⟩ : ∃ b, wr.heap.size = b := ⟨_, rfl⟩
      have hb6 : Below wr.heap.size wr W6 := by rw [← hW6]; exact below_alloc (Below.refl _ _) _
      have hx6 : W6.heap[xb]? = some (.cells #[.int .u8 kd, .int .u64 fl, .int .i64 co, .int .u64 id0] 62 (0, 0)) := by rw [← hW6, ← hxb]; exact heap_alloc_new _ _
      have HFO := Lib.hid (hFO.below hb6)
      have HBL := Lib.hid (below_then hbl hbl.size hb6)
      have HTL := Lib.hid htl
      have HXB := Lib.hid hx6
      have HXL := Lib.hid (show (∀ k, F1 k → k < xb) ∧ (∀ k, G1 k → k < xb) ∧ bq < xb ∧ bn < xb ∧ bw < xb from ⟨fun k hk => by have := (hFO.Q.flt k hk).2; omega, fun k hk => by have := (hFO.S.glt k hk).2; omega, by rw [← hxb]; exact blk_lt hFO.xq.1.1, by rw [← hxb]; exact blk_lt hFO.xn.1.1, by rw [← hxb]; exact blk_lt hFO.xw.1.1⟩)
      have z0 := blk_cell hx6 0
      have z1 := blk_cell hx6 1
      have z2 := blk_cell hx6 2
      have z3 := blk_cell hx6 3
      clear hFO htl hbl hxm hb6 hx6 HI
      have hkm : kd % 5 = 0 ∨ kd % 5 = 1 ∨ kd % 5 = 2 ∨ kd % 5 = 3 ∨ kd % 5 = 4 := by omega
      go_upto_block 2 with fail
      clear hW6 hxb
      go_cut [39] (fun s39 wx => Hid (OrdI w wx p bq bn bw m q (i + 1)) ∧ Hid (wx.heap[xb]? = some (.cells #[.int .u8 kd, .int .u64 fl, .int .i64 co, .int .u64 id0] 62 (0, 0))))
      case first =>
        have hxF : ¬ (F1 xb ∨ G1 xb ∨ xb = bn) := fun h => by
          obtain ⟨h1, h2, h3, h4, h5⟩ := HXL.out
          rcases h with h | h | h
          · have := h1 _ h; omega
          · have := h2 _ h; omega
          · omega
        have HXF := Lib.hid hxF
        clear hxF
        by_cases hk1 : kd % 5 = 1
        · by_cases hl : l = []
          · subst hl
            have HC := Lib.hid (popc_none HFO.out)
            clear z0 z1 z2 z3 hkm
            go_wp2_with fail
            refine HC.out.mono ?_
            rintro e w7 ⟨rfl, hb7⟩
            have HF := Lib.hid (show OrdI w w7 p bq bn bw m q (i + 1) from ⟨_, _, _, _, _, _, HFO.out.below hb7, by have := HTL.out; omega, below_then HBL.out HBL.out.size hb7⟩)
            have HX7 := Lib.hid (blk_below HXB.out hb7)
            clear hb7
            go_wp2_with fail
            go_meet
            exact ⟨HF, HX7⟩
          · obtain ⟨y, hy⟩ := popRun_some HFO.out.wj hq1 (by omega) HFO.out.J hl
            have htt := pop_gen HFO.out.wj hq1 (by omega) HFO.out.J hy
            have HC := Lib.hid (popc_ok HFO.out hq1 (by omega) (by have := HTL.out; omega) y hy)
            have HTT := Lib.hid htt.2.2
            clear z0 z1 z2 z3 hkm hl hy htt
            go_wp2_with fail
            refine HC.out.mono ?_
            rintro e w7 ⟨rfl, F7, G7, E7, hfo7, hF7, hG7, hT7⟩
            have HF := Lib.hid (show OrdI w w7 p bq bn bw m q (i + 1) from ⟨_, _, _, _, _, _, hfo7, by have h1 := HTL.out; have h2 := HTT.out; omega, HBL.out.trans (HFO.out.tnb hT7)⟩)
            have HX7 := Lib.hid ((hT7.block xb (blk_lt HXB.out) HXF.out).trans HXB.out)
            clear hfo7 hF7 hG7 hT7
            go_wp2_with fail
            go_meet
            exact ⟨HF, HX7⟩
        · by_cases hk2 : kd % 5 = 2
          · have zq : W6.cell? ⟨bq, 0, none⟩ = some (.pointer (some ⟨p, 0, none⟩)) := blk_cell HFO.out.xq.1.1 0
            by_cases hwt : WtOk wt fl co
            · have HC := Lib.hid (qweight_ok HFO.out.Q fl co hwt)
              have HWT := Lib.hid hwt
              clear hwt hkm
              go_wp2_with fail
              refine HC.out.mono ?_
              rintro e w7 ⟨rfl, hq7, hT7⟩
              obtain ⟨t1, t2, t3, t4, t5, t6⟩ := HFO.out.turn hq7 (fun k hk => .inl hk) hT7
              have HF := Lib.hid (show OrdI w w7 p bq bn bw m q (i + 1) from ⟨F1, G1, b, l, _, E, ⟨hq7, HFO.out.J, HFO.out.wj.put HWT.out.1 HWT.out.2.1, t1, HFO.out.it, ⟨t2, HFO.out.xq.2⟩, ⟨t3, HFO.out.xn.2⟩, ⟨t4, HFO.out.xw.2⟩, t5, HFO.out.lo⟩, by have h1 := HTL.out; omega, HBL.out.trans t6⟩)
              have HX7 := Lib.hid ((hT7.block xb (blk_lt HXB.out) (fun h => HXF.out (.inl h))).trans HXB.out)
              clear hq7 hT7 t1 t2 t3 t4 t5 t6 z0 z1 z2 z3 zq
              go_wp2_with fail
              go_meet
              exact ⟨HF, HX7⟩
            · have HC := Lib.hid (qweight_bad HFO.out.Q fl co hwt)
              have HF := Lib.hid (show OrdI w W6 p bq bn bw m q (i + 1) from ⟨F1, G1, b, l, wt, E, HFO.out, by have h1 := HTL.out; omega, HBL.out⟩)
              clear hwt hkm
              go_wp2_with fail
              refine HC.out.mono ?_
              rintro e w' ⟨rfl, rfl⟩
              clear z0 z1 z2 z3 zq
              go_wp2_with fail
              go_meet
              exact ⟨HF, HXB⟩
          · have hk1d : (kd % 5 == 1) = false := by simpa using hk1
            have hk2d : (kd % 5 == 2) = false := by simpa using hk2
            clear hk1 hk2 hkm
            have zq : W6.cell? ⟨bq, 0, none⟩ = some (.pointer (some ⟨p, 0, none⟩)) := blk_cell HFO.out.xq.1.1 0
            obtain ⟨W7, hW7⟩ : ∃ W7, W6.alloc (.cells #[.int .u64 fl, .int .i64 co, .int .u64 id0] 43) = W7 := ⟨_, rfl⟩
            obtain ⟨yb, hyb⟩ : ∃ b, W6.heap.size = b := ⟨_, rfl⟩
            have hb7 : Below W6.heap.size W6 W7 := by rw [← hW7]; exact below_alloc (Below.refl _ _) _
            have hy7 : W7.heap[yb]? = some (.cells #[.int .u64 fl, .int .i64 co, .int .u64 id0] 43 (0, 0)) := by rw [← hW7, ← hyb]; exact heap_alloc_new _ _
            have HFO7 := Lib.hid (HFO.out.below hb7)
            have HX7 := Lib.hid (blk_below HXB.out hb7)
            have HBL7 := Lib.hid (below_then HBL.out HBL.out.size hb7)
            have HY7 := Lib.hid hy7
            have HYL := Lib.hid (show (∀ k, F1 k → k < yb) ∧ (∀ k, G1 k → k < yb) ∧ bn < yb ∧ xb < yb from ⟨fun k hk => by have := (HFO.out.Q.flt k hk).2; omega, fun k hk => by have := (HFO.out.S.glt k hk).2; omega, by rw [← hyb]; exact blk_lt HFO.out.xn.1.1, by rw [← hyb]; exact blk_lt HXB.out⟩)
            have y0 := blk_cell hy7 0
            have y1 := blk_cell hy7 1
            have y2 := blk_cell hy7 2
            have zq7 := pw_cell_below hb7 zq
            clear hb7 hy7
            by_cases hc : 1 ≤ co ∧ co ≤ 1048576
            · have hll := len_tot HFO.out.J
              have htl := HTL.out
              have HC := Lib.hid (qpush_ok HFO7.out.Q (fl, co, id0) hc.1 hc.2 (by omega) (by omega) (by omega))
              dsimp only at HC
              have HCC := Lib.hid hc
              clear hc hll htl
              go_wp2_with fail
              clear hW7 hyb
              refine HC.out.mono ?_
              rintro e w8 ⟨rfl, F8, hq8, hF8, hT8⟩
              obtain ⟨t1, t2, t3, t4, t5, t6⟩ := HFO7.out.turn hq8 hF8 hT8
              have HQ8 := Lib.hid hq8
              have HS8 := Lib.hid t1
              have HXQ8 := Lib.hid t2
              have HXN8 := Lib.hid t3
              have HXW8 := Lib.hid t4
              have HDI8 := Lib.hid t5
              have HBL8 := Lib.hid (HBL7.out.trans t6)
              have hx8 := (hT8.block xb (blk_lt HX7.out) (fun h => HXF.out (.inl h))).trans HX7.out
              have hy8 := (hT8.block yb (blk_lt HY7.out) (fun h => by have := HYL.out.1 _ h; omega)).trans HY7.out
              have HX8 := Lib.hid hx8
              have HY8 := Lib.hid hy8
              have zx : w8.cell? ⟨xb, 1, none⟩ = some (.int .u64 fl) := blk_cell hx8 1
              have zy0 : w8.cell? ⟨yb, 0, none⟩ = some (.int .u64 fl) := blk_cell hy8 0
              have zy1 : w8.cell? ⟨yb, 1, none⟩ = some (.int .i64 co) := blk_cell hy8 1
              have zy2 : w8.cell? ⟨yb, 2, none⟩ = some (.int .u64 id0) := blk_cell hy8 2
              have zw : w8.cell? ⟨bw, 0, none⟩ = some (.map (some m)) := blk_cell t4.1 0
              have HSA := Lib.hid (show w8.drew.cell? ⟨xb, 1, none⟩ = some (.int .u64 fl) ∧ w8.drew.cell? ⟨yb, 0, none⟩ = some (.int .u64 fl) ∧ w8.drew.cell? ⟨yb, 1, none⟩ = some (.int .i64 co) ∧ w8.drew.cell? ⟨yb, 2, none⟩ = some (.int .u64 id0) ∧ w8.drew.cell? ⟨bw, 0, none⟩ = some (.map (some m)) from ⟨zx, zy0, zy1, zy2, zw⟩)
              have hba := below_alloc (Below.refl w8.heap.size w8) (.cells #[.int .u64 fl, .int .i64 co, .int .u64 id0] 43)
              have hbd := below_drew hba
              have HSD := Lib.hid (show (w8.alloc (.cells #[.int .u64 fl, .int .i64 co, .int .u64 id0] 43)).drew.cell? ⟨xb, 1, none⟩ = some (.int .u64 fl) ∧ (w8.alloc (.cells #[.int .u64 fl, .int .i64 co, .int .u64 id0] 43)).drew.cell? ⟨yb, 0, none⟩ = some (.int .u64 fl) ∧ (w8.alloc (.cells #[.int .u64 fl, .int .i64 co, .int .u64 id0] 43)).drew.cell? ⟨yb, 1, none⟩ = some (.int .i64 co) ∧ (w8.alloc (.cells #[.int .u64 fl, .int .i64 co, .int .u64 id0] 43)).drew.cell? ⟨yb, 2, none⟩ = some (.int .u64 id0) ∧ (w8.alloc (.cells #[.int .u64 fl, .int .i64 co, .int .u64 id0] 43)).drew.cell? ⟨bw, 0, none⟩ = some (.map (some m)) from ⟨pw_cell_below hbd zx, pw_cell_below hbd zy0, pw_cell_below hbd zy1, pw_cell_below hbd zy2, pw_cell_below hbd zw⟩)
              clear hbd
              have zxa := pw_cell_below hba zx
              have zwa := pw_cell_below hba zw
              have hlk0 := (HS8.out.below (below_drew (Below.refl _ _))).look fl
              have hlk1 : (Instr.lookup 58 (.map (some m)) (.int .u64 fl) false).run Try.prog (w8.alloc (.cells #[.int .u64 fl, .int .i64 co, .int .u64 id0] 43)).drew = .ok (valW E fl) (w8.alloc (.cells #[.int .u64 fl, .int .i64 co, .int .u64 id0] 43)).drew := (HS8.out.below (below_drew hba)).look fl
              obtain ⟨Av, cv, hv, hcv, -⟩ := Kd.Q_reads (HS8.out.row fl)
              obtain ⟨nv, hnv⟩ : ∃ k, (itemsW E fl).length = k := ⟨_, rfl⟩
              rw [hnv] at hv hcv
              rw [hv] at hlk0 hlk1
              have HV := Lib.hid hv
              have HNV := Lib.hid hnv
              have hbs := HFO7.out.low
              have HBS := Lib.hid (show w.heap.size ≤ w8.heap.size from HBL8.out.size)
              have HNL := Lib.hid (show nv ≤ 120 by
                have h1 := HFO.out.it fl
                rw [h1] at hnv
                rw [← hnv, ← it_len]
                have h2 := HTL.out
                have h3 : ofE l fl ≤ totF l := by
                  unfold ofE
                  cases hm : mlook l fl with
                  | none => exact Nat.zero_le _
                  | some v =>
                    have h4 := mlook_mem hm
                    exact mem_le_sum (List.mem_map.2 ⟨_, h4, rfl⟩)
                omega)
              clear hq8 hF8 hT8 t1 t2 t3 t4 t5 t6 hx8 hy8 hba hv hnv hbs z0 z1 z2 z3 zq zq7 y0 y1 y2
              go_wp2_with fail
              go_region_held_law (fun w' => w'.cell? ⟨xb, 1, none⟩ = some (.int .u64 fl) ∧ w'.cell? ⟨yb, 0, none⟩ = some (.int .u64 fl) ∧ w'.cell? ⟨yb, 1, none⟩ = some (.int .i64 co) ∧ w'.cell? ⟨yb, 2, none⟩ = some (.int .u64 id0) ∧ w'.cell? ⟨bw, 0, none⟩ = some (.map (some m)))
                (first | exact HSA.out | exact HSD.out | exact HSB.out | exact HSC.out | fail)
                ((refine Kd.Q_append_step (w0 := w8) (W := w8.drew) KIt w.heap.size rfl _ _ 59 43 (.agg #[.int .u64 0, .int .i64 0, .int .u64 0]) 24 rfl Try.underlying59 infItem rfl (by decide) (by decide) (.slice Av nv cv) (itemsW E fl) (fl, co, id0) [.int .u64 fl, .int .i64 co, .int .u64 id0] (fun k => G1 k ∨ w8.heap.size ≤ k) (fun _ => False) rfl rfl ⟨[.int .u64 fl], [.int .i64 co, .int .u64 id0], rfl, rfl, ⟨[.int .i64 co], [.int .u64 id0], rfl, rfl, rfl⟩⟩ (fun _ h => h.elim) (fun k h => .inr h) (by have h := Kd.Q_mono (Kd.Q_drew (HS8.out.row fl)) (ok' := fun k => G1 k ∨ w8.heap.size ≤ k) (fun k hk => .inl hk); rw [HV.out] at h; exact h) (below_drew ((Below.refl _ _).mono HBS.out)) HBS.out (by rw [HNV.out]; have := HNL.out; omega) ?_; intro v9 w9 hr hb hg hat; obtain ⟨w10, hrun, hmp, hg10, -⟩ := run_mput (P := Try.prog) Try.underlying58 (key_int Try.underlying40) ((HS8.out.mp.below (below_drew (Below.refl _ _))).grown hg (fun e => by obtain ⟨cells, hcc⟩ := Kd.Q_typed (HS8.out.row fl) m (by rw [HV.out]; exact e.symm); obtain ⟨es, cl, hmb, -⟩ := HS8.out.mp; exact ne_map hcc hmb rfl)) fl v9; have happ := WtS.app (x := (fl, co, id0)) (HS8.out.below (below_drew (Below.refl _ _))) hr (by rw [HV.out]; exact hg) (by rw [HV.out]; exact hat) hmp hg10; have hown := (HS8.out.row fl).1; rw [HV.out] at hown; have hk9 : Tn G1 w8 w9 := ((Tn.refl G1 w8).bel (below_drew (Below.refl _ _))).grownO hg (fun b hb => .inl (hown b hb)); have HSB := Lib.hid (show w9.cell? ⟨xb, 1, none⟩ = some (.int .u64 fl) ∧ w9.cell? ⟨yb, 0, none⟩ = some (.int .u64 fl) ∧ w9.cell? ⟨yb, 1, none⟩ = some (.int .i64 co) ∧ w9.cell? ⟨yb, 2, none⟩ = some (.int .u64 id0) ∧ w9.cell? ⟨bw, 0, none⟩ = some (.map (some m)) from ⟨blk_cell ((hk9.block xb (blk_lt HX8.out) (fun h => HXF.out (.inr (.inl h)))).trans HX8.out) 1, blk_cell ((hk9.block yb (blk_lt HY8.out) (fun h => by have := HYL.out.2.1 _ h; omega)).trans HY8.out) 0, blk_cell ((hk9.block yb (blk_lt HY8.out) (fun h => by have := HYL.out.2.1 _ h; omega)).trans HY8.out) 1, blk_cell ((hk9.block yb (blk_lt HY8.out) (fun h => by have := HYL.out.2.1 _ h; omega)).trans HY8.out) 2, blk_cell ((hk9.block bw (blk_lt HXW8.out.1) HFO.out.xw.2).trans HXW8.out.1) 0⟩); have hkA : Tn G1 w8 w10 := ((Tn.refl G1 w8).bel (below_drew (Below.refl _ _))).trans happ.2 (fun k hk => .inl hk); have HSC := Lib.hid (show w10.cell? ⟨xb, 1, none⟩ = some (.int .u64 fl) ∧ w10.cell? ⟨yb, 0, none⟩ = some (.int .u64 fl) ∧ w10.cell? ⟨yb, 1, none⟩ = some (.int .i64 co) ∧ w10.cell? ⟨yb, 2, none⟩ = some (.int .u64 id0) ∧ w10.cell? ⟨bw, 0, none⟩ = some (.map (some m)) from ⟨blk_cell ((hkA.block xb (blk_lt HX8.out) (fun h => HXF.out (.inr (.inl h)))).trans HX8.out) 1, blk_cell ((hkA.block yb (blk_lt HY8.out) (fun h => by have := HYL.out.2.1 _ h; omega)).trans HY8.out) 0, blk_cell ((hkA.block yb (blk_lt HY8.out) (fun h => by have := HYL.out.2.1 _ h; omega)).trans HY8.out) 1, blk_cell ((hkA.block yb (blk_lt HY8.out) (fun h => by have := HYL.out.2.1 _ h; omega)).trans HY8.out) 2, blk_cell ((hkA.block bw (blk_lt HXW8.out.1) HFO.out.xw.2).trans HXW8.out.1) 0⟩); have hn10 : w10.heap[bn]? = some (.cells #[.int .i64 (totF l)] 3 (0, 0)) := (happ.2.block bn (blk_lt (blk_below HXN8.out.1 (below_drew (Below.refl _ _)))) HFO.out.xn.2).trans (blk_below HXN8.out.1 (below_drew (Below.refl _ _))); have zn10 : w10.cell? ⟨bn, 0, none⟩ = some (.int .i64 (totF l)) := blk_cell hn10 0; have fn10 := blk_frozen hn10 0; have HAP := Lib.hid happ; clear hr hb hg hat hmp hg10 happ hown hk9 hkA hn10))
              all_goals
                have hpt : totF (pushE l (fl, co, id0)) = totF l + 1 := push_tot HFO.out.Q.nd
                have htl9 := HTL.out
                have hbd := below_drew (Below.refl w8.heap.size w8)
                have hfo := fo_close (W3 := w8.drew) (w4 := w10) (n := totF l) (HQ8.out.below hbd) (push_J HFO.out.J HCC.out.1 HCC.out.2) HFO.out.wj HAP.out.1 HAP.out.2 (fun k hk => hk.imp id (fun h => h.1)) ⟨HXQ8.out.below hbd, HFO.out.xq.2⟩ ⟨HXN8.out.below hbd, HFO.out.xn.2⟩ ⟨HXW8.out.below hbd, HFO.out.xw.2⟩ HDI8.out HFO.out.lo (fun j => by
                  rw [it_put, it_push]
                  by_cases h : fl = j
                  · subst h; rw [if_pos rfl, if_pos rfl, HFO.out.it]
                  · rw [if_neg h, if_neg (fun e => h e.symm), HFO.out.it])
                have hT10 := (HAP.out.2.mono (F' := fun k => G1 k ∨ k = bn) (fun k hk => .inl hk)).put bn 0 (.int .i64 (totF (pushE l (fl, co, id0)))) (.inl (.inr rfl))
                have hB10 := HBL8.out.trans ((hbd.mono HBS.out).trans (hT10.below (base := w.heap.size) (fun k hk => by
                  rcases hk with hk | hk
                  · exact (HS8.out.glt k hk).1
                  · rw [hk]; exact HFO.out.lo) (Nat.le_trans HBS.out hbd.size)))
                have hx10 := (hT10.block xb (blk_lt (blk_below HX8.out hbd)) (fun h => HXF.out (.inr h))).trans (blk_below HX8.out hbd)
                have hadd : ((totF (pushE l (fl, co, id0)) : Nat) : Int) = ((totF l : Nat) : Int) + 1 := by omega
                rw [hadd] at hfo hB10 hx10
                have HF := Lib.hid (show OrdI w (w10.setCell ⟨bn, 0, none⟩ (.int .i64 (((totF l : Nat) : Int) + 1))) p bq bn bw m q (i + 1) from ⟨F8, _, b, _, wt, _, hfo, by omega, hB10⟩)
                have HX10 := Lib.hid hx10
                clear hpt hfo hT10 hB10 hx10 hadd hbd
                go_wp2_with fail
                go_meet
                exact ⟨HF, HX10⟩
            · have HC := Lib.hid (qpush_bad HFO7.out.Q (fl, co, id0) (by show co < 1 ∨ 1048576 < co; omega))
              dsimp only at HC
              clear hc
              go_wp2_with fail
              clear hW7 hyb
              refine HC.out.mono ?_
              rintro e w8 ⟨rfl, hb8⟩
              have HF := Lib.hid (show OrdI w w8 p bq bn bw m q (i + 1) from ⟨F1, G1, b, l, wt, E, HFO7.out.below hb8, by have h1 := HTL.out; omega, below_then HBL7.out HBL7.out.size hb8⟩)
              have HX8 := Lib.hid (blk_below HX7.out hb8)
              clear hb8 z0 z1 z2 z3 zq zq7 y0 y1 y2
              go_wp2_with fail
              go_meet
              exact ⟨HF, HX8⟩
      case rest =>
        obtain ⟨HC1, HC2⟩ := hcut
        clear HFO HBL HTL HXB HXL z0 z1 z2 z3 hkm
        obtain ⟨F2, G2, b2, l2, wt2, E2, hFO, htl, hbl⟩ := HC1.out
        obtain ⟨wx, hwx⟩ : ∃ W, wc = W := ⟨_, rfl⟩
        subst hwx
        have hbd := below_drew (Below.refl wc.heap.size wc)
        have hFOd := hFO.below hbd
        have hxd := blk_below HC2.out hbd
        obtain ⟨nn, hnn⟩ : ∃ k, totF l2 = k := ⟨_, rfl⟩
        obtain ⟨kk, hkk⟩ : ∃ k, ofE l2 fl = k := ⟨_, rfl⟩
        have HLEN := Lib.hid (qlen_any hFOd.Q nn hnn)
        have HOF := Lib.hid (qof_any hFOd.Q fl kk hkk)
        have hlk := hFOd.S.look fl
        have hkk2 : (itemsW E2 fl).length = kk := by rw [hFOd.it, ← it_len]; exact hkk
        obtain ⟨Av, cv, hv, hcv, -⟩ := Kd.Q_reads (hFOd.S.row fl)
        rw [hkk2] at hv hcv
        rw [hv] at hlk
        have hxn := hFOd.xn.1.1
        rw [hnn] at hxn
        have HSA := Lib.hid (show wc.drew.cell? ⟨bq, 0, none⟩ = some (.pointer (some ⟨p, 0, none⟩)) ∧ wc.drew.cell? ⟨bn, 0, none⟩ = some (.int .i64 nn) ∧ wc.drew.cell? ⟨xb, 1, none⟩ = some (.int .u64 fl) ∧ wc.drew.cell? ⟨bw, 0, none⟩ = some (.map (some m)) from ⟨blk_cell hFOd.xq.1.1 0, blk_cell hxn 0, blk_cell hxd 1, blk_cell hFOd.xw.1.1 0⟩)
        have HF := Lib.hid (show OrdI w wc.drew p bq bn bw m q (i + 1) from ⟨F2, G2, b2, l2, wt2, E2, hFOd, htl, below_drew hbl⟩)
        clear hFO htl hbl hbd hFOd hxd hnn hkk hkk2 hv hxn HC1 HC2
        go_wp2_with fail
        go_region_held3 (fun w' => w'.cell? ⟨bq, 0, none⟩ = some (.pointer (some ⟨p, 0, none⟩)) ∧ w'.cell? ⟨bn, 0, none⟩ = some (.int .i64 nn) ∧ w'.cell? ⟨xb, 1, none⟩ = some (.int .u64 fl) ∧ w'.cell? ⟨bw, 0, none⟩ = some (.map (some m)))
          (first | exact HSA.out | fail)
          (first
            | (go_at_call 28; refine HLEN.out.mono ?_; rintro e w8 ⟨rfl, hw⟩; replace hw := hw.symm; subst hw)
            | (go_at_call 19; refine HOF.out.mono ?_; rintro e w8 ⟨rfl, hw⟩; replace hw := hw.symm; subst hw))
        all_goals
          clear hlk HLEN HOF HSA
          go_wp2_with fail
          go_roundg (M - (i + 1))
          case measure => omega
          case rel => exact ⟨i + 1, by omega, by go_num, HF⟩
    · obtain rfl : M = i := by omega
      go_wp2_with fail
      go_loopg [] M (fun gk wr => ∃ F G b l wt E, totF l ≤ gk ∧ totF l ≤ 120 ∧ Hid (FO wr w.heap.size F G p bq bn bw m q b l wt E) ∧ Hid (Below w.heap.size w wr))
      case atStart =>
        obtain ⟨F1, G1, b, l, wt, E, hFO, htl, hbl⟩ := HI.out
        exact ⟨F1, G1, b, l, wt, E, htl, by omega, Lib.hid hFO, Lib.hid hbl⟩
      case round =>
        clear HI
        obtain ⟨F1, G1, b, l, wt, E, hgk, hg120, HFO, HBL⟩ := hrel
        obtain ⟨nn, hnn⟩ : ∃ k, totF l = k := ⟨_, rfl⟩
        have hxn := HFO.out.xn.1.1
        rw [hnn] at hxn
        have zn := blk_cell hxn 0
        clear hxn
        by_cases hl : l = []
        · subst hl
          have hn0 : nn = 0 := by rw [← hnn]; rfl
          subst hn0
          have zq : wr.cell? ⟨bq, 0, none⟩ = some (.pointer (some ⟨p, 0, none⟩)) := blk_cell HFO.out.xq.1.1 0
          have HP := Lib.hid (qpop_none HFO.out.Q)
          clear hnn
          go_wp2_with fail
          refine HP.out.mono ?_
          rintro e w7 ⟨rfl, hb7⟩
          have hb8 := below_then hb7 hb7.size (below_alloc (Below.refl w7.heap.size w7) (.cells #[.int .u64 0, .int .i64 0, .int .u64 0] 43))
          have hf8 := HFO.out.below hb8
          have HLEN := Lib.hid (qlen_any hf8.Q 0 rfl)
          have HFL := Lib.hid (qflows_any hf8.Q (by simp) 0 rfl)
          have zq8 := blk_cell hf8.xq.1.1 0
          have HB8 := Lib.hid (below_then HBL.out HBL.out.size hb8)
          clear hb7 hb8 hf8 zq zn
          go_wp2_with fail
          refine HLEN.out.mono ?_
          rintro e w' ⟨rfl, rfl⟩
          go_wp2_with fail
          refine HFL.out.mono ?_
          rintro e w9 ⟨A9, c9, rfl, hb9⟩
          have HB9 := Lib.hid (below_then HB8.out HB8.out.size hb9)
          clear hb9 zq8
          go_wp2_with fail
          refine (alive35_any _).mono ?_
          rintro e w10 ⟨rfl, hb⟩
          have HB10 := Lib.hid (below_then HB9.out HB9.out.size hb)
          clear hb
          go_wp2_with fail
          go_ret
          exact ⟨rfl, HB10.out⟩
        · obtain ⟨y, hy⟩ := popRun_some HFO.out.wj hq1 (by omega) HFO.out.J hl
          have htt := pop_gen HFO.out.wj hq1 (by omega) HFO.out.J hy
          have HC := Lib.hid (popc_ok HFO.out hq1 (by omega) (by omega) y hy)
          have hn1 : (0 : Int) < (nn : Int) := by have := htt.2.2; omega
          have HTT := Lib.hid (show totF y.2.2 + 1 ≤ gk ∧ totF y.2.2 ≤ 120 by have := htt.2.2; omega)
          clear hl hy htt hnn
          go_wp2_with fail
          refine HC.out.mono ?_
          rintro e w7 ⟨rfl, F7, G7, E7, hfo7, hF7, hG7, hT7⟩
          have HF7 := Lib.hid hfo7
          have HB7 := Lib.hid (HBL.out.trans (HFO.out.tnb hT7))
          clear hfo7 hF7 hG7 hT7 zn
          go_wp2_with fail
          go_roundg (gk - 1)
          case measure => have h := HTT.out; omega
          case rel => exact ⟨F7, G7, _, _, _, E7, by have h := HTT.out; omega, by have h := HTT.out; omega, HF7, HB7⟩

set_option maxRecDepth 100000 in
theorem lifted (os : Os) (started : os.Started) (H : Type) (enc : TypeId × Value → H) :
    ReturnsInHanded {} Try.checked os 6 .any (Rows.fairOrderSpec.pre6 enc Try.prog Try.f6 Rows.fairOrderRow.domain false) (Rows.fairOrderSpec.post enc Try.prog Try.f6 false true false false) := by
  refine returnsInHanded_of_change (C := Try.checked) own started (by kernel_rfl) Try.func6
    (ChangeSpec.witness6 (enc := enc) (C := Try.checked) false ⟨#[], #[.int .u8 0, .slice none 0 0], []⟩ 8 (by kernel_rfl) (by kernel_rfl) (by kernel_rfl) (by kernel_rfl)) ?_
  intro W base args ds gs before hval0 hW hcnd _
  have hval : ∀ (j : Nat) t v, Try.f6.params[j]? = some t → args[j]? = some v → Value.okWide Try.prog W .any base t v := hval0
  have hW' := hW
  obtain ⟨p, q, hA0, hV, rfl, hfz, hnd⟩ := hW
  have hA : DataW.TrodAll enc Try.prog W 0 (fun _ => true) true Try.f6.params.toList args.toList ds p := hA0
  rw [Try.params6] at hA hval
  obtain ⟨v0, vs0, d0, ds0, p0, q0, hargs, rfl, rfl, h0, r0⟩ := trodAll_cons hA
  obtain ⟨v1, vs1, d1, ds1, p1, q1, rfl, rfl, rfl, h1, r1⟩ := trodAll_cons r0
  obtain ⟨rfl, rfl, rfl⟩ := trodAll_nil r1
  obtain rfl : args = #[v0, v1] := by cases args; simp_all
  obtain ⟨rfl, rfl⟩ := trodVars_none hV
  have k0 := h0
  have lt0 : ∀ x ∈ p0, x.block < W.heap.size := by obtain ⟨m, hm⟩ := k0; exact DataW.trod_lt m _ _ _ hm
  obtain ⟨a0, rfl, rfl, rfl, g0⟩ := open_int Try.underlying5 (hval 0 5 v0 rfl rfl) h0
  have k1 := h1
  have lt1 : ∀ x ∈ p1, x.block < W.heap.size := by obtain ⟨m, hm⟩ := k1; exact DataW.trod_lt m _ _ _ hm
  obtain ⟨a1, len1, cap1, rfl⟩ := okWide_slice Try.underlying57 (hval 1 57 v1 rfl rfl)
  obtain ⟨x1, y1, g1⟩ : ∃ x, (Kd.slice 62 KFSt).K W x [.slice a1 len1 cap1] ∧ (fun xs => (∀ x ∈ xs, FStG x) ∧ xs.length ≤ maxLen) x := by obtain ⟨m, hm⟩ := k1; exact op_fsts _ _ _ m _ _ hm
  clear hA0 hval0
  refine (walk a0 a1 len1 cap1 x1 W g0 y1 g1).mono fun e W' ⟨he, bel⟩ => ?_
  subst he
  exact ⟨_, rfl, _, _, _, [], _, [], hW', trodAll_mk1 (shut_bool Try.underlying4 _), (trodAll_cons_mk (Below.trod laidOut (by kernel_rfl) (of_decide_eq_true (by kernel_rfl)) k0 bel lt0) (trodAll_cons_mk (Below.trod laidOut (by kernel_rfl) (of_decide_eq_true (by kernel_rfl)) k1 bel lt1) trodAll_mk0)), rfl, bel.frame _, fun h => by cases h⟩

theorem over : Rows.fairOrderRow.holds Try.pinned (OpenSpec.ofChange Rows.fairOrderSpec) :=
  OpenClaim.holds_of_wide 6 Try.f6 rfl rfl rfl rfl rfl rfl rfl ⟨rfl, rfl, rfl, rfl, rfl⟩ rfl rfl rfl rfl rfl (by kernel_rfl) Try.func6 (by kernel_rfl)
    (of_decide_eq_true (by kernel_rfl)) (by unfold Func.isWrapper; first | (rw [if_pos (by decide +kernel)]; kernel_rfl) | (rw [if_neg (by decide +kernel)]; exact ⟨rfl, rfl⟩))
    (fun os started H enc _ => lifted os started H enc)

theorem proved : Rows.FairOrderSaid := over
end Go.Proofs.Ytcelhendfjiicaa.fairOrder
