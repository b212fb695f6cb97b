/- The values of a map of pointers, collected: maps.Values, slices.AppendSeq, slices.Collect. -/
import Derived.Test.YtmbhicjjbgbneaaItV
namespace Go.Proofs.Ytmbhicjjbgbneaa
open Go.RowKit Go.Shelf Go.Proofs.YtmbhicjjbgbneaaW.PrintWords Go.Proofs.YtmbhicjjbgbneaaW.PrintLast Go.Proofs.YtmbhicjjbgbneaaW.PrintMore
set_option linter.unusedVariables false
set_option linter.unusedSimpArgs false
set_option maxRecDepth 100000
attribute [local go_sem] Oper.semAt_some
theorem mvals_any (W : World) (mb : Option Nat) : Calls Try.prog 60 #[.map mb] W fun e w' => e = .returned (.func (.func 79) #[] #[.pointer (some ⟨W.heap.size, 0, none⟩)]) ∧ w' = W.alloc (.cells #[.map mb] 93) := by
  go_enter Try.func60, Try.ntmps60
  go_wp2_with fail
  go_ret
  exact ⟨rfl, rfl⟩
theorem mvals_stops (F : Fence) (n : Nat) (h8 : F.fn 79) (hro : F.round = none) (hn : 1 ≤ n) (Bm b : Nat) (L : List (Int × Nat)) (w : World) (hBm : Bm < w.heap.size)
    (hm : w.cell? ⟨Bm, 0, none⟩ = some (.map (some b))) (hmp : IsMp (Value.int .u64) w b (ptL L)) :
    SeqStopsK F n Try.prog 79 #[.pointer (some ⟨Bm, 0, none⟩)] (fun q : Nat => #[ptV q]) KeepsWalks (fun xs => xs.Perm (L.map Prod.snd)) (fun _ => True) L.length w := fun l J Jx W hW hJ _ hY h0 =>
  mvals1_in F n h8 hro hn l Bm b L J Jx hY W hJ ((hW.cell (p := ⟨Bm, 0, none⟩) hBm).trans hm) (hmp.below hW) h0
theorem infoRp : (Try.prog.info? 112).map (fun i => (i.zero, i.size, i.bytes)) = some (some (.pointer none), 1, 8) := by kernel_rfl
def CollR (W : World) (L : List (Int × Nat)) (e : Ending) (w' : World) : Prop := ∃ (xs : List Nat) (v : Value), e = .returned v ∧ xs.Perm (L.map Prod.snd) ∧ w'.ownsRow W.heap.size 112 1 v xs.length (xs.map ptV) ∧ (v = .slice none 0 0 ↔ xs = []) ∧ Below W.heap.size W w'
set_option maxHeartbeats 2000000 in
theorem mapseq_in (F : Fence) (n : Nat) (h3 : F.fn 85) (h8 : F.fn 79) (hro : F.round = none) (hn : 3 ≤ n) (Bm b : Nat) (L : List (Int × Nat)) (w : World) (hBm : Bm < w.heap.size)
    (hm : w.cell? ⟨Bm, 0, none⟩ = some (.map (some b))) (hmp : IsMp (Value.int .u64) w b (ptL L)) (hL : L.length ≤ 1000000) :
    CallsIn F n Try.prog 85 #[.slice none 0 0, .func (.func 79) #[] #[.pointer (some ⟨Bm, 0, none⟩)]] w (CollR w L) := by
  have h1 : 1 ≤ n := by omega
  unfold CollR
  obtain ⟨i0, hi, hz0, hz1, hz2⟩ := info_parts infoRp
  refine callsIn_of_wp_marks Try.func85 rfl h3 ?_ hro
  simp only [Try.ntmps85, List.size_toArray, List.length_cons, List.length_nil, Nat.reduceAdd, Nat.reduceSub, Array.replicate_succ, Array.replicate_zero, List.push_toArray, List.append_toArray, List.nil_append, List.cons_append]
  gi_wp2
  have bO := Boxed.new w 110 (.slice none 0 0)
  have hB0 : Below w.heap.size w (w.alloc (.cells #[.slice none 0 0] 110)) := (Below.refl _ w).alloc (Nat.le_refl _) _
  have hsz : (w.alloc (.cells #[.slice none 0 0] 110)).heap.size = w.heap.size + 1 := by simp
  refine wpIn_rangeFunc_ownF hro h1 (gf := 79) (lb := #[.pointer (some ⟨Bm, 0, none⟩)]) rfl h8 (enters_of Try.func79 (by kernel_rfl) rfl)
    (mvals_stops F (n - 1) h8 hro (by omega) Bm b L _ (by rw [hsz]; omega) ((hB0.cell (p := ⟨Bm, 0, none⟩) hBm).trans hm) (hmp.below hB0)) walksK_t walksK_b (Below.refl _ _) (fun _ => rfl)
    (fun pre W => (∃ v, Boxed W w.heap.size 110 v ∧ W.ownsRow w.heap.size 112 1 v pre.length (pre.map ptV) ∧ (v = .slice none 0 0 ↔ pre = [])) ∧ Below w.heap.size w W)
    (fun _ _ _ => False)
    (OwnFrom.and (Own.from (holdsRow_own w.heap.size w.heap.size 110 112 1 (fun pre => pre.length) (fun pre => pre.map ptV) (fun pre v => v = .slice none 0 0 ↔ pre = [])) _) (ownFrom_below (Nat.le_refl _) (by rw [hsz]; omega)))
    (fun _ _ _ _ _ hs _ _ => hs)
    ⟨⟨_, bO, World.ownsRow_nil _ _ _ _, by simp⟩, hB0⟩
    (fun x => { tmps := #[.slice none 0 0, .func (.func 79) #[] #[.pointer (some ⟨Bm, 0, none⟩)], .pointer (some ⟨w.heap.size, 0, none⟩), undef, .slice none 0 0, ptV x, .func (.func 79) #[] #[.pointer (some ⟨Bm, 0, none⟩)], ptV x, undef, undef, undef, undef, undef], defers := [] }) ?assign ?body ?done ?stop
  case assign =>
    intro l x W K hK
    gi_wp2
    exact hK
  case body =>
    rintro l pre x W ⟨⟨v, hv, hrow, hnil⟩, hB⟩ hlt
    have hc := hv.cell
    have hmx : 1000001 ≤ maxLen := by decide
    unfold ptV
    gi_wp2_with (gi_at_builtin; refine wpListIn_append_own _ rfl _ _ 110 rfl w.heap.size 112 i0 (.pointer none) 1 8 Try.underlying110 hi hz0 hz1 hz2 rfl (by decide) _ _ _ rfl (hrow.alloc _) ⟨W.heap.size, 0, none⟩ 1 1 [ptV x] rfl rfl (cell_one_new _ _ _) (by simp [Value.oneCell', ptV]) (by omega) (by omega) (by have := hB.size; simp; omega) ?_; intro v' w1 hown' hgrow _; obtain ⟨g', cap', rfl⟩ := ownsRow_succ hown'; obtain ⟨hv1, hv2, hr2, hk2, hb2⟩ := hv.appended (by decide) hrow hB.size (Nat.le_refl _) hown' hgrow; have hc1 := hv1.cell; have hf1 := hv1.frozen)
    exact ⟨hk2, hk2.walks, ⟨_, hv2, by have h9 := hr2; rw [List.length_append, List.map_append]; exact h9, by simp⟩, hB.trans hb2⟩
  case done =>
    rintro D ys W hD hp ⟨⟨v, hv, hrow, hnil⟩, hB⟩ hK
    have hc := hv.cell
    gi_wp2
    refine ⟨by simp, .inl ⟨_, _, rfl, run_takeDeferred hK, ?_⟩⟩
    exact ⟨_, results_tmp rfl _ _ _, ys, v, rfl, hp, ownsRow_putObj hrow _ hK rfl, hnil, hB.trans (belowK_b (w := w) (Nat.le_refl _) W D _ _ (by rw [hsz] at hD; omega) hK rfl rfl)⟩
  case stop =>
    rintro D c pre W _ _ h _
    exact h.elim
theorem mcollect_any (Bm b : Nat) (L : List (Int × Nat)) (w : World) (hBm : Bm < w.heap.size) (hm : w.cell? ⟨Bm, 0, none⟩ = some (.map (some b))) (hmp : IsMp (Value.int .u64) w b (ptL L)) (hL : L.length ≤ 1000000) :
    Calls Try.prog 77 #[.func (.func 79) #[] #[.pointer (some ⟨Bm, 0, none⟩)]] w (CollR w L) := by
  have HA := Lib.hid (callsIn_wide.1 (mapseq_in Fence.wide 3 trivial trivial rfl (Nat.le_refl _) Bm b L w hBm hm hmp hL))
  clear hBm hm hmp
  go_enter Try.func77, Try.ntmps77
  go_wp2_with fail
  refine HA.out.mono ?_
  rintro e w' ⟨xs, v, rfl, hp, hr, hn, hb⟩
  have HH := Lib.hid (And.intro hp (And.intro hr (And.intro hn hb)))
  clear hp hr hn hb
  go_wp2_with fail
  go_ret
  obtain ⟨hp, hr, hn, hb⟩ := HH.out
  exact ⟨xs, v, rfl, hp, hr, hn, hb⟩
end Go.Proofs.Ytmbhicjjbgbneaa
