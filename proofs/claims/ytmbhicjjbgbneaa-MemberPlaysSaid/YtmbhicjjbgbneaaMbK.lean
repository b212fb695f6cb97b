/- A member list: All. -/
import Derived.Test.YtmbhicjjbgbneaaMbJ
import Derived.Test.YtmbhicjjbgbneaaItT
namespace Go.Proofs.Ytmbhicjjbgbneaa
open Go.RowKit Go.Shelf Go.Proofs.YtmbhicjjbgbneaaW.PrintWords Go.Proofs.YtmbhicjjbgbneaaW.PrintLast Go.Proofs.YtmbhicjjbgbneaaW.PrintMore
set_option linter.unusedVariables false
set_option linter.unusedSimpArgs false
set_option maxRecDepth 100000
abbrev Rp := Int × Int × Int × Int × Int
abbrev KRp : Kd Rp := Kd.pair (Kd.int .u64) (Kd.pair (Kd.int .i64) (Kd.pair (Kd.int .u64) (Kd.pair (Kd.int .i64) (Kd.int .i64))))
def rpV (e : Int × RpV) : Rp := (e.1, e.2.2.1, e.2.2.2.1, e.2.2.2.2.1, e.2.2.2.2.2)
def rpL (x : Rp) : List Value := [.int .u64 x.1, .int .i64 x.2.1, .int .u64 x.2.2.1, .int .i64 x.2.2.2.1, .int .i64 x.2.2.2.2]
theorem rp_M (W : World) (base : Nat) (ok : Nat → Prop) (x : Rp) : KRp.M W base ok x (rpL x) := ⟨[.int .u64 x.1], _, rfl, rfl, [.int .i64 x.2.1], _, rfl, rfl, [.int .u64 x.2.2.1], _, rfl, rfl, [.int .i64 x.2.2.2.1], [.int .i64 x.2.2.2.2], rfl, rfl, rfl⟩
theorem rp_K {w : World} {x : Rp} {cs : List Value} (h : KRp.K w x cs) : cs = rpL x := by
  obtain ⟨c0, r0, e0, h0, c1, r1, e1, h1, c2, r2, e2, h2, c3, r3, e3, h3, h4⟩ := h
  have h0' : c0 = [.int .u64 x.1] := h0
  have h1' : c1 = [.int .i64 x.2.1] := h1
  have h2' : c2 = [.int .u64 x.2.2.1] := h2
  have h3' : c3 = [.int .i64 x.2.2.2.1] := h3
  have h4' : r3 = [.int .i64 x.2.2.2.2] := h4
  subst e3 e2 e1 h0' h1' h2' h3' h4'
  exact e0
theorem infoRep : (Try.prog.info? 75).map (fun i => (i.zero, i.size, i.bytes)) = some (some (.agg #[.int .u64 0, .int .i64 0, .int .u64 0, .int .i64 0, .int .i64 0]), 5, 40) := by kernel_rfl
def pL (L : List (Int × RpV)) : List (Int × Nat) := L.map (fun e => (e.1, e.2.1))
theorem ptL_pL (L : List (Int × RpV)) : ptL (pL L) = ptrs L := by unfold ptL pL ptrs; rw [List.map_map]; rfl
/-- The keys rise. -/
def Asc (L : List (Int × RpV)) : Prop := L.Pairwise (fun a b => a.1 < b.1)
theorem pL_asc {L : List (Int × RpV)} (h : Asc L) : (pL L).Pairwise (fun a b => a.1 < b.1) := by unfold pL; rw [List.pairwise_map]; exact h
section
variable {W : World} {p m : Nat} {now last : Int} {L : List (Int × RpV)}
theorem own_cell {w : World} {base e : Nat} {A : Option Addr} {n c : Nat} {xs : List Value} (h : w.ownsRow base e 1 (.slice A n c) n xs) (i : Nat) (hi : i < n) : ∃ g : Nat, A = some ⟨g, 0, none⟩ ∧ w.cell? ⟨g, i, none⟩ = some (xs.getD i (.int .i64 0)) := by
  obtain ⟨h1, h2⟩ := h
  rcases h2 with ⟨h2, h0⟩ | ⟨g, cap, cur, h2, hg, hh, hn, hcm, hsz, ht⟩
  · omega
  · injection h2 with h2 h3 h4
    subst h2
    refine ⟨g, rfl, ?_⟩
    rw [Nat.mul_one] at ht hsz h1
    have h5 : (cur.toList.take n)[i]? = xs[i]? := by rw [ht]
    rw [List.getElem?_take_of_lt hi] at h5
    simp only [World.cell?, hh]
    simp only [Option.isSome_none, Bool.false_eq_true, if_false]
    rw [← Array.getElem?_toList, h5, List.getD_eq_getElem?_getD, List.getElem?_eq_getElem (by omega)]
    rfl
def AllR (W : World) (L : List (Int × RpV)) (e : Ending) (w' : World) : Prop := ∃ v, e = .returned v ∧ KRp.R 75 w' W.heap.size (fun _ => True) v (L.map rpV) ∧ Below W.heap.size W w'
theorem rpV_take (L : List (Int × RpV)) (i : Nat) (hi : i < L.length) (e : Int × RpV) (he : L[i]? = some e) : (L.map rpV).take i ++ [rpV e] = (L.map rpV).take (i + 1) := by
  rw [List.take_add_one, List.getElem?_map, he]
  rfl
set_option maxHeartbeats 2000000 in
theorem mball_in (h : Mb W p m now last L) (hs : Asc L) (h12 : L.length ≤ 12) : Calls Try.prog 28 #[.pointer (some ⟨p, 0, none⟩)] W (AllR W L) := by
  have HO := Lib.hid (mbok_in h)
  obtain ⟨k0, k1, k2⟩ := h.at_
  have HV := Lib.hid (mvals_any W (some m))
  have hb0 := below_alloc (Below.refl W.heap.size W) (.cells #[.map (some m)] 93)
  have h0 := h.below hb0
  have HS := Lib.hid (msorted_any W.heap.size m (pL L) (W.alloc (.cells #[.map (some m)] 93)) (by simp) (blk_cell (heap_alloc_new W _) 0) (by rw [ptL_pL]; exact h0.mp) (by unfold pL; rw [List.length_map]; exact h12) (pL_asc hs) (fun e he => by
    unfold pL at he
    obtain ⟨a, ha, rfl⟩ := List.mem_map.1 he
    have := h0.rp a ha
    exact ⟨blk_cell this 0, blk_lt this⟩))
  have H := Lib.hid h
  have H12 := Lib.hid h12
  have HB0 := Lib.hid hb0
  obtain ⟨n, hn⟩ : ∃ n, L.length = n := ⟨_, rfl⟩
  have HN := Lib.hid hn
  unfold AllR
  clear h hs h12 hb0 h0 hn
  go_enter Try.func28, Try.ntmps28
  go_wp2_with fail
  refine HO.out.mono ?_
  rintro e w' ⟨rfl, rfl⟩
  go_wp2_with fail
  refine HV.out.mono ?_
  rintro e w' ⟨rfl, rfl⟩
  go_wp2_with fail
  refine HS.out.mono ?_
  rintro e w1 ⟨v, rfl, hr, hb⟩
  have hvn : ∃ A c, v = .slice A n c := by
    have := hr.2
    unfold pL at this
    rw [List.length_map, HN.out] at this
    rcases this with ⟨rfl, h0⟩ | ⟨g, cap, cur, rfl, -⟩
    · exact ⟨none, 0, by rw [h0]⟩
    · exact ⟨_, _, rfl⟩
  obtain ⟨A, c, rfl⟩ := hvn
  have hr' : w1.ownsRow (W.alloc (.cells #[.map (some m)] 93)).heap.size 112 1 (.slice A n c) n (L.map (fun e => ptV e.2.1)) := by
    have h := hr
    unfold pL at h
    rw [List.length_map, HN.out, List.map_map] at h
    exact h
  have hbw := below_then HB0.out HB0.out.size hb
  have H1 := Lib.hid (H.out.below hbw)
  have HR1 := Lib.hid hr'
  have HB1 := Lib.hid hbw
  have hn12 : n ≤ 12 := by rw [← HN.out]; exact H12.out
  have HR0 := Lib.hid (Kd.R_nil KRp 75 w1 W.heap.size (fun _ => True))
  clear hr hr' hb hbw HS HV HO HB0 k0 k1 k2
  go_wp2_with fail
  obtain ⟨w9, hw9⟩ : ∃ x, w1 = x := ⟨_, rfl⟩
  have HF := Lib.hid (fun (W' : World) (hb : Below w1.heap.size w1 W') (i : Nat) (hi : i < n) => show ∃ g q, ∃ e : Int × RpV, A = some ⟨g, 0, none⟩ ∧ W'.cell? ⟨g, i, none⟩ = some (.pointer (some ⟨q, 0, none⟩)) ∧ L[i]? = some e ∧ W'.heap[q]? = some (.cells (rpC e.1 e.2) 75 (0, 0)) from by
    obtain ⟨g, hg, hc⟩ := own_cell HR1.out i hi
    have hi' : i < L.length := by rw [HN.out]; exact hi
    have he := H1.out.rp L[i] (List.getElem_mem hi')
    refine ⟨g, L[i].2.1, L[i], hg, ?_, List.getElem?_eq_getElem hi', (hb.block _ (blk_lt he)).trans he⟩
    rw [pw_cell_below hb hc, List.getD_eq_getElem?_getD, List.getElem?_map, List.getElem?_eq_getElem hi']
    rfl)
  clear hw9
  go_loopw [3, 5, 16] (fun ov rv iv wr => ∃ (i : Nat) (A1 : Option Addr) (c1 : Nat) (r' : Value), r' = rv ∧ ov = .slice A1 i c1 ∧ iv = .int .i64 i ∧ i ≤ n ∧ Hid (KRp.R 75 wr w1.heap.size (fun _ => True) ov ((L.map rpV).take i)) ∧ Hid (Below w1.heap.size w1 wr)) (fun _ _ iv _ => n - (intOf iv).toNat)
  case atStart => exact ⟨0, none, 0, _, rfl, rfl, rfl, by omega, Lib.hid (Kd.R_nil KRp _ w1 _ _), Lib.hid (Below.refl _ _)⟩
  case round =>
    obtain ⟨i, A1, c1, rv, rfl, rfl, rfl, hi, HR, HB⟩ := hrel
    by_cases hin : i < n
    · obtain ⟨g, q, e, rfl, q0, he, hq⟩ := HF.out wr HB.out i hin
      obtain ⟨id, qb, s, ic, b, tt⟩ := e
      have c0 : wr.cell? ⟨q, 0, none⟩ = some (.int .u64 id) := blk_cell hq 0
      have c1' : wr.cell? ⟨q, 1, none⟩ = some (.int .i64 s) := blk_cell hq 1
      have c2 : wr.cell? ⟨q, 2, none⟩ = some (.int .u64 ic) := blk_cell hq 2
      have c3 : wr.cell? ⟨q, 3, none⟩ = some (.int .i64 b) := blk_cell hq 3
      have c4 : wr.cell? ⟨q, 4, none⟩ = some (.int .i64 tt) := blk_cell hq 4
      have HE := Lib.hid he
      have HBS := Lib.hid HB.out.size
      clear he hq
      have hlt : ((L.map rpV).take i).length + 1 ≤ 13 := by rw [List.length_take]; omega
      go_wp2_with (at_builtin; go_loud (refine Kd.R_append KRp (w0 := w1) (W := wr) w1.heap.size rfl _ _ 65 75 (.agg #[.int .u64 0, .int .i64 0, .int .u64 0, .int .i64 0, .int .i64 0]) 40 rfl Try.underlying65 infoRep (by rfl) (by decide) (by decide) (.slice A1 i c1) ((L.map rpV).take i) (id, s, ic, b, tt) (rpL (id, s, ic, b, tt)) (fun _ => True) (fun _ => False) (by rfl) (by rfl) (rp_M _ _ _ _) (fun k hk => hk.elim) (fun _ _ => trivial) HR.out HB.out HBS.out (by omega) ?_; intro v5 w6 hr5 hb5 hg5 hat5; have hr6 : KRp.R 75 w6 w1.heap.size (fun _ => True) v5 ((L.map rpV).take (i + 1)) := by { rw [← rpV_take L i (by rw [HN.out]; exact hin) _ HE.out]; exact hr5 }; obtain ⟨A5, c5, e5⟩ := Kd.R_slice hr6; rw [List.length_take, List.length_map, HN.out, show min (i + 1) n = i + 1 by omega] at e5; subst e5; have HR5 := Lib.hid hr6; have HB6 := Lib.hid hb5; clear hr5 hr6 hb5 hg5 hat5))
      go_roundw
      case rel => exact ⟨i + 1, A5, c5, _, rfl, rfl, by go_num, by omega, HR5, HB6⟩
      case measure => simp [intOf]; omega
    · have hin2 : i = n := by omega
      subst hin2
      have HRR := Lib.hid (show KRp.R 75 wr W.heap.size (fun _ => True) (.slice A1 i c1) (L.map rpV) from by
        have h := HR.out
        rw [List.take_of_length_le (by rw [List.length_map, HN.out]; omega)] at h
        exact Kd.R_lower h HB1.out.size)
      go_wp2_with fail
      go_ret
      exact ⟨_, rfl, HRR.out, below_then HB1.out HB1.out.size HB.out⟩
end
end Go.Proofs.Ytmbhicjjbgbneaa
