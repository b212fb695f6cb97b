/- A fair queue: Push. -/
import Derived.Test.YtcelhendfjiicaaFqU
namespace Go.Proofs.Ytcelhendfjiicaa
open Go.RowKit Go.Shelf Go.Proofs.YtcelhendfjiicaaW.PrintWords Go.Proofs.YtcelhendfjiicaaW.PrintLast Go.Proofs.YtcelhendfjiicaaW.PrintMore
set_option linter.unusedVariables false
set_option linter.unusedSimpArgs false
set_option maxRecDepth 100000
attribute [local go_sem] gb_max2 gb_min2 gb_max_two gb_min_two gb_max_three gb_min_three
theorem infItem : (Try.prog.info? 43).map (fun i => (i.zero, i.size, i.bytes)) = some (some (.agg #[.int .u64 0, .int .i64 0, .int .u64 0]), 3, 24) := by kernel_rfl
def itV (x : ItemV) : Array Value := #[.int .u64 x.1, .int .i64 x.2.1, .int .u64 x.2.2]
/-- One item more. -/
def pushE (l : List Fl) (x : ItemV) : List Fl :=
  match mlook l x.1 with
  | some _ => l.map (fun f => if f.1 = x.1 then (f.1, f.2.1, f.2.2 ++ [x]) else f)
  | none => l ++ [(x.1, 0, [x])]
section
variable {W W' w1 : World} {base : Nat} {F F' : Nat → Prop} {p mf mw : Nat} {rv rv' : Value} {R R' : List Int} {room quant many : Int} {began : Bool} {L L' : List FlV} {M M' : List (Int × Value)} {wt : WtV} {f g : FlV}
theorem er_look (L : List FlV) (n : Int) : mlook (L.map FlV.er) n = (mlook (keyed L) n).map (fun f => (f.c, f.xs)) := by
  induction L with
  | nil => rfl
  | cons g r ih =>
    show mlook ((g.n, (g.c, g.xs)) :: r.map FlV.er) n = (mlook ((g.n, g) :: keyed r) n).map _
    unfold mlook
    split
    · rfl
    · exact ih
theorem er_set (hnd : (L.map FlV.n).Nodup) (i : Nat) (hi : i < L.length) (x : ItemV) (hx : L[i].n = x.1) (v : Value) : (L.set i (L[i].put v (L[i].xs ++ [x]))).map FlV.er = (L.map FlV.er).map (fun f => if f.1 = x.1 then (f.1, f.2.1, f.2.2 ++ [x]) else f) := by
  apply List.ext_getElem (by simp)
  intro j h1 h2
  have hj : j < L.length := by simpa using h1
  rw [List.getElem_map, List.getElem_set, List.getElem_map, List.getElem_map]
  split
  · rename_i h
    subst h
    show (L[i].n, L[i].c, L[i].xs ++ [x]) = if L[i].n = x.1 then _ else _
    rw [if_pos hx]; rfl
  · rename_i h
    have h3 : L[j].n ≠ L[i].n := by
      have := nodup_at hnd j i (by simpa using hj) (by simpa using hi) (fun e => h e.symm)
      simpa using this
    show L[j].er = if L[j].n = x.1 then _ else L[j].er
    rw [if_neg (by rw [← hx]; exact h3)]
theorem push_old (hnd : (L.map FlV.n).Nodup) (i : Nat) (hi : i < L.length) (x : ItemV) (hx : L[i].n = x.1) (v : Value) : (L.set i (L[i].put v (L[i].xs ++ [x]))).map FlV.er = pushE (L.map FlV.er) x := by
  have hl : mlook (keyed L) x.1 = some L[i] := by
    refine mlook_of_mem (by rw [keyed_keys]; exact hnd) (List.mem_map.2 ⟨L[i], List.getElem_mem hi, by rw [hx]⟩)
  unfold pushE
  rw [er_look, hl]
  exact er_set hnd i hi x hx v
theorem push_new (x : ItemV) (b : Nat) (v v' : Value) (hn : mlook (keyed L) x.1 = none) : ((L ++ [(⟨x.1, b, 0, v, []⟩ : FlV)]).set L.length ({ n := x.1, b := b, c := 0, v := v', xs := [] ++ [x] } : FlV)).map FlV.er = pushE (L.map FlV.er) x := by
  unfold pushE
  rw [er_look, hn, List.set_append_right _ _ (Nat.le_refl _)]
  simp [FlV.er]
theorem sum_set (i : Nat) (hi : i < L.length) (f' : FlV) (hf : f'.xs.length = L[i].xs.length + 1) : ((L.set i f').map (fun f => f.xs.length)).sum = (L.map (fun f => f.xs.length)).sum + 1 := by
  induction L generalizing i with
  | nil => simp at hi
  | cons g r ih =>
    cases i with
    | zero =>
      simp only [List.set_cons_zero, List.map_cons, List.sum_cons]
      simp only [List.getElem_cons_zero] at hf
      omega
    | succ i =>
      simp only [List.set_cons_succ, List.map_cons, List.sum_cons]
      simp only [List.getElem_cons_succ] at hf
      rw [ih i (by simpa using hi) hf]
      omega
/-- Between the two halves of Push. -/
def PushMid (W : World) (base : Nat) (F : Nat → Prop) (p mf mw : Nat) (room quant many : Int) (began : Bool) (L : List FlV) (wt : WtV) (x : ItemV) (ib : Nat) (s5 : Value) (wx : World) : Prop :=
  ∃ (L2 : List FlV) (M2 : List (Int × Value)) (rv2 : Value) (F2 : Nat → Prop) (i : Nat) (hi : i < L2.length), s5 = .pointer (some ⟨L2[i].b, 0, none⟩) ∧ L2[i].n = x.1 ∧ Fq wx base F2 p mf mw rv2 (L2.map FlV.n) room quant began L2 M2 wt many ∧
    (∀ k, F2 k → F k ∨ W.heap.size ≤ k) ∧ Tn F W wx ∧ wx.heap[ib]? = some (.cells (itV x) 43 (0, 0)) ∧ (L2.map (fun f => f.xs.length)).sum = (L.map (fun f => f.xs.length)).sum ∧
    (∀ v, (L2.set i (L2[i].put v (L2[i].xs ++ [x]))).map FlV.er = pushE (L.map FlV.er) x)
theorem pushmid_new {W3 w5 : World} {x : ItemV} {ib : Nat} {mn : Nat} {M2 : List (Int × Value)} (hq5 : Fq w5 base (Nw W3 w5 F) p mf mw rv (L.map FlV.n) room quant began (L ++ [⟨x.1, W3.heap.size, 0, .slice none 0 0, []⟩]) M2 wt mn) (hn : mlook (keyed L) x.1 = none)
    (hT5 : Tn F W w5) (hs3 : W.heap.size ≤ W3.heap.size) (hs5 : W3.heap.size ≤ w5.heap.size) (hp : F p) (hi5 : w5.heap[ib]? = some (.cells (itV x) 43 (0, 0))) (hr : KU.Q 40 w1 base (fun k => Nw W3 w5 F k ∨ w5.heap.size ≤ k) rv' (L.map FlV.n ++ [x.1])) (hg : w5.grownBy w1 rv.ownBlock) :
    PushMid W base F p mf mw room quant mn began L wt x ib (.pointer (some ⟨W3.heap.size, 0, none⟩)) (w1.setCell ⟨p, 4, none⟩ rv') := by
  have hrA := hq5.ringA (w1 := w1) (rv' := rv') (R' := L.map FlV.n ++ [x.1]) (Kd.Q_mono (Kd.Q_bound hr) (fun k hk => by
    rcases hk.1 with h | h
    · exact .inl h
    · exact .inr ⟨h, hk.2.2.1⟩)) hg
  have h1 : w1.heap[ib]? = some (.cells (itV x) 43 (0, 0)) := by
    refine (hg.block ib (blk_lt hi5) (fun e => ?_)).trans hi5
    obtain ⟨cells, h2⟩ := Kd.Q_typed hq5.ring ib e.symm
    rw [hi5] at h2; injection h2 with h2; injection h2 with _ h2; exact absurd h2 (by decide)
  have hib9 : (w1.setCell ⟨p, 4, none⟩ rv').heap[ib]? = some (.cells (itV x) 43 (0, 0)) := by
    refine (Below.heap_setCell w1 ⟨p, 4, none⟩ _ ib (fun e => ?_)).trans h1
    have h2 := hq5.box
    rw [show p = ib from e.symm, hi5] at h2
    injection h2 with h2; injection h2 with _ h2; exact absurd h2 (by decide)
  have hT9 : Tn F W (w1.setCell ⟨p, 4, none⟩ rv') := by
    refine (hT5.grownO hg (fun b hb => ?_)).put p 4 _ (.inl hp)
    rcases hq5.ring.1 b hb with h | h
    · exact .inl h
    · exact .inr (Nat.le_trans hs3 h.1)
  have hi : L.length < (L ++ [(⟨x.1, W3.heap.size, 0, .slice none 0 0, []⟩ : FlV)]).length := by simp
  have hget : (L ++ [(⟨x.1, W3.heap.size, 0, .slice none 0 0, []⟩ : FlV)])[L.length] = ⟨x.1, W3.heap.size, 0, .slice none 0 0, []⟩ := by simp
  refine ⟨_, M2, rv', Nw w5 w1 (Nw W3 w5 F), L.length, hi, by rw [hget], by rw [hget], ?_, fun k hk => ?_, hT9, hib9, by simp, fun v => ?_⟩
  · rw [List.map_append]; exact hrA
  · rcases hk with (hk | hk) | hk
    · exact .inl hk
    · exact .inr (Nat.le_trans hs3 hk.1)
    · exact .inr (Nat.le_trans hs3 (Nat.le_trans hs5 hk.1))
  · rw [hget]
    exact push_new x W3.heap.size (.slice none 0 0) v hn
/-- What Push leaves. -/
def PushR (W : World) (base : Nat) (F : Nat → Prop) (p : Nat) (room quant : Int) (began : Bool) (L : List FlV) (wt : WtV) (x : ItemV) (w' : World) : Prop :=
  ∃ L' F', L'.map FlV.er = pushE (L.map FlV.er) x ∧ FqV w' base F' p room quant began L' wt ∧ (∀ k, F' k → F k ∨ W.heap.size ≤ k) ∧ Tn F W w'
theorem push_close {W9 w1 : World} {L2 : List FlV} {M2 : List (Int × Value)} {rv2 : Value} {F2 : Nat → Prop} {x : ItemV} {mn : Nat} (i : Nat) (hi : i < L2.length) {v1 : Value} (hF : ∀ k, F2 k → F k ∨ W.heap.size ≤ k) (hT : Tn F W W9) (hsum : (L2.map (fun f => f.xs.length)).sum = mn)
    (her : ∀ v, (L2.set i (L2[i].put v (L2[i].xs ++ [x]))).map FlV.er = pushE (L.map FlV.er) x)
    (hq5 : Fq W9.drew base F2 p mf mw rv2 (L2.map FlV.n) room quant began L2 M2 wt mn) (hg : W9.drew.grownBy w1 L2[i].v.ownBlock)
    (hq : Fq (w1.setCell ⟨L2[i].b, 1, none⟩ v1) base (Nw W9.drew w1 F2) p mf mw rv2 (L2.map FlV.n) room quant began (L2.set i (L2[i].put v1 (L2[i].xs ++ [x]))) M2 wt mn) :
    PushR W base F p room quant began L wt x ((w1.setCell ⟨L2[i].b, 1, none⟩ v1).setCell ⟨p, 2, none⟩ (.int .i64 (mn + 1))) := by
  have hfl := hq5.fl _ (List.getElem_mem hi)
  refine ⟨_, Nw W9.drew w1 F2, her v1, ⟨mf, mw, rv2, M2, ?_⟩, fun k hk => ?_, ?_⟩
  · have h2 := hq.put 2 (.int .i64 (mn + 1)) (many' := ((mn + 1 : Nat) : Int)) (began' := began) (rv' := rv2) (R' := L2.map FlV.n) rfl hq.ring
    rw [map_set_same FlV.n i hi (L2[i].put v1 (L2[i].xs ++ [x])) rfl]
    rw [sum_set i hi (L2[i].put v1 (L2[i].xs ++ [x])) (by simp [FlV.put]), hsum]
    exact h2
  · rcases hk with hk | hk
    · exact hF k hk
    · exact .inr (Nat.le_trans hT.size hk.1)
  · have h1 := hT.drew.grownO hg (fun b hb => hF b (hfl.row.1 b hb))
    exact (h1.put _ 1 v1 (hF _ hfl.fp)).put p 2 _ (hF _ hq5.fp)
theorem fqpush_bad (h : FqV W base F p room quant began L wt) (x : ItemV) (hx : x.2.1 < 1 ∨ 1048576 < x.2.1) : Calls Try.prog 18 #[.pointer (some ⟨p, 0, none⟩), .agg #[.int .u64 x.1, .int .i64 x.2.1, .int .u64 x.2.2]] W fun e w' => e = .returned (.int .i64 1) ∧ Below W.heap.size W w' := by
  obtain ⟨mf, mw, rv, M, h⟩ := h
  have HQ := Lib.hid h
  obtain ⟨x1, x2, x3⟩ := x
  dsimp only at hx ⊢
  rcases hx with hx | hx
  all_goals
    have hx' : (x2 < 1) ∨ ¬ (x2 < 1) := by omega
    clear h hx'
    go_enter Try.func18, Try.ntmps18
    go_wp2_with fail
    have hb := below_alloc (Below.refl W.heap.size W) (.cells #[.int .u64 x1, .int .i64 x2, .int .u64 x3] 43)
    have HB := Lib.hid hb
    refine (fqok_in (HQ.out.below hb)).mono ?_
    rintro e w' ⟨rfl, rfl⟩
    clear hb
    go_wp2_with fail
    go_ret
    exact ⟨rfl, HB.out⟩
theorem fqpush_full (h : FqV W base F p room quant began L wt) (x : ItemV) (h1 : 1 ≤ x.2.1) (h2 : x.2.1 ≤ 1048576) (hf : ((L.map (fun f => f.xs.length)).sum : Nat) = room) : Calls Try.prog 18 #[.pointer (some ⟨p, 0, none⟩), .agg #[.int .u64 x.1, .int .i64 x.2.1, .int .u64 x.2.2]] W fun e w' => e = .returned (.int .i64 9) ∧ Below W.heap.size W w' := by
  obtain ⟨mf, mw, rv, M, h⟩ := h
  rw [hf] at h
  have HQ := Lib.hid h
  obtain ⟨x1, x2, x3⟩ := x
  dsimp only at h1 h2 ⊢
  clear h hf
  go_enter Try.func18, Try.ntmps18
  go_wp2_with fail
  have hb := below_alloc (Below.refl W.heap.size W) (.cells #[.int .u64 x1, .int .i64 x2, .int .u64 x3] 43)
  have HB := Lib.hid hb
  have hq := HQ.out.below hb
  obtain ⟨-, k0, k1, k2, -⟩ := hq.at_
  refine (fqok_in hq).mono ?_
  rintro e w' ⟨rfl, rfl⟩
  clear hb hq
  go_wp2_with fail
  go_quiet (fail)
  go_wp2_with fail
  go_ret
  exact ⟨rfl, pw_below_drewN HB.out nq⟩
set_option maxHeartbeats 2000000 in
theorem fqpush_ok (h : FqV W base F p room quant began L wt) (x : ItemV) (h1 : 1 ≤ x.2.1) (h2 : x.2.1 ≤ 1048576) (hf : ((L.map (fun f => f.xs.length)).sum : Nat) ≠ room) (hm9 : (L.map (fun f => f.xs.length)).sum ≤ 1000000) (hl9 : L.length ≤ 1000000) : Calls Try.prog 18 #[.pointer (some ⟨p, 0, none⟩), .agg #[.int .u64 x.1, .int .i64 x.2.1, .int .u64 x.2.2]] W fun e w' => e = .returned (.int .i64 0) ∧ PushR W base F p room quant began L wt x w' := by
  obtain ⟨mf, mw, rv, M, h⟩ := h
  obtain ⟨mn, hmn⟩ : ∃ mn : Nat, (L.map (fun f => f.xs.length)).sum = mn := ⟨_, rfl⟩
  rw [hmn] at h hf hm9
  have HQ := Lib.hid h
  have HMN := Lib.hid hmn
  have HX := Lib.hid (show itV x = #[.int .u64 x.1, .int .i64 x.2.1, .int .u64 x.2.2] from rfl)
  obtain ⟨x1, x2, x3⟩ := x
  dsimp only at h1 h2 HX ⊢
  have hfd : ((mn : Int) == room) = false := by simpa using hf
  clear h hf hmn
  go_enter Try.func18, Try.ntmps18
  go_wp2_with fail
  have hb := below_alloc (Below.refl W.heap.size W) (.cells #[.int .u64 x1, .int .i64 x2, .int .u64 x3] 43)
  have hbx := heap_alloc_new W (.cells #[.int .u64 x1, .int .i64 x2, .int .u64 x3] 43)
  have hs1 : W.heap.size < (W.alloc (.cells #[.int .u64 x1, .int .i64 x2, .int .u64 x3] 43)).heap.size := by simp
  have HB := Lib.hid hb
  have hq := HQ.out.below hb
  obtain ⟨-, k0, k1, k2, k3, -⟩ := hq.at_
  have HBX := Lib.hid hbx
  have HS1 := Lib.hid hs1
  have HQ1 := Lib.hid hq
  refine (fqok_in hq).mono ?_
  rintro e w' ⟨rfl, rfl⟩
  clear hb hq hbx hs1
  go_wp2_with fail
  obtain ⟨W1, hW1⟩ : ∃ W1, W.alloc (.cells #[.int .u64 x1, .int .i64 x2, .int .u64 x3] 43) = W1 := ⟨_, rfl⟩
  obtain ⟨ib, hib⟩ : ∃ ib, W.heap.size = ib := ⟨_, rfl⟩
  rw [hW1] at HB HBX HS1 HQ1 k0 k1 k2 k3 ⊢
  have HIB := Lib.hid hib
  rw [hib] at HBX HS1 ⊢
  have z0 := blk_cell HBX.out 0
  clear hW1 hib
  go_quiet (fail)
  go_wp2_with fail
  obtain ⟨W2, hW2⟩ : ∃ W2, W1.drewN nq = W2 := ⟨_, rfl⟩
  have hbn : Below W1.heap.size W1 W2 := by rw [← hW2]; exact pw_below_drewN (Below.refl _ W1) nq
  have HQ2 := Lib.hid (HQ1.out.below hbn)
  have HB2 := Lib.hid (below_then HB.out HB.out.size hbn)
  have HBX2 := Lib.hid (blk_below HBX.out hbn)
  rw [hW2]
  clear k0 k1 k2 k3 z0 hW2 hbn HQ1 HB
  obtain ⟨-, k0, k1, k2, k3, k4, -⟩ := HQ2.out.at_
  have z0 := blk_cell HBX2.out 0
  cases hl : mlook (keyed L) x1 with
  | some f =>
    have hlk := fun u : Nat => (HQ2.out.drewN u).lookH hl false
    have HL := Lib.hid hl
    clear hl
    go_quiet (fail)
    obtain ⟨W9, hW9⟩ : ∃ W9, W2.drewN nq = W9 := ⟨_, rfl⟩
    have hbn : Below W2.heap.size W2 W9 := by rw [← hW9]; exact pw_below_drewN (Below.refl _ W2) nq
    obtain ⟨s5b, hs5b⟩ : ∃ b, f.b = b := ⟨_, rfl⟩
    have HP : Hid (PushMid W base F p mf mw room quant mn began L wt (x1, x2, x3) ib (.pointer (some ⟨s5b, 0, none⟩)) W9) := Lib.hid (by
      obtain ⟨hm, hn⟩ := keyed_some HL.out
      obtain ⟨i, hi, e⟩ := List.getElem_of_mem hm
      subst e
      exact ⟨L, M, rv, F, i, hi, by rw [hs5b], hn, HQ2.out.below hbn, fun k hk => .inl hk, Tn.of (below_then HB2.out HB2.out.size hbn), blk_below HBX2.out hbn, rfl, fun v => push_old HQ2.out.nd i hi (x1, x2, x3) hn v⟩)
    rw [hW9, hs5b]
    clear hs5b hW9 hlk hbn k0 k1 k2 k3 k4 z0
    go_upto_region 12 with fail
    obtain ⟨L2, M2, rv2, F2, i, hi, e5, hn5, hq5, hF5, hT5, hb5, hs5, her⟩ := HP.out
    have hfl := hq5.fl _ (List.getElem_mem hi)
    obtain ⟨-, y0, y1, y2⟩ := hfl.at_
    obtain ⟨A, c, hv, hc, -⟩ := Kd.Q_reads hfl.row
    have HROW := Lib.hid hfl.row
    have HSUM := Lib.hid hs5
    have HER := Lib.hid her
    have HQ5 := Lib.hid hq5
    have HF5 := Lib.hid hF5
    have HT5 := Lib.hid hT5
    have hxl : L2[i].xs.length ≤ 1000000 := by
      have h3 : L2[i].xs.length ∈ L2.map (fun f => f.xs.length) := List.mem_map.2 ⟨_, List.getElem_mem hi, rfl⟩
      have h4 := mem_le_sum h3
      have h5 := HMN.out
      omega
    obtain ⟨xs5, hxs⟩ : ∃ xs, L2[i].xs = xs := ⟨_, rfl⟩
    obtain ⟨v5, hv5⟩ : ∃ v, L2[i].v = v := ⟨_, rfl⟩
    obtain ⟨b5, hb5'⟩ : ∃ b, L2[i].b = b := ⟨_, rfl⟩
    rw [hv5] at y1 hv HROW
    rw [hxs] at hv hc HROW hxl
    subst hv
    rw [hb5'] at y0 y1 y2 e5
    injection e5 with e5
    injection e5 with e5
    injection e5 with e5
    have hk5 : s5b = b5 := e5
    subst hk5
    have HXS := Lib.hid hxs
    have HB5 := Lib.hid hb5'
    have HN5 := Lib.hid hn5
    have z0 : W9.cell? ⟨ib, 0, none⟩ = some (.int .u64 x1) := blk_cell hb5 0
    have z1 : W9.cell? ⟨ib, 1, none⟩ = some (.int .i64 x2) := blk_cell hb5 1
    have z2 : W9.cell? ⟨ib, 2, none⟩ = some (.int .u64 x3) := blk_cell hb5 2
    obtain ⟨n5, hn5'⟩ : ∃ n, xs5.length = n := ⟨_, rfl⟩
    rw [hn5'] at y1 HROW hc hxl hv5
    have HV5 := Lib.hid hv5
    have HN6 := Lib.hid hn5'
    have HBS := Lib.hid (show base ≤ W9.heap.size from Nat.le_trans (hq5.flt p hq5.fp).1 (Nat.le_of_lt (hq5.flt p hq5.fp).2))
    clear hs5 her hq5 hF5 hT5 hxs hv5 hb5' hn5 hn5' hfl hb5 HX
    have y1a := pw_cell_below (below_alloc (Below.refl W9.heap.size W9) (.cells #[.int .u64 x1, .int .i64 x2, .int .u64 x3] 43)) y1
    go_region_law (refine Kd.Q_append_step (w0 := W9) (W := W9.drew) KIt base rfl _ _ 59 43 (.agg #[.int .u64 0, .int .i64 0, .int .u64 0]) 24 rfl Try.underlying59 infItem rfl (by decide) (by decide) (.slice A n5 c) xs5 (x1, x2, x3) [.int .u64 x1, .int .i64 x2, .int .u64 x3] (fun k => F2 k ∨ W9.heap.size ≤ k) (fun _ => False) rfl rfl ⟨[.int .u64 x1], [.int .i64 x2, .int .u64 x3], rfl, rfl, ⟨[.int .i64 x2], [.int .u64 x3], rfl, rfl, rfl⟩⟩ (fun _ h => h.elim) (fun k h => .inr h) (Kd.Q_mono (Kd.Q_drew HROW.out) (fun k hk => .inl hk)) (below_drew (Below.refl _ _)) HBS.out (by rw [HN6.out]; omega) ?_; intro v1 w1 hr hb hg hat; obtain ⟨A1, c1, e1, -⟩ := Kd.Q_slice hr; rw [List.length_append, List.length_singleton, HN6.out] at e1; subst e1; have HR := Lib.hid hr; have HG := Lib.hid hg; have HAT := Lib.hid hat; have hbx := HQ5.out.drew.boxG i hi (w1 := w1) (by rw [HV5.out]; exact hg); rw [HB5.out] at hbx; have u1 : w1.cell? ⟨s5b, 1, none⟩ = some L2[i].v := blk_cell hbx 1; rw [HV5.out] at u1; have f1 := blk_frozen hbx 1; clear hr hb hg hat hbx)
    all_goals
      have hqI := HQ5.out.drew.itemA (w1 := w1) (v1 := .slice A1 (n5 + 1) c1) (x := (x1, x2, x3)) i hi (Kd.Q_mono (Kd.Q_bound (by rw [HXS.out]; exact HR.out)) (fun k hk => by
        rcases hk.1 with h | h
        · exact .inl h
        · exact .inr ⟨h, hk.2.2.1⟩)) (by rw [HV5.out]; exact HG.out) (by rw [HV5.out]; exact HAT.out)
      have hpc := push_close i hi HF5.out HT5.out (HSUM.out.trans HMN.out) HER.out HQ5.out.drew (by rw [HV5.out]; exact HG.out) hqI
      have hat := hqI.at_
      rw [HB5.out] at hpc hat
      have HPC := Lib.hid hpc
      obtain ⟨-, q0, q1, q2, q3, q4, q5, q6⟩ := hat
      have f2 : (w1.setCell ⟨s5b, 1, none⟩ (.slice A1 (n5 + 1) c1)).frozen? ⟨p, 2, none⟩ = false := by have h := blk_frozen hqI.box 2; rw [HB5.out] at h; exact h
      clear hqI hpc
      obtain ⟨W7, hW7⟩ : ∃ W7, w1.setCell ⟨s5b, 1, none⟩ (.slice A1 (n5 + 1) c1) = W7 := ⟨_, rfl⟩
      rw [hW7] at HPC q0 q1 q2 q3 q4 q5 q6 f2 ⊢
      clear hW7 z0 z1 z2 y0 y1 y2 y1a u1 f1
      go_wp2_with fail
      go_ret
      exact ⟨rfl, HPC.out⟩
  | none =>
    have hlk := fun u : Nat => (HQ2.out.drewN u).lookM hl
    have HL := Lib.hid hl
    clear hl
    go_quiet (fail)
    obtain ⟨W3, hW3⟩ : ∃ W3, W2.drewN nq = W3 := ⟨_, rfl⟩
    have hbn : Below W2.heap.size W2 W3 := by rw [← hW3]; exact pw_below_drewN (Below.refl _ W2) nq
    have HQ3 := Lib.hid (HQ2.out.below hbn)
    have HB3 := Lib.hid (below_then HB2.out HB2.out.size hbn)
    have HBX3 := Lib.hid (blk_below HBX2.out hbn)
    rw [hW3]
    clear hW3 hlk hbn k0 k1 k2 k3 k4 z0
    go_upto_region 10 with fail
    obtain ⟨W4, hW4⟩ : ∃ W4, W3.alloc (.cells #[.int .i64 0, .slice none 0 0] 99) = W4 := ⟨_, rfl⟩
    have hb4 : Below W3.heap.size W3 W4 := by rw [← hW4]; exact below_alloc (Below.refl _ _) _
    have hq4 := (HQ3.out.below hb4).drew
    obtain ⟨fb, hfb⟩ : ∃ b, W3.heap.size = b := ⟨_, rfl⟩
    obtain ⟨w5, hrun, hmp, hg5, -⟩ := run_mput (P := Try.prog) Try.underlying86 (key_int Try.underlying40) hq4.mp x1 (.pointer (some ⟨fb, 0, none⟩))
    have hq5 := HQ3.out.drew.addF (w1 := w5) HL.out (by have h := hmp; rw [← hfb] at h; exact h) (by have h := hg5; rw [← hW4] at h; exact h)
    have hi5 : w5.heap[ib]? = some (.cells #[.int .u64 x1, .int .i64 x2, .int .u64 x3] 43 (0, 0)) := by
      have h1 := blk_below (blk_below HBX3.out hb4) (below_drew (Below.refl _ _))
      obtain ⟨es, cl, hmb, -⟩ := id hq4.mp
      exact (hg5.block _ (blk_lt h1) (fun e => ne_map h1 hmb (by injection e))).trans h1
    have hT5 : Tn F W w5 := ((Tn.of (below_then HB3.out HB3.out.size hb4)).drew).grown hg5 (.inl hq4.fmf)
    have HT5 := Lib.hid hT5
    have HSW : Hid (W.heap.size ≤ W3.drew.heap.size) := Lib.hid (show W.heap.size ≤ W3.heap.size from HB3.out.size)
    have HS35 : Hid (W3.drew.heap.size ≤ w5.drew.heap.size) := Lib.hid (Nat.le_trans hb4.size hg5.size)
    have HS0 := Lib.hid (show W4.drew.cell? ⟨p, 3, none⟩ = some (.map (some mf)) ∧ W4.drew.cell? ⟨ib, 0, none⟩ = some (.int .u64 x1) from ⟨hq4.at_.2.2.2.2.1, blk_cell (blk_below (blk_below HBX3.out hb4) (below_drew (Below.refl _ _))) 0⟩)
    have HS1 := Lib.hid (show w5.cell? ⟨p, 3, none⟩ = some (.map (some mf)) ∧ w5.cell? ⟨ib, 0, none⟩ = some (.int .u64 x1) from ⟨hq5.at_.2.2.2.2.1, blk_cell hi5 0⟩)
    have HQ5a := Lib.hid hq5
    have HI5 := Lib.hid hi5
    have HFB := Lib.hid hfb
    rw [hW4]
    try rw [hfb]
    clear hW4 hb4 hq4 hmp hg5 hq5 hi5 hT5 hfb
    go_region_held3 (fun w' => w'.cell? ⟨p, 3, none⟩ = some (.map (some mf)) ∧ w'.cell? ⟨ib, 0, none⟩ = some (.int .u64 x1))
      (first | exact HS0.out | exact HS1.out)
      (fail)
    go_upto_region 11 with fail
    clear hrun HS0
    obtain ⟨-, k0, k1, k2, k3, k4, -⟩ := HQ5a.out.at_
    have z0 : w5.cell? ⟨ib, 0, none⟩ = some (.int .u64 x1) := HS1.out.2
    obtain ⟨Ar, cr, hrv, hcr, -⟩ := Kd.Q_reads HQ5a.out.ring
    have HRG := Lib.hid HQ5a.out.ring
    have HLL := Lib.hid (show (L.map FlV.n).length = L.length from List.length_map _)
    rw [HLL.out] at hrv hcr
    obtain ⟨Ln, hLn⟩ : ∃ n, L.length = n := ⟨_, rfl⟩
    have HLN := Lib.hid hLn
    rw [hLn] at hrv hcr hl9
    subst hrv
    have HB0 := Lib.hid (show base ≤ w5.heap.size from Nat.le_trans (HQ5a.out.flt p HQ5a.out.fp).1 (Nat.le_of_lt (HQ5a.out.flt p HQ5a.out.fp).2))
    have k4a := pw_cell_below (below_alloc (Below.refl w5.heap.size w5) (.cells #[.int .u64 x1] 40)) k4
    clear hLn HS1 k0 k1 k2 k3
    go_region_law (refine Kd.Q_append_step (w0 := w5) (W := w5.drew) KU base rfl _ _ 63 40 (.int .u64 0) 8 rfl Try.underlying63 infU64 rfl (by decide) (by decide) (.slice Ar Ln cr) (L.map FlV.n) x1 [.int .u64 x1] (fun k => Nw W3.drew w5 F k ∨ w5.heap.size ≤ k) (fun _ => False) rfl rfl rfl (fun _ h => h.elim) (fun k h => .inr h) (Kd.Q_mono (Kd.Q_drew HRG.out) (fun k hk => .inl hk)) (below_drew (Below.refl _ _)) HB0.out (by rw [HLL.out, HLN.out]; omega) ?_; intro v1 w1 hr hb hg hat; obtain ⟨A1, c1, e1, -⟩ := Kd.Q_slice hr; rw [List.length_append, List.length_singleton, HLL.out, HLN.out] at e1; subst e1; have HR := Lib.hid hr; have HG := Lib.hid hg; have HAT := Lib.hid hat; have hbx := HQ5a.out.drew.boxR (w1 := w1) hg; have u1 : w1.cell? ⟨p, 4, none⟩ = some (.slice Ar Ln cr) := blk_cell hbx 4; have f1 := blk_frozen hbx 4; clear hr hb hg hat hbx)
    all_goals
      obtain ⟨s5b, hs5b⟩ : ∃ b, fb = b := ⟨_, rfl⟩
      have HP : Hid (PushMid W base F p mf mw room quant mn began L wt (x1, x2, x3) ib (.pointer (some ⟨s5b, 0, none⟩)) (w1.setCell ⟨p, 4, none⟩ (.slice A1 (Ln + 1) c1))) := Lib.hid (by
        have h := pushmid_new (x := (x1, x2, x3)) (ib := ib) (mn := mn) (W3 := W3.drew) (w5 := w5.drew) HQ5a.out.drew HL.out HT5.out.drew HSW.out HS35.out HQ3.out.fp (blk_below HI5.out (below_drew (Below.refl _ _))) HR.out HG.out
        rw [← hs5b, ← HFB.out]
        exact h)
      rw [hs5b]
      obtain ⟨W9, hW9⟩ : ∃ W9, w1.setCell ⟨p, 4, none⟩ (.slice A1 (Ln + 1) c1) = W9 := ⟨_, rfl⟩
      rw [hW9] at HP ⊢
      clear hs5b hW9 HT5 HR HG HAT HQ5a k4 k4a u1 f1 HI5 HFB HRG z0
      go_upto_region 12 with fail
      obtain ⟨L2, M2, rv2, F2, i, hi, e5, hn5, hq5, hF5, hT5, hb5, hs5, her⟩ := HP.out
      have hfl := hq5.fl _ (List.getElem_mem hi)
      obtain ⟨-, y0, y1, y2⟩ := hfl.at_
      obtain ⟨A, c, hv, hc, -⟩ := Kd.Q_reads hfl.row
      have HROW := Lib.hid hfl.row
      have HSUM := Lib.hid hs5
      have HER := Lib.hid her
      have HQ5 := Lib.hid hq5
      have HF5 := Lib.hid hF5
      have HT5 := Lib.hid hT5
      have hxl : L2[i].xs.length ≤ 1000000 := by
        have h3 : L2[i].xs.length ∈ L2.map (fun f => f.xs.length) := List.mem_map.2 ⟨_, List.getElem_mem hi, rfl⟩
        have h4 := mem_le_sum h3
        have h5 := HMN.out
        omega
      obtain ⟨xs5, hxs⟩ : ∃ xs, L2[i].xs = xs := ⟨_, rfl⟩
      obtain ⟨v5, hv5⟩ : ∃ v, L2[i].v = v := ⟨_, rfl⟩
      obtain ⟨b5, hb5'⟩ : ∃ b, L2[i].b = b := ⟨_, rfl⟩
      rw [hv5] at y1 hv HROW
      rw [hxs] at hv hc HROW hxl
      subst hv
      rw [hb5'] at y0 y1 y2 e5
      injection e5 with e5
      injection e5 with e5
      injection e5 with e5
      have hk5 : s5b = b5 := e5
      subst hk5
      have HXS := Lib.hid hxs
      have HB5 := Lib.hid hb5'
      have HN5 := Lib.hid hn5
      have z0 : W9.cell? ⟨ib, 0, none⟩ = some (.int .u64 x1) := blk_cell hb5 0
      have z1 : W9.cell? ⟨ib, 1, none⟩ = some (.int .i64 x2) := blk_cell hb5 1
      have z2 : W9.cell? ⟨ib, 2, none⟩ = some (.int .u64 x3) := blk_cell hb5 2
      obtain ⟨n5, hn5'⟩ : ∃ n, xs5.length = n := ⟨_, rfl⟩
      rw [hn5'] at y1 HROW hc hxl hv5
      have HV5 := Lib.hid hv5
      have HN6 := Lib.hid hn5'
      have HBS := Lib.hid (show base ≤ W9.heap.size from Nat.le_trans (hq5.flt p hq5.fp).1 (Nat.le_of_lt (hq5.flt p hq5.fp).2))
      clear hs5 her hq5 hF5 hT5 hxs hv5 hb5' hn5 hn5' hfl hb5 HX
      have y1a := pw_cell_below (below_alloc (Below.refl W9.heap.size W9) (.cells #[.int .u64 x1, .int .i64 x2, .int .u64 x3] 43)) y1
      go_region_law (refine Kd.Q_append_step (w0 := W9) (W := W9.drew) KIt base rfl _ _ 59 43 (.agg #[.int .u64 0, .int .i64 0, .int .u64 0]) 24 rfl Try.underlying59 infItem rfl (by decide) (by decide) (.slice A n5 c) xs5 (x1, x2, x3) [.int .u64 x1, .int .i64 x2, .int .u64 x3] (fun k => F2 k ∨ W9.heap.size ≤ k) (fun _ => False) rfl rfl ⟨[.int .u64 x1], [.int .i64 x2, .int .u64 x3], rfl, rfl, ⟨[.int .i64 x2], [.int .u64 x3], rfl, rfl, rfl⟩⟩ (fun _ h => h.elim) (fun k h => .inr h) (Kd.Q_mono (Kd.Q_drew HROW.out) (fun k hk => .inl hk)) (below_drew (Below.refl _ _)) HBS.out (by rw [HN6.out]; omega) ?_; intro v1 w1 hr hb hg hat; obtain ⟨A1, c1, e1, -⟩ := Kd.Q_slice hr; rw [List.length_append, List.length_singleton, HN6.out] at e1; subst e1; have HR := Lib.hid hr; have HG := Lib.hid hg; have HAT := Lib.hid hat; have hbx := HQ5.out.drew.boxG i hi (w1 := w1) (by rw [HV5.out]; exact hg); rw [HB5.out] at hbx; have u1 : w1.cell? ⟨s5b, 1, none⟩ = some L2[i].v := blk_cell hbx 1; rw [HV5.out] at u1; have f1 := blk_frozen hbx 1; clear hr hb hg hat hbx)
      all_goals
        have hqI := HQ5.out.drew.itemA (w1 := w1) (v1 := .slice A1 (n5 + 1) c1) (x := (x1, x2, x3)) i hi (Kd.Q_mono (Kd.Q_bound (by rw [HXS.out]; exact HR.out)) (fun k hk => by
          rcases hk.1 with h | h
          · exact .inl h
          · exact .inr ⟨h, hk.2.2.1⟩)) (by rw [HV5.out]; exact HG.out) (by rw [HV5.out]; exact HAT.out)
        have hpc := push_close i hi HF5.out HT5.out (HSUM.out.trans HMN.out) HER.out HQ5.out.drew (by rw [HV5.out]; exact HG.out) hqI
        have hat := hqI.at_
        rw [HB5.out] at hpc hat
        have HPC := Lib.hid hpc
        obtain ⟨-, q0, q1, q2, q3, q4, q5, q6⟩ := hat
        have f2 : (w1.setCell ⟨s5b, 1, none⟩ (.slice A1 (n5 + 1) c1)).frozen? ⟨p, 2, none⟩ = false := by have h := blk_frozen hqI.box 2; rw [HB5.out] at h; exact h
        clear hqI hpc
        obtain ⟨W7, hW7⟩ : ∃ W7, w1.setCell ⟨s5b, 1, none⟩ (.slice A1 (n5 + 1) c1) = W7 := ⟨_, rfl⟩
        rw [hW7] at HPC q0 q1 q2 q3 q4 q5 q6 f2 ⊢
        clear hW7 z0 z1 z2 y0 y1 y2 y1a u1 f1
        go_wp2_with fail
        go_ret
        exact ⟨rfl, HPC.out⟩
end
end Go.Proofs.Ytcelhendfjiicaa
