/- The document's table: Take, Over. -/
import Derived.Test.YtmbhicjjbgbneaaAdL
import Derived.Deep.RegionHeldLaw
import Derived.Deep.DeepCutAuto
import Derived.Deep.CutBlock
namespace Go.Proofs.Ytmbhicjjbgbneaa
open Go.RowKit Go.Shelf Go.Proofs.YtmbhicjjbgbneaaW.PrintWords Go.Proofs.YtmbhicjjbgbneaaW.PrintLast Go.Proofs.YtmbhicjjbgbneaaW.PrintMore
set_option linter.unusedVariables false
set_option linter.unusedSimpArgs false
set_option maxRecDepth 100000
theorem infoSm : (Try.prog.info? 105).map (fun i => (i.zero, i.size, i.bytes)) = some (some (.agg #[.int .u64 0, .int .u64 0]), 2, 16) := by kernel_rfl
theorem sm_take {V : List Sm} {w : World} {Ad : Option Addr} {n i : Nat} (h : KSm.C w Ad n V) (hi : i ≤ n) : KSm.C w Ad i (V.take i) := by
  obtain ⟨h1, h2, h3⟩ := h
  refine ⟨by rw [List.length_take]; omega, by omega, fun h0 => ?_⟩
  obtain ⟨ad, e, hc⟩ := h3 (by omega)
  refine ⟨ad, e, fun j p hj => hc j p ?_⟩
  have hji : j < i := by
    have := (List.getElem?_eq_some_iff.1 hj).1
    rw [List.length_take] at this; omega
  rw [List.getElem?_take_of_lt hji] at hj
  exact hj
theorem sm_drop {V : List Sm} {w : World} {g n i : Nat} (h : KSm.C w (some ⟨g, 0, none⟩) n V) (hi : i ≤ n) (hn9 : n ≤ 1000) : KSm.C w (some ⟨g, i * 2, none⟩) (n - i) (V.drop i) := by
  obtain ⟨h1, h2, h3⟩ := h
  refine ⟨by rw [List.length_drop]; omega, by omega, fun h0 => ⟨_, rfl, fun j p hj => ?_⟩⟩
  obtain ⟨ad, e, hc⟩ := h3 (by omega)
  injection e with e
  subst e
  rw [List.getElem?_drop] at hj
  obtain ⟨cs, l, hk, hcell⟩ := hc (i + j) p hj
  refine ⟨cs, l, hk, fun k u hu => ?_⟩
  have := hcell k u hu
  have hs : KSm.sz = 2 := rfl
  rw [hs, add_plain] at this
  rw [hs]
  have e2 : ((⟨g, i * 2, none⟩ : Addr).add (j * 2 + k)) = ⟨g, (i + j) * 2 + k, none⟩ := by
    unfold Addr.add
    split
    · rename_i h0
      have : i * 2 = (i + j) * 2 + k := by simp at h0; omega
      rw [this]
    · simp; omega
  rw [e2]; exact this
theorem sm_end {V : List Sm} {w : World} {Ad : Option Addr} {i : Nat} (h : V.length = i + 1) : KSm.C w Ad 0 (V.drop (i + 1)) := by
  rw [List.drop_eq_nil_of_le (by omega)]
  exact ⟨rfl, by omega, fun h => absurd h (by omega)⟩
theorem sm_A {w : World} {base n c : Nat} {A : Option Addr} {V : List Sm} (h : SmR w base (.slice A n c) V) (h0 : 0 < V.length) : ∃ g : Nat, A = some ⟨g, 0, none⟩ := by
  obtain ⟨-, inner, ⟨h1, h2⟩, -⟩ := h
  rcases h2 with ⟨h2, h3⟩ | ⟨g, cap, cur, h2, -⟩
  · rw [h3] at h0; omega
  · injection h2 with h2
    exact ⟨g, h2⟩
def RGE (W : World) (G : Nat → Prop) (q : Nat) (st : TSet) (V : List Sm) (P : List Int) : Prop := ∃ A B c d, RG W G q st V P A B c d
section
variable {W W' : World} {G : Nat → Prop} {q : Nat} {st : TSet} {V : List Sm} {P : List Int} {A B : Option Addr} {c d : Nat}
theorem RG.ne (h : RG W G q st V P A B c d) : some q ≠ (Value.slice A V.length c).ownBlock ∧ some q ≠ (Value.slice B P.length d).ownBlock := by
  have hb := h.box
  constructor
  · intro e
    obtain ⟨⟨cells, hc⟩, -⟩ := h.l.typed q e.symm
    rw [hb] at hc
    injection hc with hc
    injection hc with _ hc
    exact absurd hc (by decide)
  · intro e
    obtain ⟨⟨cells, hc⟩, -⟩ := h.p.typed q e.symm
    rw [hb] at hc
    injection hc with hc
    injection hc with _ hc
    exact absurd hc (by decide)
theorem RG.up (h : RG W' G q st V P A B c d) (ht : Tn G W W') : RG W' (Nw W W' G) q st V P A B c d :=
  ⟨h.box, h.l, h.p, .inl h.gq, fun k hk => .inl (h.gl k hk), fun k hk => .inl (h.gp k hk), fun k hk => by
    rcases hk with hk | hk
    · exact h.lt k hk
    · exact hk.2⟩
theorem RG.newL (h : RG W G q st V P A B c d) (hb : Below W.heap.size W W') {A5 : Option Addr} {c5 n5 : Nat} {V5 : List Sm} (hn : V5.length = n5) (hr : SmR W' W.heap.size (.slice A5 n5 c5) V5) :
    RG (W'.setCell ⟨q, 10, none⟩ (.slice A5 n5 c5)) (Nw W (W'.setCell ⟨q, 10, none⟩ (.slice A5 n5 c5)) G) q st V5 P A5 B c5 d ∧ Tn G W (W'.setCell ⟨q, 10, none⟩ (.slice A5 n5 c5)) := by
  subst hn
  have h1 := h.below hb
  have hne : some q ≠ (Value.slice A5 V5.length c5).ownBlock := fun e => by
    obtain ⟨⟨cells, hc⟩, -⟩ := hr.typed q e.symm
    rw [h1.box] at hc
    injection hc with hc
    injection hc with _ hc
    exact absurd hc (by decide)
  have hsz : (W'.setCell ⟨q, 10, none⟩ (.slice A5 V5.length c5)).heap.size = W'.heap.size := by simp [World.setCell]
  have hm : SmR (W'.setCell ⟨q, 10, none⟩ (.slice A5 V5.length c5)) W.heap.size (.slice A5 V5.length c5) V5 := hr.move (fun k hk => Below.heap_setCell W' ⟨q, 10, none⟩ _ k (fun e => hne (by rw [hk]; exact congrArg some e.symm)))
  have hp : LnR (W'.setCell ⟨q, 10, none⟩ (.slice A5 V5.length c5)) 0 (.slice B P.length d) P := h1.p.move (fun k hk => Below.heap_setCell W' ⟨q, 10, none⟩ _ k (fun e => h1.ne.2 (by rw [hk]; exact congrArg some e.symm)))
  have hm0 : SmR (W'.setCell ⟨q, 10, none⟩ (.slice A5 V5.length c5)) 0 (.slice A5 V5.length c5) V5 := by
    obtain ⟨h0, inner, ho, hr⟩ := hm
    exact ⟨h0, inner, own_less ho (Nat.zero_le _), hr⟩
  refine ⟨⟨blk_set h1.box 10 _, hm0, hp, .inl h.gq, fun k hk => ?_, fun k hk => .inl (h.gp k hk), fun k hk => ?_⟩, ((Tn.refl G W).bel hb).put q 10 _ (.inl h.gq)⟩
  · have := hr.typed k hk
    exact .inr ⟨this.2.1, by rw [hsz]; exact this.2.2⟩
  · rw [hsz]
    rcases hk with hk | hk
    · exact h1.lt k hk
    · rw [hsz] at hk; exact hk.2
theorem RG.newP (h : RG W G q st V P A B c d) (hb : Below W.heap.size W W') {A5 : Option Addr} {c5 n5 : Nat} {V5 : List Int} (hn : V5.length = n5) (hr : LnR W' W.heap.size (.slice A5 n5 c5) V5) :
    RG (W'.setCell ⟨q, 11, none⟩ (.slice A5 n5 c5)) (Nw W (W'.setCell ⟨q, 11, none⟩ (.slice A5 n5 c5)) G) q st V V5 A A5 c c5 ∧ Tn G W (W'.setCell ⟨q, 11, none⟩ (.slice A5 n5 c5)) := by
  subst hn
  have h1 := h.below hb
  have hne : some q ≠ (Value.slice A5 V5.length c5).ownBlock := fun e => by
    obtain ⟨⟨cells, hc⟩, -⟩ := hr.typed q e.symm
    rw [h1.box] at hc
    injection hc with hc
    injection hc with _ hc
    exact absurd hc (by decide)
  have hsz : (W'.setCell ⟨q, 11, none⟩ (.slice A5 V5.length c5)).heap.size = W'.heap.size := by simp [World.setCell]
  have hm : LnR (W'.setCell ⟨q, 11, none⟩ (.slice A5 V5.length c5)) W.heap.size (.slice A5 V5.length c5) V5 := hr.move (fun k hk => Below.heap_setCell W' ⟨q, 11, none⟩ _ k (fun e => hne (by rw [hk]; exact congrArg some e.symm)))
  have hl : SmR (W'.setCell ⟨q, 11, none⟩ (.slice A5 V5.length c5)) 0 (.slice A V.length c) V := h1.l.move (fun k hk => Below.heap_setCell W' ⟨q, 11, none⟩ _ k (fun e => h1.ne.1 (by rw [hk]; exact congrArg some e.symm)))
  refine ⟨⟨blk_set h1.box 11 _, hl, hm.weak (Nat.zero_le _), .inl h.gq, fun k hk => .inl (h.gl k hk), fun k hk => ?_, fun k hk => ?_⟩, ((Tn.refl G W).bel hb).put q 11 _ (.inl h.gq)⟩
  · have := hr.typed k hk
    exact .inr ⟨this.2.1, by rw [hsz]; exact this.2.2⟩
  · rw [hsz]
    rcases hk with hk | hk
    · exact h1.lt k hk
    · rw [hsz] at hk; exact hk.2
/-- From a world on that lies behind. -/
theorem RGE.later {W0 : World} (h : RGE W' (Nw W W' G) q st V P) (ht : Tn G W W') (ht0 : Tn G W0 W) : RGE W' (Nw W0 W' G) q st V P ∧ Tn G W0 W' := by
  obtain ⟨A, B, c, d, h1, h2, h3, h4, h5, h6, h7⟩ := h
  have hs := ht0.size
  have hm : ∀ k, Nw W W' G k → Nw W0 W' G k := fun k hk => hk.imp id (fun h => ⟨Nat.le_trans hs h.1, h.2⟩)
  refine ⟨⟨A, B, c, d, h1, h2, h3, hm _ h4, fun k hk => hm _ (h5 k hk), fun k hk => hm _ (h6 k hk), fun k hk => ?_⟩, ht0.trans ht (fun k hk => .inl hk)⟩
  rcases hk with hk | hk
  · exact h7 k (.inl hk)
  · exact hk.2
set_option maxHeartbeats 2000000 in
theorem rgtake (h : RG W G q st V P A B c d) (hV : (V.length : Int) ≤ st.streams) (h8 : V.length ≤ 1000) (h9 : P.length ≤ 100000) (s u sd most : Int) (A9 : Option Addr) (cp : Nat) (xs : List Int) (hx : (Kd.int .i64).C W A9 xs.length xs) :
    Calls Try.prog 20 #[.pointer (some ⟨q, 0, none⟩), .int .u64 s, .int .u64 u, .agg #[.int .u64 sd, .slice A9 xs.length cp, .int .i64 most]] W fun e w' => e = .returned (.int .i64 (askV st V P s u xs.length (decide (Jok st.cfg xs most)) most)) ∧ RGE w' (Nw W w' G) q st (if askV st V P s u xs.length (decide (Jok st.cfg xs most)) most = 0 then V ++ [(s, u)] else V) P ∧ Tn G W w' := by
  have hb := below_alloc (Below.refl W.heap.size W) (.cells #[.int .u64 sd, .slice A9 xs.length cp, .int .i64 most] 44)
  have HA := Lib.hid (rgask (h.below hb) hV h8 h9 s u sd most A9 cp xs (Kd.C_below hx hb))
  have HB := Lib.hid hb
  have HT := Lib.hid h
  obtain ⟨R, hR⟩ : ∃ R, askV st V P s u xs.length (decide (Jok st.cfg xs most)) most = R := ⟨_, rfl⟩
  rw [hR] at HA ⊢
  obtain ⟨n, hn⟩ : ∃ n, xs.length = n := ⟨_, rfl⟩
  rw [hn] at HA HB ⊢
  have H8 := Lib.hid h8
  clear h hb hx hR hn hV h8
  go_enter Try.func20, Try.ntmps20
  go_wp2_with fail
  refine HA.out.mono ?_
  rintro e w1 ⟨rfl, hb⟩
  have HB1 := Lib.hid (below_then HB.out HB.out.size hb)
  have HT1 := Lib.hid (HT.out.below HB1.out)
  clear hb
  by_cases hr : R = 0
  · subst hr
    have k0 : w1.cell? ⟨q, 10, none⟩ = some (.slice A V.length c) := blk_cell HT1.out.box 10
    have HC := Lib.hid HT1.out.lc
    have H1000 := H8
    obtain ⟨m, hm⟩ : ∃ m, V.length = m := ⟨_, rfl⟩
    rw [hm] at k0 HC H8
    have HM := Lib.hid hm
    have HFU := Lib.hid (fun (w5 : World) (hb : Below w1.heap.size w1 w5) => And.intro (blk_cell (HT1.out.below hb).box 10) (blk_frozen (HT1.out.below hb).box 10))
    clear hm
    go_wp2_with (first
      | (at_builtin; refine Kd.R_append KSm (w0 := w1) (W := w4) w1.heap.size rfl _ _ 37 105 (.agg #[.int .u64 0, .int .u64 0]) 16 rfl Try.underlying37 infoSm (by rfl) (by decide) (by decide) (.slice A4 m c4) V (s, u) [.int .u64 s, .int .u64 u] (fun _ => True) (fun _ => False) (by rfl) (by rfl) (sm_M _ _ _ _) (fun _ h => h.elim) (fun _ _ => trivial) HR4.out HB4.out HB4.out.size (by have := H8.out; rw [HM.out]; omega) ?_; intro v5 w5 hr5 hb5 hg5 hat5; obtain ⟨A5, c5, e5⟩ := Kd.R_slice hr5; rw [List.length_append, List.length_singleton, HM.out] at e5; subst e5; have HFIN := Lib.hid (HT1.out.newL hb5 (by rw [List.length_append, List.length_singleton, HM.out]) hr5); have g5 := (HFU.out w5 hb5).1; have f5 := (HFU.out w5 hb5).2; clear hr5 hb5 hg5 hat5)
      | (at_builtin; refine Kd.R_append_rows KSm (Rr := KSm.K w1) (w0 := w1) (W := w1) w1.heap.size rfl _ _ 37 105 (.agg #[.int .u64 0, .int .u64 0]) 16 rfl Try.underlying37 infoSm (by rfl) (by decide) (by decide) (.slice none 0 0) [] V A m c (fun _ => True) (fun _ => False) (by rfl) (by rfl) (Kd.R_nil _ _ _ _ _) HC.out (fun x cs h => by rw [sm_K h]; exact sm_M _ _ _ _) (fun _ h => h.elim) (fun _ _ => trivial) (Below.refl _ _) (Nat.le_refl _) (by have := H8.out; simp; omega) ?_; intro v4 w4 hr4 hb4 hg4 hat4; obtain ⟨A4, c4, e4⟩ := Kd.R_slice hr4; rw [List.nil_append, HM.out] at e4; subst e4; have HR4 := Lib.hid (show KSm.R 105 w4 w1.heap.size (fun _ => True) (.slice A4 m c4) V from hr4); have HB4 := Lib.hid hb4; have p0 := (HFU.out w4 hb4).1; clear hr4 hb4 hg4 hat4))
    go_ret
    have hl := RGE.later (W0 := W) ⟨_, _, _, _, HFIN.out.1⟩ HFIN.out.2 ((Tn.refl G W).bel HB1.out)
    exact ⟨rfl, hl.1, hl.2⟩
  · have hd : (R == 0) = false := by simpa using hr
    have HN := Lib.hid ((Tn.refl G W).bel HB1.out)
    have HRN := Lib.hid hr
    clear hr
    go_wp2_with fail
    go_ret
    exact ⟨rfl, by first | exact ⟨_, _, _, _, HT1.out.up HN.out⟩ | (rw [if_neg HRN.out]; exact ⟨_, _, _, _, HT1.out.up HN.out⟩), HN.out⟩
theorem rg_tight {W0 W5 : World} {G : Nat → Prop} {q : Nat} {st : TSet} {V : List Sm} {P : List Int} {A B : Option Addr} {c d : Nat} {w7 : World} (h : RG W5 (Nw w7 W5 (Nw W0 w7 G)) q st V P A B c d) (hs : W0.heap.size ≤ w7.heap.size) (hs2 : w7.heap.size ≤ W5.heap.size) : RGE W5 (Nw W0 W5 G) q st V P := by
  have hm : ∀ k, Nw w7 W5 (Nw W0 w7 G) k → Nw W0 W5 G k := Nw.nw hs hs2
  exact ⟨A, B, c, d, h.box, h.l, h.p, hm _ h.gq, fun k hk => hm _ (h.gl k hk), fun k hk => hm _ (h.gp k hk), fun k hk => by
    rcases hk with hk | hk
    · exact h.lt k (.inl (.inl hk))
    · exact hk.2⟩
theorem rgover_none (h : RG W G q st V P A B c d) (h8 : V.length ≤ 1000) (s : Int) (hs : mlook V s = none) : Calls Try.prog 18 #[.pointer (some ⟨q, 0, none⟩), .int .u64 s] W fun e w' => e = .returned (.int .i64 6) ∧ W = w' := by
  have HPL := Lib.hid (rgplace h s h8)
  have HS := Lib.hid hs
  clear h hs
  go_enter Try.func18, Try.ntmps18
  go_wp2_with fail
  refine HPL.out.mono ?_
  rintro e w' ⟨hp, rfl⟩
  rcases hp with ⟨i, x, hx, rfl, rfl⟩ | ⟨hno, rfl⟩
  · exfalso
    have h := HS.out
    rw [mlook_none] at h
    exact h (List.mem_map.2 ⟨x, List.mem_of_getElem? hx, rfl⟩)
  · clear hno
    go_wp2_with fail
    go_ret
    exact ⟨rfl, rfl⟩
theorem sm_ix {V : List Sm} (hn : (mkeys V).Nodup) {i : Nat} {x : Sm} (hx : V[i]? = some x) : mdel V x.1 = V.eraseIdx i := by
  induction V generalizing i with
  | nil => simp at hx
  | cons y l ih =>
    obtain ⟨a, u⟩ := y
    have hn' : a ∉ mkeys l ∧ (mkeys l).Nodup := List.nodup_cons.1 hn
    cases i with
    | zero =>
      have hx : (a, u) = x := by simpa using hx
      subst hx
      unfold mdel; rw [if_pos rfl]; rfl
    | succ i =>
      have hx : l[i]? = some x := by simpa using hx
      have hne : a ≠ x.1 := fun e => hn'.1 (by rw [e]; exact List.mem_map.2 ⟨x, List.mem_of_getElem? hx, rfl⟩)
      unfold mdel; rw [if_neg hne, ih hn'.2 hx]; rfl
set_option maxHeartbeats 8000000 in
theorem rgover_ok (h : RG W G q st V P A B c d) (hn : (mkeys V).Nodup) (h8 : V.length ≤ 1000) (h9 : P.length < 4096) (s v : Int) (hs : mlook V s = some v) : Calls Try.prog 18 #[.pointer (some ⟨q, 0, none⟩), .int .u64 s] W fun e w' => e = .returned (.int .i64 0) ∧ RGE w' (Nw W w' G) q st (mdel V s) (P ++ [s]) ∧ Tn G W w' := by
  have HPL := Lib.hid (rgplace h s h8)
  have HS := Lib.hid hs
  have HX := Lib.hid h
  have HN := Lib.hid hn
  have HP9 := Lib.hid h9
  have H8 := Lib.hid h8
  clear h hs hn h8 h9
  go_enter Try.func18, Try.ntmps18
  go_wp2_with fail
  refine HPL.out.mono ?_
  rintro e w' ⟨hp, rfl⟩
  rcases hp with ⟨i, x, hx, hxn, rfl⟩ | ⟨hno, rfl⟩
  · have hi : i < V.length := (List.getElem?_eq_some_iff.1 hx).1
    have hdel := sm_ix HN.out hx
    rw [hxn] at hdel
    obtain ⟨g, rfl⟩ := sm_A HX.out.l (by omega)
    obtain ⟨m, hm⟩ : ∃ m, V.length = m := ⟨_, rfl⟩
    have HM := Lib.hid hm
    have HM9 := Lib.hid (show m ≤ 1000 by rw [← hm]; exact H8.out)
    have hmc : m ≤ c := by rw [← hm]; exact HX.out.lcap
    rw [hm] at hi
    have HEQ := Lib.hid (show V.take i ++ V.drop (i + 1) = mdel V s from by rw [hdel, List.eraseIdx_eq_take_drop_succ])
    have hi9 : i ≤ 1000 := by have := HM9.out; omega
    have hwi : IntKind.i64.wrap ((i : Int) + 1) = (i : Int) + 1 := by unfold IntKind.wrap; simp [IntKind.bits, IntKind.signed]; omega
    have hwt : ((i : Int) + 1).toNat = i + 1 := by omega
    have hw0 : (0 : Int) ≤ (i : Int) + 1 := by omega
    have hdl : (mdel V s).length = m - 1 := by rw [hdel, List.length_eraseIdx, hm, if_pos hi]
    have HDL := Lib.hid hdl
    have HBD := Lib.hid (below_drew (Below.refl W.heap.size W))
    have HC4 := Lib.hid (show KSm.C W.drew (some ⟨g, 0, none⟩) m V from by have h := (HX.out.below HBD.out).lc; rw [HM.out] at h; exact h)
    have HFU := Lib.hid (fun (w5 : World) (hb : Below W.heap.size W w5) => show (w5.cell? ⟨q, 10, none⟩ = some (.slice (some ⟨g, 0, none⟩) m c) ∧ w5.frozen? ⟨q, 10, none⟩ = false) ∧ KSm.C w5 (some ⟨g, 0, none⟩) m V from by
      have h := HX.out.below hb
      have h2 := h.lc
      have h3 := blk_cell h.box 10
      have h4 := blk_frozen h.box 10
      have h3 : w5.cell? ⟨q, 10, none⟩ = some (.slice (some ⟨g, 0, none⟩) V.length c) := h3
      rw [HM.out] at h2 h3
      exact ⟨⟨h3, h4⟩, h2⟩)
    clear hx hxn hdel hm hdl
    by_cases hce : c = i + 1
    · obtain rfl : m = i + 1 := by omega
      subst hce
      have k0 : W.cell? ⟨q, 10, none⟩ = some (.slice (some ⟨g, 0, none⟩) (i + 1) (i + 1)) := (HFU.out W (Below.refl _ _)).1.1
      have k9 : W.drew.cell? ⟨q, 10, none⟩ = some (.slice (some ⟨g, 0, none⟩) (i + 1) (i + 1)) := (HFU.out _ HBD.out).1.1
      have hic : i ≤ i + 1 := by omega
      have hic3 : (i : Int) ≤ (i : Int) + 1 := by omega
      go_upto_region 4 with fail
      clear k0
      go_region_law (first
        | (refine Kd.R_append_rows_step KSm (Rr := KSm.K w5) (w0 := W) (W := w5) W.heap.size rfl _ _ 37 105 (.agg #[.int .u64 0, .int .u64 0]) 16 rfl Try.underlying37 infoSm (by rfl) (by decide) (by decide) (.slice A5 i c5) (V.take i) (V.drop (i + 1)) (some ⟨g, 0, none⟩) 0 0 (fun _ => True) (fun _ => False) (by rfl) (by rfl) HR5.out (sm_end HM.out) (fun x cs h => by rw [sm_K h]; exact sm_M _ _ _ _) (fun _ h => h.elim) (fun _ _ => trivial) HB5.out HB5.out.size (by rw [List.length_take]; have := HM9.out; omega) ?_; intro v6 w6 hr6 hb6 hg6 hat6; rw [HEQ.out] at hr6; obtain ⟨A6, c6, e6⟩ := Kd.R_slice hr6; subst e6; have HFIN := Lib.hid (HX.out.newL hb6 rfl hr6); have g5 := (HFU.out w6 hb6).1.1; have f5 := (HFU.out w6 hb6).1.2; clear hr6 hb6 hg6 hat6)
        | (refine Kd.R_append_rows_step KSm (Rr := KSm.K W.drew) (w0 := W) (W := W.drew) W.heap.size rfl _ _ 37 105 (.agg #[.int .u64 0, .int .u64 0]) 16 rfl Try.underlying37 infoSm (by rfl) (by decide) (by decide) (.slice none 0 0) [] (V.take i) (some ⟨g, 0, none⟩) i (i + 1) (fun _ => True) (fun _ => False) (by rfl) (by rfl) (Kd.R_nil _ _ _ _ _) (sm_take HC4.out (by omega)) (fun x cs h => by rw [sm_K h]; exact sm_M _ _ _ _) (fun _ h => h.elim) (fun _ _ => trivial) HBD.out HBD.out.size (by have := HM9.out; simp; omega) ?_; intro v5 w5 hr5 hb5 hg5 hat5; obtain ⟨A5, c5, e5⟩ := Kd.R_slice hr5; rw [List.nil_append, List.length_take, HM.out, show min i (i + 1) = i by omega] at e5; subst e5; have HR5 := Lib.hid (show KSm.R 105 w5 W.heap.size (fun _ => True) (.slice A5 i c5) (V.take i) from hr5); have HB5 := Lib.hid hb5; have HC5 := Lib.hid (HFU.out w5 hb5).2; have p2 := (HFU.out w5 hb5).1.1; clear hr5 hb5 hg5 hat5))
      all_goals
        clear g5 f5
        obtain ⟨w7, hw7⟩ : ∃ w7, (w6.setCell ⟨q, 10, none⟩ (.slice A6 (mdel V s).length c6)) = w7 := ⟨_, rfl⟩
        rw [hw7] at HFIN ⊢
        clear hw7
        have HX7 := Lib.hid HFIN.out.1
        have k7 : w7.cell? ⟨q, 11, none⟩ = some (.slice B P.length d) := blk_cell HX7.out.box 11
        obtain ⟨pl, hpl⟩ : ∃ pl, P.length = pl := ⟨_, rfl⟩
        have HPL2 := Lib.hid hpl
        have HP99 := Lib.hid (show pl < 4096 by rw [← hpl]; exact HP9.out)
        have HC7 := Lib.hid (show (Kd.int .u64).C w7 B pl P from by rw [← hpl]; exact HX7.out.pc)
        rw [hpl] at k7
        have HFU7 := Lib.hid (fun (w5 : World) (hb : Below w7.heap.size w7 w5) => And.intro (blk_cell (HX7.out.below hb).box 11) (blk_frozen (HX7.out.below hb).box 11))
        have hp9 := HP99.out
        clear hpl
        go_wp2_with (first
          | (at_builtin; refine Kd.R_append (Kd.int .u64) (w0 := w7) (W := w8) w7.heap.size rfl _ _ 38 22 (.int .u64 0) 8 rfl Try.underlying38 infoU64 (by rfl) (by decide) (by decide) (.slice A8 pl c8) P s [.int .u64 s] (fun _ => True) (fun _ => False) (by rfl) (by rfl) rfl (fun _ h => h.elim) (fun _ _ => trivial) HR8.out HB8.out HB8.out.size (by have := HP99.out; rw [HPL2.out]; omega) ?_; intro v9 w9 hr9 hb9 hg9 hat9; obtain ⟨A9, c9, e9⟩ := Kd.R_slice hr9; rw [List.length_append, List.length_singleton, HPL2.out] at e9; subst e9; have HFN9 := Lib.hid (HX7.out.newP hb9 (by rw [List.length_append, List.length_singleton, HPL2.out]) hr9); have g9 := (HFU7.out w9 hb9).1; have f9 := (HFU7.out w9 hb9).2; have HB9 := Lib.hid hb9; clear hr9 hb9 hg9 hat9)
          | (at_builtin; refine Kd.R_append_rows (Kd.int .u64) (Rr := (Kd.int .u64).K w7) (w0 := w7) (W := w7) w7.heap.size rfl _ _ 38 22 (.int .u64 0) 8 rfl Try.underlying38 infoU64 (by rfl) (by decide) (by decide) (.slice none 0 0) [] P B pl d (fun _ => True) (fun _ => False) (by rfl) (by rfl) (Kd.R_nil _ _ _ _ _) HC7.out (fun x cs h => h) (fun _ h => h.elim) (fun _ _ => trivial) (Below.refl _ _) (Nat.le_refl _) (by have := HP99.out; simp; omega) ?_; intro v8 w8 hr8 hb8 hg8 hat8; obtain ⟨A8, c8, e8⟩ := Kd.R_slice hr8; rw [List.nil_append, HPL2.out] at e8; subst e8; have HR8 := Lib.hid (show LnR w8 w7.heap.size (.slice A8 pl c8) P from hr8); have HB8 := Lib.hid hb8; have p8 := (HFU7.out w8 hb8).1; clear hr8 hb8 hg8 hat8))
        go_ret
        exact ⟨rfl, rg_tight HFN9.out.1 HFIN.out.2.size (by simp [World.setCell]; exact HB9.out.size), HFIN.out.2.nw HFN9.out.2⟩
    · have k0 : W.cell? ⟨q, 10, none⟩ = some (.slice (some ⟨g, 0, none⟩) m c) := (HFU.out W (Below.refl _ _)).1.1
      have k9 : W.drew.cell? ⟨q, 10, none⟩ = some (.slice (some ⟨g, 0, none⟩) m c) := (HFU.out _ HBD.out).1.1
      have hic : i ≤ c := by omega
      have hic2 : (i : Int) + 1 ≤ (m : Int) := by omega
      go_upto_region 4 with fail
      clear k0
      go_region_law (first
        | (refine Kd.R_append_rows_step KSm (Rr := KSm.K w5) (w0 := W) (W := w5) W.heap.size rfl _ _ 37 105 (.agg #[.int .u64 0, .int .u64 0]) 16 rfl Try.underlying37 infoSm (by rfl) (by decide) (by decide) (.slice A5 i c5) (V.take i) (V.drop (i + 1)) (some ⟨g, (i + 1) * 2, none⟩) (m - (i + 1)) (c - (i + 1)) (fun _ => True) (fun _ => False) (by rfl) (by rfl) HR5.out (sm_drop HC5.out (by omega) HM9.out) (fun x cs h => by rw [sm_K h]; exact sm_M _ _ _ _) (fun _ h => h.elim) (fun _ _ => trivial) HB5.out HB5.out.size (by rw [List.length_take]; have := HM9.out; omega) ?_; intro v6 w6 hr6 hb6 hg6 hat6; rw [HEQ.out] at hr6; obtain ⟨A6, c6, e6⟩ := Kd.R_slice hr6; subst e6; have HFIN := Lib.hid (HX.out.newL hb6 rfl hr6); have g5 := (HFU.out w6 hb6).1.1; have f5 := (HFU.out w6 hb6).1.2; clear hr6 hb6 hg6 hat6)
        | (refine Kd.R_append_rows_step KSm (Rr := KSm.K W.drew) (w0 := W) (W := W.drew) W.heap.size rfl _ _ 37 105 (.agg #[.int .u64 0, .int .u64 0]) 16 rfl Try.underlying37 infoSm (by rfl) (by decide) (by decide) (.slice none 0 0) [] (V.take i) (some ⟨g, 0, none⟩) i c (fun _ => True) (fun _ => False) (by rfl) (by rfl) (Kd.R_nil _ _ _ _ _) (sm_take HC4.out (by omega)) (fun x cs h => by rw [sm_K h]; exact sm_M _ _ _ _) (fun _ h => h.elim) (fun _ _ => trivial) HBD.out HBD.out.size (by have := HM9.out; simp; omega) ?_; intro v5 w5 hr5 hb5 hg5 hat5; obtain ⟨A5, c5, e5⟩ := Kd.R_slice hr5; rw [List.nil_append, List.length_take, HM.out, show min i m = i by omega] at e5; subst e5; have HR5 := Lib.hid (show KSm.R 105 w5 W.heap.size (fun _ => True) (.slice A5 i c5) (V.take i) from hr5); have HB5 := Lib.hid hb5; have HC5 := Lib.hid (HFU.out w5 hb5).2; have p2 := (HFU.out w5 hb5).1.1; clear hr5 hb5 hg5 hat5))
      all_goals
        clear g5 f5
        obtain ⟨w7, hw7⟩ : ∃ w7, (w6.setCell ⟨q, 10, none⟩ (.slice A6 (mdel V s).length c6)) = w7 := ⟨_, rfl⟩
        rw [hw7] at HFIN ⊢
        clear hw7
        have HX7 := Lib.hid HFIN.out.1
        have k7 : w7.cell? ⟨q, 11, none⟩ = some (.slice B P.length d) := blk_cell HX7.out.box 11
        obtain ⟨pl, hpl⟩ : ∃ pl, P.length = pl := ⟨_, rfl⟩
        have HPL2 := Lib.hid hpl
        have HP99 := Lib.hid (show pl < 4096 by rw [← hpl]; exact HP9.out)
        have HC7 := Lib.hid (show (Kd.int .u64).C w7 B pl P from by rw [← hpl]; exact HX7.out.pc)
        rw [hpl] at k7
        have HFU7 := Lib.hid (fun (w5 : World) (hb : Below w7.heap.size w7 w5) => And.intro (blk_cell (HX7.out.below hb).box 11) (blk_frozen (HX7.out.below hb).box 11))
        have hp9 := HP99.out
        clear hpl
        go_wp2_with (first
          | (at_builtin; refine Kd.R_append (Kd.int .u64) (w0 := w7) (W := w8) w7.heap.size rfl _ _ 38 22 (.int .u64 0) 8 rfl Try.underlying38 infoU64 (by rfl) (by decide) (by decide) (.slice A8 pl c8) P s [.int .u64 s] (fun _ => True) (fun _ => False) (by rfl) (by rfl) rfl (fun _ h => h.elim) (fun _ _ => trivial) HR8.out HB8.out HB8.out.size (by have := HP99.out; rw [HPL2.out]; omega) ?_; intro v9 w9 hr9 hb9 hg9 hat9; obtain ⟨A9, c9, e9⟩ := Kd.R_slice hr9; rw [List.length_append, List.length_singleton, HPL2.out] at e9; subst e9; have HFN9 := Lib.hid (HX7.out.newP hb9 (by rw [List.length_append, List.length_singleton, HPL2.out]) hr9); have g9 := (HFU7.out w9 hb9).1; have f9 := (HFU7.out w9 hb9).2; have HB9 := Lib.hid hb9; clear hr9 hb9 hg9 hat9)
          | (at_builtin; refine Kd.R_append_rows (Kd.int .u64) (Rr := (Kd.int .u64).K w7) (w0 := w7) (W := w7) w7.heap.size rfl _ _ 38 22 (.int .u64 0) 8 rfl Try.underlying38 infoU64 (by rfl) (by decide) (by decide) (.slice none 0 0) [] P B pl d (fun _ => True) (fun _ => False) (by rfl) (by rfl) (Kd.R_nil _ _ _ _ _) HC7.out (fun x cs h => h) (fun _ h => h.elim) (fun _ _ => trivial) (Below.refl _ _) (Nat.le_refl _) (by have := HP99.out; simp; omega) ?_; intro v8 w8 hr8 hb8 hg8 hat8; obtain ⟨A8, c8, e8⟩ := Kd.R_slice hr8; rw [List.nil_append, HPL2.out] at e8; subst e8; have HR8 := Lib.hid (show LnR w8 w7.heap.size (.slice A8 pl c8) P from hr8); have HB8 := Lib.hid hb8; have p8 := (HFU7.out w8 hb8).1; clear hr8 hb8 hg8 hat8))
        go_ret
        exact ⟨rfl, rg_tight HFN9.out.1 HFIN.out.2.size (by simp [World.setCell]; exact HB9.out.size), HFIN.out.2.nw HFN9.out.2⟩
  · exfalso
    have h := HS.out
    rw [mlook_none.2 (fun hk => by
      obtain ⟨x, hx, he⟩ := List.mem_map.1 hk
      exact hno x hx he)] at h
    cases h
end
end Go.Proofs.Ytmbhicjjbgbneaa
