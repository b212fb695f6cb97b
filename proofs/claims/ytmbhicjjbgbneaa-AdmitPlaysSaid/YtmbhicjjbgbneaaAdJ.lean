/- The document's table, as it lies: place, Knows, Of. -/
import Derived.Test.YtmbhicjjbgbneaaAdI
namespace Go.Proofs.Ytmbhicjjbgbneaa
open Go.RowKit Go.Shelf Go.Proofs.YtmbhicjjbgbneaaW.PrintWords Go.Proofs.YtmbhicjjbgbneaaW.PrintLast Go.Proofs.YtmbhicjjbgbneaaW.PrintMore
set_option linter.unusedVariables false
set_option linter.unusedSimpArgs false
set_option maxRecDepth 100000
abbrev Sm := Int × Int
abbrev KSm : Kd Sm := Kd.pair (Kd.int .u64) (Kd.int .u64)
def smL (x : Sm) : List Value := [.int .u64 x.1, .int .u64 x.2]
theorem sm_K {w : World} {x : Sm} {cs : List Value} (h : KSm.K w x cs) : cs = smL x := by
  obtain ⟨c0, r0, e0, h0, h1⟩ := h
  have h0' : c0 = [.int .u64 x.1] := h0
  have h1' : r0 = [.int .u64 x.2] := h1
  subst h0' h1'
  exact e0
theorem sm_M (w : World) (b : Nat) (ok : Nat → Prop) (x : Sm) : KSm.M w b ok x (smL x) := ⟨[.int .u64 x.1], [.int .u64 x.2], rfl, rfl, rfl⟩
def TSet.rbox (s : TSet) (x y : Value) : Array Value := #[.int .u64 s.seed, .int .i64 s.vocab, .int .i64 s.dim, .int .i64 s.layers, .int .i64 s.top, .int .i64 s.heat, .int .i64 s.streams, .int .i64 s.each, .int .i64 s.prompt, .int .i64 s.most, x, y]
/-- A row of streams of one's own. -/
def SmR (w : World) (base : Nat) (lv : Value) (V : List Sm) : Prop := KSm.R 105 w base (fun _ => True) lv V
theorem SmR.move {w w1 : World} {base : Nat} {lv : Value} {V : List Sm} (h : SmR w base lv V) (hk : ∀ k, lv.ownBlock = some k → w1.heap[k]? = w.heap[k]?) : SmR w1 base lv V := by
  obtain ⟨h0, inner, hown, hr⟩ := h
  exact ⟨h0, inner, own_move hown hk, hr⟩
theorem LnR.move {w w1 : World} {base : Nat} {lv : Value} {V : List Int} (h : LnR w base lv V) (hk : ∀ k, lv.ownBlock = some k → w1.heap[k]? = w.heap[k]?) : LnR w1 base lv V := by
  obtain ⟨h0, inner, hown, hr⟩ := h
  exact ⟨h0, inner, own_move hown hk, hr⟩
theorem SmR.typed {w : World} {base : Nat} {lv : Value} {V : List Sm} (h : SmR w base lv V) (k : Nat) (hk : lv.ownBlock = some k) : (∃ cells, w.heap[k]? = some (.cells cells 105 (0, 0))) ∧ base ≤ k ∧ k < w.heap.size := by
  obtain ⟨h0, inner, hown, hr⟩ := h
  obtain ⟨cells, hc⟩ := own_typed hown k hk
  rcases own_base' hown with hb | ⟨k2, hb, hle⟩
  · rw [hb] at hk; cases hk
  · rw [hb] at hk; injection hk with hk; subst hk
    exact ⟨⟨cells, hc⟩, hle, blk_lt hc⟩
/-- The document's table at q; its blocks within G. -/
structure RG (W : World) (G : Nat → Prop) (q : Nat) (st : TSet) (V : List Sm) (P : List Int) (A B : Option Addr) (c d : Nat) : Prop where
  box : W.heap[q]? = some (.cells (st.rbox (.slice A V.length c) (.slice B P.length d)) 40 (0, 0))
  l : SmR W 0 (.slice A V.length c) V
  p : LnR W 0 (.slice B P.length d) P
  gq : G q
  gl : ∀ k, (Value.slice A V.length c).ownBlock = some k → G k
  gp : ∀ k, (Value.slice B P.length d).ownBlock = some k → G k
  lt : ∀ k, G k → k < W.heap.size
section
variable {W W' : World} {G : Nat → Prop} {q : Nat} {st : TSet} {V : List Sm} {P : List Int} {A B : Option Addr} {c d : Nat}
theorem RG.keep (h : RG W G q st V P A B c d) {F : Nat → Prop} (ht : Tn F W W') (hd : ∀ k, G k → ¬ F k) : RG W' G q st V P A B c d :=
  ⟨(ht.block q (h.lt q h.gq) (hd q h.gq)).trans h.box, h.l.move (fun k hk => ht.block k (h.lt k (h.gl k hk)) (hd k (h.gl k hk))), h.p.move (fun k hk => ht.block k (h.lt k (h.gp k hk)) (hd k (h.gp k hk))), h.gq, h.gl, h.gp, fun k hk => Nat.lt_of_lt_of_le (h.lt k hk) ht.size⟩
theorem RG.below (h : RG W G q st V P A B c d) (hb : Below W.heap.size W W') : RG W' G q st V P A B c d := h.keep (F := fun _ => False) (Tn.of hb) (fun _ _ h => h)
theorem RG.lc (h : RG W G q st V P A B c d) : KSm.C W A V.length V := by
  obtain ⟨A', c', e, -, hC⟩ := Kd.R_reads h.l
  injection e with e1 e2 e3
  rw [e1]; exact hC
theorem RG.pc (h : RG W G q st V P A B c d) : (Kd.int .u64).C W B P.length P := by
  obtain ⟨A', c', e, -, hC⟩ := Kd.R_reads h.p
  injection e with e1 e2 e3
  rw [e1]; exact hC
theorem RG.lcap (h : RG W G q st V P A B c d) : V.length ≤ c := by
  obtain ⟨A', c', e, h9, -⟩ := Kd.R_reads h.l
  injection e with e1 e2 e3
  rw [e3]; exact h9
theorem sm_at {w : World} {Ad : Option Addr} {n : Nat} {L : List Sm} (h : KSm.C w Ad n L) (i : Nat) (x : Sm) (hx : L[i]? = some x) (hi : i < n) :
    ∃ ad, Ad = some ad ∧ w.cell? (ad.add (i * 2)) = some (.int .u64 x.1) ∧ w.cell? ⟨(ad.add (i * 2)).block, (ad.add (i * 2)).off + 1, none⟩ = some (.int .u64 x.2) := by
  obtain ⟨ad, c, e, hl, hK, hcell⟩ := Kd.C_get h (0, 0) (i : Int) (by omega) (by omega)
  have hi' : (i : Int).toNat = i := by omega
  rw [hi'] at hK hcell
  rw [List.getD_eq_getElem?_getD, hx] at hK
  have hcs := sm_K hK
  subst hcs
  have hs : KSm.sz = 2 := rfl
  rw [hs] at hcell
  refine ⟨ad, e, hcell 0 _ rfl, ?_⟩
  rw [← aadd_on ad _ 1 (by omega)]; exact hcell 1 _ rfl
def PlcA (V : List Sm) (n : Int) (e : Ending) : Prop := (∃ i x, V[i]? = some x ∧ x.1 = n ∧ e = .returned (.int .i64 (i : Nat))) ∨ ((∀ x ∈ V, x.1 ≠ n) ∧ e = .returned (.int .i64 (-1)))
theorem rgplace (h : RG W G q st V P A B c d) (n : Int) (h8 : V.length ≤ 1000) : Calls Try.prog 55 #[.pointer (some ⟨q, 0, none⟩), .int .u64 n] W fun e w' => PlcA V n e ∧ W = w' := by
  have k2 : W.cell? ⟨q, 10, none⟩ = some (.slice A V.length c) := blk_cell h.box 10
  have HEL := Lib.hid (fun i x hx hi => sm_at h.lc i x hx hi)
  obtain ⟨m, hm⟩ : ∃ m, V.length = m := ⟨_, rfl⟩
  rw [hm] at k2
  have HM := Lib.hid hm
  rw [hm] at h8 HEL
  unfold PlcA
  clear h hm
  go_enter Try.func55, Try.ntmps55
  go_wp2_with fail
  go_loopw [5] (fun iv wr => ∃ i : Nat, iv = .int .i64 i ∧ i ≤ m ∧ wr = W ∧ Hid (∀ j x, j < i → V[j]? = some x → x.1 ≠ n)) (fun iv _ => m - (intOf iv).toNat)
  case atStart => exact ⟨0, rfl, by omega, rfl, Lib.hid (fun j x hj => by omega)⟩
  case round =>
    obtain ⟨i, rfl, hi, rfl, HN⟩ := hrel
    by_cases him : i < m
    · obtain ⟨x, hx⟩ : ∃ x, V[i]? = some x := ⟨_, List.getElem?_eq_getElem (by rw [HM.out]; exact him)⟩
      obtain ⟨ad, rfl, c0, c1⟩ := HEL.out i x hx him
      obtain ⟨id, r⟩ := x
      dsimp only at c0 c1
      have HX := Lib.hid hx
      clear hx
      by_cases hid : id = n
      · subst hid
        go_wp2_with fail
        go_ret
        exact ⟨.inl ⟨i, _, HX.out, rfl, rfl⟩, rfl⟩
      · have hd : (id == n) = false := by simpa using hid
        have HD := Lib.hid hid
        clear hid
        go_wp2_with fail
        go_roundw
        case rel => exact ⟨i + 1, by go_num, by omega, trivial, Lib.hid (fun j x hj hx => by
          rcases Nat.lt_or_ge j i with h | h
          · exact HN.out j x h hx
          · have : j = i := by omega
            subst this
            have h9 := HX.out
            rw [hx] at h9
            injection h9 with h9
            rw [h9]; exact HD.out)⟩
        case measure => simp [intOf]; omega
    · have hin : i = m := by omega
      subst hin
      have HALL := Lib.hid (show ∀ x ∈ V, x.1 ≠ n from fun x hx => by
        obtain ⟨j, hj, rfl⟩ := List.getElem_of_mem hx
        exact HN.out j _ (by rw [← HM.out]; exact hj) (List.getElem?_eq_getElem hj))
      go_wp2_with fail
      go_ret
      exact ⟨.inr ⟨HALL.out, rfl⟩, rfl⟩
theorem plc_look {V : List Sm} {n : Int} {e : Ending} (h : PlcA V n e) : ∃ z : Int, e = .returned (.int .i64 z) ∧ decide (0 ≤ z) = (mlook V n).isSome := by
  rcases h with ⟨i, x, hx, rfl, rfl⟩ | ⟨hno, rfl⟩
  · refine ⟨i, rfl, ?_⟩
    have hm : x.1 ∈ mkeys V := List.mem_map.2 ⟨x, List.mem_of_getElem? hx, rfl⟩
    have : (mlook V x.1).isSome = true := by
      rw [Option.isSome_iff_ne_none]
      intro h
      exact mlook_none.1 h hm
    rw [this]
    exact decide_eq_true (by omega)
  · refine ⟨-1, rfl, ?_⟩
    rw [mlook_none.2 (fun hk => by
      obtain ⟨x, hx, he⟩ := List.mem_map.1 hk
      exact hno x hx he)]
    rfl
theorem rgknows (h : RG W G q st V P A B c d) (n : Int) (h8 : V.length ≤ 1000) (h9 : P.length ≤ 100000) : Calls Try.prog 25 #[.pointer (some ⟨q, 0, none⟩), .int .u64 n] W fun e w' => e = .returned (.bool ((mlook V n).isSome || decide (n ∈ P))) ∧ W = w' := by
  have k2 : W.cell? ⟨q, 11, none⟩ = some (.slice B P.length d) := blk_cell h.box 11
  have HEL := Lib.hid (fun i hi => at_nat h.pc i hi)
  obtain ⟨m, hm⟩ : ∃ m, P.length = m := ⟨_, rfl⟩
  rw [hm] at k2
  have HM := Lib.hid hm
  have HPL := Lib.hid (rgplace h n h8)
  rw [hm] at h9
  obtain ⟨R, hR⟩ : ∃ R, ((mlook V n).isSome || decide (n ∈ P)) = R := ⟨_, rfl⟩
  have HRR := Lib.hid hR
  rw [hR]
  clear h hm hR h8
  go_enter Try.func25, Try.ntmps25
  go_wp2_with fail
  go_loopw [5] (fun iv wr => ∃ i : Nat, iv = .int .i64 i ∧ i ≤ m ∧ wr = W ∧ Hid (∀ j, j < i → P.getD j 0 ≠ n)) (fun iv _ => m - (intOf iv).toNat)
  case atStart => exact ⟨0, rfl, by omega, rfl, Lib.hid (fun j hj => by omega)⟩
  case round =>
    obtain ⟨i, rfl, hi, rfl, HN⟩ := hrel
    by_cases him : i < m
    · obtain ⟨ad, e1, c0⟩ := HEL.out i (by rw [HM.out]; exact him)
      subst e1
      obtain ⟨x, hx⟩ : ∃ x, P.getD i 0 = x := ⟨_, rfl⟩
      rw [hx] at c0
      have HX := Lib.hid hx
      clear hx
      by_cases hid : x = n
      · subst hid
        have HT := Lib.hid (show R = true by
          rw [← HRR.out]
          have : x ∈ P := by
            rw [← HX.out, List.getD_eq_getElem?_getD, List.getElem?_eq_getElem (by rw [HM.out]; exact him)]
            exact List.getElem_mem _
          simp [this])
        go_wp2_with fail
        go_ret
        exact ⟨by first | (rw [HT.out]; done) | (rw [HT.out]; rfl), rfl⟩
      · have hd : (x == n) = false := by simpa using hid
        have HD := Lib.hid hid
        clear hid
        go_wp2_with fail
        go_roundw
        case rel => exact ⟨i + 1, by go_num, by omega, trivial, Lib.hid (fun j hj => by
          rcases Nat.lt_or_ge j i with h | h
          · exact HN.out j h
          · have : j = i := by omega
            subst this
            rw [HX.out]; exact HD.out)⟩
        case measure => simp [intOf]; omega
    · have hin : i = m := by omega
      subst hin
      have HALL := Lib.hid (show R = (mlook V n).isSome by
        rw [← HRR.out]
        have : n ∉ P := fun hx => by
          obtain ⟨j, hj, he⟩ := List.getElem_of_mem hx
          refine HN.out j (by rw [← HM.out]; exact hj) ?_
          rw [List.getD_eq_getElem?_getD, List.getElem?_eq_getElem hj]
          exact he
        simp [this])
      go_wp2_with fail
      refine HPL.out.mono ?_
      rintro e w' ⟨hp, rfl⟩
      obtain ⟨z, rfl, hz⟩ := plc_look hp
      have HZ := Lib.hid hz
      clear hz hp
      go_wp2_with fail
      go_ret
      exact ⟨by rw [HALL.out, ← HZ.out]; first | rfl | (congr 2), rfl⟩
theorem cnt_snoc (L : List Sm) (i : Nat) (x : Sm) (hx : L[i]? = some x) (u : Int) : cntS (encA (L.take (i + 1))) u = cntS (encA (L.take i)) u + (if x.2 = u then 1 else 0) := by
  have hi : i < L.length := (List.getElem?_eq_some_iff.1 hx).1
  have hxe : L[i] = x := by rw [List.getElem?_eq_getElem hi] at hx; injection hx
  rw [List.take_succ_eq_append_getElem hi, hxe]
  obtain ⟨a, b⟩ := x
  exact cnt_app _ _ _ _
theorem rgof (h : RG W G q st V P A B c d) (u : Int) (h8 : V.length ≤ 1000) : Calls Try.prog 23 #[.pointer (some ⟨q, 0, none⟩), .int .u64 u] W fun e w' => e = .returned (.int .i64 (cntS (encA V) u)) ∧ W = w' := by
  have k2 : W.cell? ⟨q, 10, none⟩ = some (.slice A V.length c) := blk_cell h.box 10
  have HEL := Lib.hid (fun i x hx hi => sm_at h.lc i x hx hi)
  obtain ⟨m, hm⟩ : ∃ m, V.length = m := ⟨_, rfl⟩
  rw [hm] at k2
  have HM := Lib.hid hm
  rw [hm] at h8 HEL
  clear h hm
  go_enter Try.func23, Try.ntmps23
  go_wp2_with fail
  go_loopw [5, 6] (fun nv iv wr => ∃ i n : Nat, iv = .int .i64 i ∧ nv = .int .i64 n ∧ i ≤ m ∧ n ≤ i ∧ wr = W ∧ Hid (cntS (encA (V.take i)) u = n)) (fun _ iv _ => m - (intOf iv).toNat)
  case atStart => exact ⟨0, 0, rfl, rfl, by omega, by omega, rfl, Lib.hid rfl⟩
  case round =>
    obtain ⟨i, n, rfl, rfl, hi, hni, rfl, HN⟩ := hrel
    by_cases him : i < m
    · obtain ⟨x, hx⟩ : ∃ x, V[i]? = some x := ⟨_, List.getElem?_eq_getElem (by rw [HM.out]; exact him)⟩
      obtain ⟨ad, rfl, c0, c1⟩ := HEL.out i x hx him
      have hcs := cnt_snoc V i x hx u
      obtain ⟨id, r⟩ := x
      dsimp only at c0 c1 hcs
      have HX := Lib.hid hcs
      clear hx hcs
      by_cases hid : r = u
      · subst hid
        have HC := Lib.hid (show cntS (encA (V.take (i + 1))) r = n + 1 by rw [HX.out, HN.out, if_pos rfl])
        go_wp2_with fail
        go_roundw
        case rel => exact ⟨i + 1, n + 1, by go_num, by go_num, by omega, by omega, trivial, HC⟩
        case measure => simp [intOf]; omega
      · have hd : (r == u) = false := by simpa using hid
        have HC := Lib.hid (show cntS (encA (V.take (i + 1))) u = n by rw [HX.out, HN.out, if_neg hid, Nat.add_zero])
        clear hid
        go_wp2_with fail
        go_roundw
        case rel => exact ⟨i + 1, n, by go_num, rfl, by omega, by omega, trivial, HC⟩
        case measure => simp [intOf]; omega
    · have hin : i = m := by omega
      have HC := Lib.hid (show cntS (encA V) u = n by rw [← HN.out, List.take_of_length_le (by rw [HM.out, hin]; exact Nat.le_refl _)])
      subst hin
      go_wp2_with fail
      go_ret
      exact ⟨by first | (rw [HC.out]; done) | (rw [HC.out]; rfl), rfl⟩
end
end Go.Proofs.Ytmbhicjjbgbneaa
