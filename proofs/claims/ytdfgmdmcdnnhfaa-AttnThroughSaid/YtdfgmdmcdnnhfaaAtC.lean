/- Tables compared; a column of a memory. -/
import Derived.Test.YtdfgmdmcdnnhfaaAtE
namespace Go.Proofs.Ytdfgmdmcdnnhfaa
open Go.RowKit Go.Shelf Go.Proofs.YtdfgmdmcdnnhfaaW.PrintWords Go.Proofs.YtdfgmdmcdnnhfaaW.PrintLast Go.Proofs.YtdfgmdmcdnnhfaaW.PrintMore
set_option linter.unusedVariables false
set_option linter.unusedSimpArgs false
set_option maxRecDepth 100000

theorem drawn_trans {w0 w1 w2 : World} (h1 : Drawn0 w0 w1) (h2 : Drawn0 w1 w2) : Drawn0 w0 w2 := by
  obtain ⟨⟨r, rfl⟩⟩ := h2
  exact Drawn0.step h1 r

set_option maxHeartbeats 1000000 in
theorem equalf_any (A B : Option Addr) (c d : Nat) (xss yss : List (List Int)) (W : World) (hx : Rows_ W A xss) (hy : Rows_ W B yss) (hc : xss.length ≤ c) (hd : yss.length ≤ d) (hn : xss.length ≤ 1000000) (hm : yss.length ≤ 1000000) (hsx : Short xss) (hsy : Short yss) :
    Calls Try.prog 120 #[.slice A xss.length c, .slice B yss.length d, .func (.func 121) #[] #[]] W fun e w' => e = .returned (.bool (decide (xss = yss))) ∧ Drawn0 W w' := by
  by_cases hl : xss.length = yss.length
  · obtain ⟨n, hnn⟩ : ∃ n, xss.length = n := ⟨_, rfl⟩
    obtain ⟨r, hr⟩ : ∃ r, decide (xss = yss) = r := ⟨_, rfl⟩
    have HX := Lib.hid hx
    have HY := Lib.hid hy
    have HSX := Lib.hid hsx
    have HSY := Lib.hid hsy
    have HNX := Lib.hid hnn
    have HNY := Lib.hid (show yss.length = n by omega)
    have HR := Lib.hid hr
    rw [hr, ← hl, hnn]
    rw [← hl, hnn] at hd
    rw [hnn] at hc hn
    clear hx hy hl hnn hm hr hsx hsy
    go_enter Try.func120, Try.ntmps120
    go_wp2_with fail
    go_loopw [17] (fun s wr => ∃ i : Nat, s = .int .i64 i ∧ i ≤ n ∧ Hid (xss.take i = yss.take i) ∧ Drawn0 W wr) (fun s _ => n - (intOf s).toNat)
    case atStart => exact ⟨0, rfl, by omega, Lib.hid (by simp), Drawn0.refl _⟩
    case round =>
      obtain ⟨i, rfl, hi, hT, hdr⟩ := hrel
      have HDR := Lib.hid hdr
      by_cases him : i < n
      · obtain ⟨b1, A1, c1, e1, q1, hc1, hC1⟩ := (HX.out.below hdr.below).at_ i (by rw [HNX.out]; exact him)
        obtain ⟨b2, A2, c2, e2, q2, hc2, hC2⟩ := (HY.out.below hdr.below).at_ i (by rw [HNY.out]; exact him)
        subst e1 e2
        have hl1 := HSX.out i
        have hl2 := HSY.out i
        obtain ⟨x, hxx⟩ : ∃ x, xss.getD i [] = x := ⟨_, rfl⟩
        obtain ⟨y, hyy⟩ : ∃ y, yss.getD i [] = y := ⟨_, rfl⟩
        rw [hxx] at q1 hc1 hC1 hl1
        rw [hyy] at q2 hc2 hC2 hl2
        have HCL := Lib.hid (equal_any A1 A2 c1 c2 x y wr hC1 hC2 hc1 hc2 (by omega) (by omega))
        have HXX := Lib.hid hxx
        have HYY := Lib.hid hyy
        clear hxx hyy hdr hC1 hC2 hc1 hc2 hl1 hl2
        by_cases hxy : x = y
        · have hde : decide (x = y) = true := decide_eq_true hxy
          rw [hde] at HCL
          have HT2 := Lib.hid (take_row_eq xss yss i (by rw [HNX.out]; exact him) (by rw [HNY.out]; exact him) hT.out (by rw [HXX.out, HYY.out]; exact hxy))
          clear hxy hde
          go_wp2_with fail
          refine HCL.out.mono ?_
          rintro e w2 ⟨rfl, hd2⟩
          have HD2 := Lib.hid (drawn_trans HDR.out hd2)
          clear hd2
          go_wp2_with fail
          go_roundw
          case rel => exact ⟨i + 1, by go_num, by omega, HT2, HD2.out⟩
          case measure => simp [intOf]; omega
        · have hde : decide (x = y) = false := decide_eq_false hxy
          rw [hde] at HCL
          have HF := Lib.hid (show r = false by
            rw [← HR.out]; refine decide_eq_false ?_; intro h; subst h; exact hxy (by rw [← HXX.out, ← HYY.out]))
          clear hxy hde
          go_wp2_with fail
          refine HCL.out.mono ?_
          rintro e w2 ⟨rfl, hd2⟩
          have HD2 := Lib.hid (drawn_trans HDR.out hd2)
          clear hd2
          go_wp2_with fail
          go_ret
          exact ⟨by rw [HF.out]; rfl, HD2.out⟩
      · have HF := Lib.hid (show r = true by
          rw [← HR.out]; refine decide_eq_true ?_
          have h := hT.out
          rwa [List.take_of_length_le (by rw [HNX.out]; omega), List.take_of_length_le (by rw [HNY.out]; omega)] at h)
        clear hdr
        go_wp2_with fail
        go_ret
        exact ⟨by rw [HF.out]; rfl, HDR.out⟩
  · have hf : decide (xss = yss) = false := decide_eq_false (fun h => hl (by rw [h]))
    rw [hf]
    obtain ⟨n, hnn⟩ : ∃ n, xss.length = n := ⟨_, rfl⟩
    obtain ⟨m, hmm⟩ : ∃ m, yss.length = m := ⟨_, rfl⟩
    rw [hnn] at hl hc hn ⊢
    rw [hmm] at hl hd hm ⊢
    have z : ((n : Int) != (m : Int)) = true := by simp; omega
    clear hx hy hnn hmm hf
    go_enter Try.func120, Try.ntmps120
    go_wp2_with fail
    go_ret
    exact ⟨rfl, Drawn0.refl _⟩

theorem alike_any (A B : Option Addr) (c d : Nat) (xss yss : List (List Int)) (W : World) (hx : Rows_ W A xss) (hy : Rows_ W B yss) (hc : xss.length ≤ c) (hd : yss.length ≤ d) (hn : xss.length ≤ 1000000) (hm : yss.length ≤ 1000000) (hsx : Short xss) (hsy : Short yss) :
    Calls Try.prog 79 #[.slice A xss.length c, .slice B yss.length d] W fun e w' => e = .returned (.bool (decide (xss = yss))) ∧ Drawn0 W w' := by
  have HC := Lib.hid (equalf_any A B c d xss yss W hx hy hc hd hn hm hsx hsy)
  obtain ⟨r, hr⟩ : ∃ r, decide (xss = yss) = r := ⟨_, rfl⟩
  rw [hr] at HC ⊢
  clear hx hy hc hd hn hm hsx hsy hr
  go_enter Try.func79, Try.ntmps79
  go_wp2_with fail
  refine HC.out.mono ?_
  rintro e w2 ⟨rfl, hd2⟩
  have HD2 := Lib.hid hd2
  clear hd2
  go_wp2_with fail
  go_ret
  exact ⟨rfl, HD2.out⟩

/-- The keys and values of a layer, in every place. -/
def colK (P : List Pl) (l : Nat) : List (List Int) := P.map (fun p : Pl => p.1.getD l [])
def colV (P : List Pl) (l : Nat) : List (List Int) := P.map (fun p : Pl => p.2.getD l [])
def PlOk (L : Nat) (P : List Pl) : Prop := ∀ p, p ∈ P → p.1.length = L ∧ p.2.length = L ∧ Short p.1 ∧ Short p.2
def ColR (ks vs : List (List Int)) (w : World) (e : Ending) (w' : World) : Prop := ∃ A1 c1 A2 c2, e = .returned (.tuple #[.slice A1 ks.length c1, .slice A2 vs.length c2]) ∧ ks.length ≤ c1 ∧ vs.length ≤ c2 ∧ Rows_ w' A1 ks ∧ Rows_ w' A2 vs ∧ Below w.heap.size w w'
theorem pl_getD (P : List Pl) (k : Nat) (h : k < P.length) : P.getD k ([], []) = P[k] := by
  rw [List.getD_eq_getElem?_getD, List.getElem?_eq_getElem h]; rfl
theorem colK_take (P : List Pl) (l k : Nat) (h : k < P.length) : colK (P.take (k + 1)) l = colK (P.take k) l ++ [(P.getD k ([], [])).1.getD l []] := by
  unfold colK
  rw [List.take_succ_eq_append_getElem h, List.map_append, pl_getD P k h]; rfl
theorem colV_take (P : List Pl) (l k : Nat) (h : k < P.length) : colV (P.take (k + 1)) l = colV (P.take k) l ++ [(P.getD k ([], [])).2.getD l []] := by
  unfold colV
  rw [List.take_succ_eq_append_getElem h, List.map_append, pl_getD P k h]; rfl
theorem colK_len (P : List Pl) (l : Nat) : (colK P l).length = P.length := by simp [colK]
theorem colV_len (P : List Pl) (l : Nat) : (colV P l).length = P.length := by simp [colV]

theorem col_len {L : Nat} {P : List Pl} (h : PlOk L P) (k : Nat) (hk : k < P.length) : (P.getD k ([], [])).1.length = L ∧ (P.getD k ([], [])).2.length = L ∧ Short (P.getD k ([], [])).1 ∧ Short (P.getD k ([], [])).2 := by
  rw [pl_getD P k hk]
  exact h _ (List.getElem_mem hk)

theorem box_grown {wc w w1 : World} {row : Option Nat} {g n : Nat} {ps : List (List Int)} (h : ReadsRow ((KFix wc).K wc) 1 w (some ⟨g, 0, none⟩) n ps) (hg : w.grownBy w1 row) (hne : some g ≠ row) (hlt : g < w.heap.size) : ReadsRow ((KFix wc).K wc) 1 w1 (some ⟨g, 0, none⟩) n ps := by
  refine ⟨h.1, h.2.1, fun hp => ?_⟩
  obtain ⟨ad, e, hc⟩ := h.2.2 hp
  injection e with e
  subst e
  refine ⟨_, rfl, fun j p hj => ?_⟩
  obtain ⟨c, h1, h2, h3⟩ := hc j p hj
  refine ⟨c, h1, h2, fun i u hu => ?_⟩
  have h4 := h3 i u hu
  rw [add_plain] at h4 ⊢
  simp only [World.cell?, hg.block g hlt hne] at h4 ⊢
  exact h4
/-- Two rows of shared rows, each one's own. -/
structure TR (wc : World) (base : Nat) (w : World) (u v : Value) (ks vs : List (List Int)) : Prop where
  hu : (KFix wc).R 25 w base (fun _ => True) u ks
  hv : (KFix wc).R 25 w base (fun _ => True) v vs
  hd : ∀ k, u.ownBlock = some k → v.ownBlock = some k → False
theorem fix_only {wc w : World} {base : Nat} {ok : Nat → Prop} {v : Value} {xs : List (List Int)} (h : (KFix wc).R 25 w base ok v xs) : (KFix wc).R 25 w base (fun k => v.ownBlock = some k) v xs := ⟨fun _ hk => hk, h.2⟩
theorem fix_lt {wc w : World} {base : Nat} {ok : Nat → Prop} {v : Value} {xs : List (List Int)} (h : (KFix wc).R 25 w base ok v xs) (k : Nat) (hk : v.ownBlock = some k) : k < w.heap.size := by
  obtain ⟨-, inner, ho, -⟩ := h
  exact own_lt ho k hk
theorem TR.below {wc w w1 : World} {base : Nat} {u v : Value} {ks vs : List (List Int)} (h : TR wc base w u v ks vs) (hb : Below w.heap.size w w1) : TR wc base w1 u v ks vs := ⟨Kd.R_below h.hu hb, Kd.R_below h.hv hb, h.hd⟩
theorem TR.put_u {wc w w1 : World} {base : Nat} {u v u1 : Value} {ks vs ks1 : List (List Int)} (h : TR wc base w u v ks vs) (h1 : (KFix wc).R 25 w1 base (fun _ => True) u1 ks1) (hg : w.grownBy w1 u.ownBlock) (hat : u1.ownBlock = u.ownBlock ∨ ∃ b, u1.ownBlock = some b ∧ w.heap.size ≤ b) : TR wc base w1 u1 v ks1 vs := by
  refine ⟨h1, Kd.R_mono (Kd.R_grown (fix_only h.hv) hg (fun k hk he => h.hd k he.symm hk)) (fun _ _ => trivial), fun k hk hv => ?_⟩
  rcases hat with hat | ⟨b, hb, hle⟩
  · exact h.hd k (hat ▸ hk) hv
  · rw [hb] at hk
    injection hk with hk
    have := fix_lt h.hv k hv
    omega
theorem TR.put_v {wc w w1 : World} {base : Nat} {u v v1 : Value} {ks vs vs1 : List (List Int)} (h : TR wc base w u v ks vs) (h1 : (KFix wc).R 25 w1 base (fun _ => True) v1 vs1) (hg : w.grownBy w1 v.ownBlock) (hat : v1.ownBlock = v.ownBlock ∨ ∃ b, v1.ownBlock = some b ∧ w.heap.size ≤ b) : TR wc base w1 u v1 ks vs1 := by
  refine ⟨Kd.R_mono (Kd.R_grown (fix_only h.hu) hg (fun k hk he => h.hd k hk he.symm)) (fun _ _ => trivial), h1, fun k hk hv => ?_⟩
  rcases hat with hat | ⟨b, hb, hle⟩
  · exact h.hd k hk (hat ▸ hv)
  · rw [hb] at hv
    injection hv with hv
    have := fix_lt h.hu k hk
    omega
def CS (W : World) (g : Nat) (a1 a2 : Addr) (x1 x2 y1 y2 : Value) (w : World) : Prop := w.cell? ⟨g, 0, none⟩ = some x1 ∧ w.cell? ⟨g, 1, none⟩ = some x2 ∧ w.cell? a1 = some y1 ∧ w.cell? a2 = some y2 ∧ Hid (Below W.heap.size W w ∧ W.cell? a1 = some y1 ∧ W.cell? a2 = some y2 ∧ g < w.heap.size)
theorem CS.step {W : World} {g : Nat} {a1 a2 : Addr} {x1 x2 y1 y2 : Value} {w w1 : World} (h : CS W g a1 a2 x1 x2 y1 y2 w) (hb : Below w.heap.size w w1) : CS W g a1 a2 x1 x2 y1 y2 w1 := by
  obtain ⟨h0, h1, h2, h3, h4⟩ := h
  exact ⟨pw_cell_below hb h0, pw_cell_below hb h1, pw_cell_below hb h2, pw_cell_below hb h3, Lib.hid ⟨below_then h4.out.1 h4.out.1.size hb, h4.out.2.1, h4.out.2.2.1, Nat.lt_of_lt_of_le h4.out.2.2.2 hb.size⟩⟩
theorem CS.grown {W : World} {g : Nat} {a1 a2 : Addr} {x1 x2 y1 y2 : Value} {w w1 : World} {row : Option Nat} (h : CS W g a1 a2 x1 x2 y1 y2 w) (hB : Below W.heap.size W w1) (hg : w.grownBy w1 row) (hne : some g ≠ row) : CS W g a1 a2 x1 x2 y1 y2 w1 := by
  obtain ⟨h0, h1, h2, h3, h4⟩ := h
  refine ⟨?_, ?_, pw_cell_below hB h4.out.2.1, pw_cell_below hB h4.out.2.2.1, Lib.hid ⟨hB, h4.out.2.1, h4.out.2.2.1, Nat.lt_of_lt_of_le h4.out.2.2.2 hg.size⟩⟩
  · simp only [World.cell?, hg.block g h4.out.2.2.2 hne] at h0 ⊢; exact h0
  · simp only [World.cell?, hg.block g h4.out.2.2.2 hne] at h1 ⊢; exact h1
theorem CS.b {W : World} {g : Nat} {a1 a2 : Addr} {x1 x2 y1 y2 : Value} {w : World} (h : CS W g a1 a2 x1 x2 y1 y2 w) : Below W.heap.size W w := h.2.2.2.2.out.1

set_option maxHeartbeats 1000000 in
theorem column_any (W : World) (p : Nat) (L : Nat) (P : List Pl) (l : Nat) (h : MemP W p L P) (hok : PlOk L P) (hl : l < L) (hL : L ≤ 100) (hP : P.length ≤ 100000) :
    Calls Try.prog 78 #[.pointer (some ⟨p, 0, none⟩), .int .i64 l] W (ColR (colK P l) (colV P l) W) := by
  obtain ⟨A, cap, h0, h1, hC, hc⟩ := h.at_
  have HP := Lib.hid hC
  have HOK := Lib.hid hok
  obtain ⟨n, hn⟩ : ∃ n, P.length = n := ⟨_, rfl⟩
  have HN := Lib.hid hn
  rw [hn] at h1 hc hP
  unfold ColR
  clear h h0 hC hn hok
  go_enter Try.func78, Try.ntmps78
  go_wp2_with fail
  go_loopw [6, 7, 15] (fun u v s wr => ∃ (i : Nat) (u' v' : Value), u' = u ∧ v' = v ∧ s = .int .i64 i ∧ i ≤ n ∧ TR W W.heap.size wr u v (colK (P.take i) l) (colV (P.take i) l) ∧ Below W.heap.size W wr) (fun _ _ s _ => n - (intOf s).toNat)
  case atStart => exact ⟨0, _, _, rfl, rfl, rfl, by omega, ⟨Kd.R_nil _ _ _ _ _, Kd.R_nil _ _ _ _ _, fun k hk => by simp [Value.ownBlock] at hk⟩, Below.refl _ _⟩
  case round =>
    obtain ⟨i, u, v, rfl, rfl, rfl, hi, hT, hb⟩ := hrel
    by_cases him : i < n
    · obtain ⟨b, A1, A2, c1, c2, eA, q1, q2, hc1, hc2, hC1, hC2⟩ := pl_at HP.out i (by rw [HN.out]; exact him)
      subst eA
      obtain ⟨hl1, hl2, -, -⟩ := col_len HOK.out i (by rw [HN.out]; exact him)
      have HK := Lib.hid (colK_take P l i (by rw [HN.out]; exact him))
      have HV := Lib.hid (colV_take P l i (by rw [HN.out]; exact him))
      have HCIK := Lib.hid (show (colK (P.take i) l).length = i by rw [colK_len, List.length_take, HN.out]; omega)
      have HCIV := Lib.hid (show (colV (P.take i) l).length = i by rw [colV_len, List.length_take, HN.out]; omega)
      obtain ⟨K1, hK1⟩ : ∃ K, (P.getD i ([], [])).1 = K := ⟨_, rfl⟩
      obtain ⟨K2, hK2⟩ : ∃ K, (P.getD i ([], [])).2 = K := ⟨_, rfl⟩
      rw [hK1] at q1 hc1 hl1 hC1 HK
      rw [hK2] at q2 hc2 hl2 hC2 HV
      obtain ⟨d1, B1, e1, ed1, p1, he1, hD1⟩ := hC1.at_ l (by rw [hl1]; exact hl)
      obtain ⟨d2, B2, e2, ed2, p2, he2, hD2⟩ := hC2.at_ l (by rw [hl2]; exact hl)
      subst ed1 ed2
      rw [hl1] at q1 hc1
      rw [hl2] at q2 hc2
      obtain ⟨kk, hkk⟩ : ∃ k, K1.getD l [] = k := ⟨_, rfl⟩
      obtain ⟨vv, hvv⟩ : ∃ k, K2.getD l [] = k := ⟨_, rfl⟩
      rw [hkk] at HK p1 he1 hD1
      rw [hvv] at HV p2 he2 hD2
      have HE1 : Hid ((Kd.slice 2 (Kd.int .i64)).K W kk [.slice B1 kk.length e1]) := Lib.hid ⟨B1, e1, rfl, he1, hD1⟩
      have HE2 : Hid ((Kd.slice 2 (Kd.int .i64)).K W vv [.slice B2 vv.length e2]) := Lib.hid ⟨B2, e2, rfl, he2, hD2⟩
      have HTR := Lib.hid hT
      have HB := Lib.hid hb
      have q1' := pw_cell_below hb q1
      have q2' := pw_cell_below hb q2
      have HQ1 := Lib.hid p1
      have HQ2 := Lib.hid p2
      clear hK1 hK2 hC1 hC2 hT hb hkk hvv he1 he2 hD1 hD2 q1 q2 p1 p2
      go_wp2_with fail
      have HGU : Hid (some wr.heap.size ≠ u.ownBlock) := Lib.hid (fun he => absurd (fix_lt HTR.out.hu _ he.symm) (Nat.lt_irrefl _))
      have HGV : Hid (some wr.heap.size ≠ v.ownBlock) := Lib.hid (fun he => absurd (fix_lt HTR.out.hv _ he.symm) (Nat.lt_irrefl _))
      obtain ⟨w4, hw4⟩ : ∃ w, wr.alloc (.cells #[.slice (some d1) L c1, .slice (some d2) L c2] 110) = w := ⟨_, rfl⟩
      have hB4 : Below wr.heap.size wr w4 := by rw [← hw4]; exact below_alloc (Below.refl _ _) _
      have hh := heap_alloc_new wr (.cells #[.slice (some d1) L c1, .slice (some d2) L c2] 110)
      rw [hw4] at hh ⊢
      obtain ⟨g, hg⟩ : ∃ g, wr.heap.size = g := ⟨_, rfl⟩
      have hgl : g < w4.heap.size := by rw [← hg, ← hw4]; simp
      rw [hg] at hh HGU HGV ⊢
      have hB4' : Below wr.heap.size wr w4.drew := below_drew hB4
      have HTR := Lib.hid (HTR.out.below hB4')
      have HQ := Lib.hid (below_then HB.out HB.out.size hB4')
      have hS : CS W g (d1.add l) (d2.add l) (.slice (some d1) L c1) (.slice (some d2) L c2) (.slice B1 kk.length e1) (.slice B2 vv.length e2) w4.drew := by
        have hd := below_drew (Below.refl w4.heap.size w4)
        exact ⟨pw_cell_below hd (by rw [blk_cell hh]; rfl), pw_cell_below hd (by rw [blk_cell hh]; rfl), pw_cell_below HQ.out HQ1.out, pw_cell_below HQ.out HQ2.out, Lib.hid ⟨HQ.out, HQ1.out, HQ2.out, hgl⟩⟩
      have HCLN := Lib.hid (And.intro hw4 hg)
      clear hB4 hB4' hh hgl hw4 hg q1' q2'
      have bA := below_alloc (Below.refl w4.drew.heap.size w4.drew) (.cells #[.slice B1 kk.length e1] 25)
      have bAB := below_alloc (Below.refl (w4.drew.alloc (.cells #[.slice B1 kk.length e1] 25)).heap.size (w4.drew.alloc (.cells #[.slice B1 kk.length e1] 25))) (.cells #[.slice B2 vv.length e2] 25)
      have bB := below_alloc (Below.refl w4.drew.heap.size w4.drew) (.cells #[.slice B2 vv.length e2] 25)
      have bBA := below_alloc (Below.refl (w4.drew.alloc (.cells #[.slice B2 vv.length e2] 25)).heap.size (w4.drew.alloc (.cells #[.slice B2 vv.length e2] 25))) (.cells #[.slice B1 kk.length e1] 25)
      have sA : (w4.drew.alloc (.cells #[.slice B1 kk.length e1] 25)).heap.size = w4.heap.size + 1 := by simp
      have sB : (w4.drew.alloc (.cells #[.slice B2 vv.length e2] 25)).heap.size = w4.heap.size + 1 := by simp
      have HTA := Lib.hid (HTR.out.below bA)
      have HTAB := Lib.hid ((HTR.out.below bA).below bAB)
      have HTBA := Lib.hid ((HTR.out.below bB).below bBA)
      have HQA := Lib.hid (below_then HQ.out HQ.out.size bA)
      have HQAB := Lib.hid (below_then HQA.out HQA.out.size bAB)
      have HQBA := Lib.hid (below_then (below_then HQ.out HQ.out.size bB) (below_then HQ.out HQ.out.size bB).size bBA)
      have HXA := Lib.hid (show ReadsRow ((KFix W).K W) 1 (w4.drew.alloc (.cells #[.slice B1 kk.length e1] 25)) (some ⟨w4.heap.size, 0, none⟩) 1 [kk] from boxed_row (w := w4.drew) HE1.out _)
      have HXAB := Lib.hid (ReadsRow.imp_ HXA.out bAB (fun _ _ h => h))
      have HXBA := Lib.hid (show ReadsRow ((KFix W).K W) 1 ((w4.drew.alloc (.cells #[.slice B2 vv.length e2] 25)).alloc (.cells #[.slice B1 kk.length e1] 25)) (some ⟨w4.heap.size + 1, 0, none⟩) 1 [kk] by
        have h := boxed_row (w := w4.drew.alloc (.cells #[.slice B2 vv.length e2] 25)) HE1.out 25
        rw [sB] at h; exact h)
      have HYAB := Lib.hid (show ReadsRow ((KFix W).K W) 1 ((w4.drew.alloc (.cells #[.slice B1 kk.length e1] 25)).alloc (.cells #[.slice B2 vv.length e2] 25)) (some ⟨w4.heap.size + 1, 0, none⟩) 1 [vv] by
        have h := boxed_row (w := w4.drew.alloc (.cells #[.slice B1 kk.length e1] 25)) HE2.out 25
        rw [sA] at h; exact h)
      have HYB := show ReadsRow ((KFix W).K W) 1 (w4.drew.alloc (.cells #[.slice B2 vv.length e2] 25)) (some ⟨w4.heap.size, 0, none⟩) 1 [vv] from boxed_row (w := w4.drew) HE2.out _
      have HYBA := Lib.hid (ReadsRow.imp_ HYB bBA (fun _ _ h => h))
      have HNU : Hid (∀ k, w4.heap.size ≤ k → some k ≠ u.ownBlock) := Lib.hid (fun k hk he => by have := fix_lt HTR.out.hu k he.symm; simp at this; omega)
      have HSZ := Lib.hid (And.intro (show w4.heap.size < (w4.drew.alloc (.cells #[.slice B1 kk.length e1] 25) |>.alloc (.cells #[.slice B2 vv.length e2] 25)).heap.size by simp; omega) (show w4.heap.size + 1 < (w4.drew.alloc (.cells #[.slice B1 kk.length e1] 25) |>.alloc (.cells #[.slice B2 vv.length e2] 25)).heap.size by simp))
      have HSZ2 := Lib.hid (And.intro (show w4.heap.size < (w4.drew.alloc (.cells #[.slice B2 vv.length e2] 25) |>.alloc (.cells #[.slice B1 kk.length e1] 25)).heap.size by simp; omega) (show w4.heap.size + 1 < (w4.drew.alloc (.cells #[.slice B2 vv.length e2] 25) |>.alloc (.cells #[.slice B1 kk.length e1] 25)).heap.size by simp))
      clear bA bAB bB bBA sA sB HYB
      go_region_held3 (fun w' => w'.cell? ⟨g, 0, none⟩ = some (.slice (some d1) L c1) ∧ w'.cell? ⟨g, 1, none⟩ = some (.slice (some d2) L c2) ∧ w'.cell? (d1.add l) = some (.slice B1 kk.length e1) ∧ w'.cell? (d2.add l) = some (.slice B2 vv.length e2) ∧ Hid (Below W.heap.size W w' ∧ W.cell? (d1.add l) = some (.slice B1 kk.length e1) ∧ W.cell? (d2.add l) = some (.slice B2 vv.length e2) ∧ g < w'.heap.size))
        (first | exact hS | exact CS.step (by assumption) (below_alloc (Below.refl _ _) _) | exact CS.grown (by assumption) hb5 hg5 HGU.out | exact CS.grown (by assumption) hb6 hg6 HGV.out)
        (first
          | (refine Kd.R_append_rows_step (KFix W) (Rr := (KFix W).K W) (w0 := W) (W := w5) W.heap.size rfl _ _ 39 25 (.slice none 0 0) 24 rfl Try.underlying39 infoRow rfl Nat.zero_lt_one (by decide) v (colV (P.take i) l) [vv] _ 1 1 (fun _ => True) (fun _ => False) (by rfl) (by rfl) HTR5.out.hv HX2.out (fun _ _ h => h) (fun _ h => h.elim) (fun _ _ => trivial) HQ5.out (HQ5.out).size (by rw [HCIV.out]; omega) ?_; intro v6 w6 hr6 hb6 hg6 hat6; have HTR6 := Lib.hid (TR.put_v HTR5.out hr6 hg6 hat6))
          | (refine Kd.R_append_rows_step (KFix W) (Rr := (KFix W).K W) (w0 := W) (W := w5.alloc (.cells #[.slice B2 vv.length e2] 25)) W.heap.size rfl _ _ 39 25 (.slice none 0 0) 24 rfl Try.underlying39 infoRow rfl Nat.zero_lt_one (by decide) v (colV (P.take i) l) [vv] _ 1 1 (fun _ => True) (fun _ => False) (by rfl) (by rfl) (HTR5.out.below (below_alloc (Below.refl _ _) _)).hv (boxed_row HE2.out _) (fun _ _ h => h) (fun _ h => h.elim) (fun _ _ => trivial) (below_alloc HQ5.out _) ((below_alloc HQ5.out _)).size (by rw [HCIV.out]; omega) ?_; intro v6 w6 hr6 hb6 hg6 hat6; have HTR6 := Lib.hid (TR.put_v (HTR5.out.below (below_alloc (Below.refl _ _) _)) hr6 hg6 hat6))
          | (refine Kd.R_append_rows_step (KFix W) (Rr := (KFix W).K W) (w0 := W) (W := (w4.drew.alloc (.cells #[.slice B1 kk.length e1] 25)).alloc (.cells #[.slice B2 vv.length e2] 25)) W.heap.size rfl _ _ 39 25 (.slice none 0 0) 24 rfl Try.underlying39 infoRow rfl Nat.zero_lt_one (by decide) u (colK (P.take i) l) [kk] _ 1 1 (fun _ => True) (fun _ => False) (by rfl) (by rfl) HTAB.out.hu HXAB.out (fun _ _ h => h) (fun _ h => h.elim) (fun _ _ => trivial) HQAB.out (HQAB.out).size (by rw [HCIK.out]; omega) ?_; intro v5 w5 hr5 hb5 hg5 hat5; have HTR5 := Lib.hid (TR.put_u HTAB.out hr5 hg5 hat5); have HQ5 := Lib.hid hb5; have HX2 := Lib.hid (box_grown HYAB.out hg5 (HNU.out _ (by omega)) HSZ.out.2))
          | (refine Kd.R_append_rows_step (KFix W) (Rr := (KFix W).K W) (w0 := W) (W := (w4.drew.alloc (.cells #[.slice B2 vv.length e2] 25)).alloc (.cells #[.slice B1 kk.length e1] 25)) W.heap.size rfl _ _ 39 25 (.slice none 0 0) 24 rfl Try.underlying39 infoRow rfl Nat.zero_lt_one (by decide) u (colK (P.take i) l) [kk] _ 1 1 (fun _ => True) (fun _ => False) (by rfl) (by rfl) HTBA.out.hu HXBA.out (fun _ _ h => h) (fun _ h => h.elim) (fun _ _ => trivial) HQBA.out (HQBA.out).size (by rw [HCIK.out]; omega) ?_; intro v5 w5 hr5 hb5 hg5 hat5; have HTR5 := Lib.hid (TR.put_u HTBA.out hr5 hg5 hat5); have HQ5 := Lib.hid hb5; have HX2 := Lib.hid (box_grown HYBA.out hg5 (HNU.out _ (by omega)) HSZ2.out.1))
          | (refine Kd.R_append_rows_step (KFix W) (Rr := (KFix W).K W) (w0 := W) (W := w4.drew.alloc (.cells #[.slice B1 kk.length e1] 25)) W.heap.size rfl _ _ 39 25 (.slice none 0 0) 24 rfl Try.underlying39 infoRow rfl Nat.zero_lt_one (by decide) u (colK (P.take i) l) [kk] _ 1 1 (fun _ => True) (fun _ => False) (by rfl) (by rfl) HTA.out.hu HXA.out (fun _ _ h => h) (fun _ h => h.elim) (fun _ _ => trivial) HQA.out (HQA.out).size (by rw [HCIK.out]; omega) ?_; intro v5 w5 hr5 hb5 hg5 hat5; have HTR5 := Lib.hid (TR.put_u HTA.out hr5 hg5 hat5); have HQ5 := Lib.hid hb5))
      all_goals
        have HB6 := Lib.hid hb6
        clear hr5 hb5 hg5 hat5 hr6 hb6 hg6 hat6
        go_wp2_with fail
        go_roundw
        case rel => exact ⟨i + 1, _, _, rfl, rfl, by go_num, by omega, by rw [HK.out, HV.out]; exact HTR6.out, HB6.out⟩
        case measure => simp [intOf]; omega
    · have hin : i = n := by omega
      subst hin
      have hpt : P.take i = P := List.take_of_length_le (by rw [HN.out]; omega)
      rw [hpt] at hT
      have hk1 := hT.hu
      have hv1 := hT.hv
      obtain ⟨AK, cK, ek, hck, hCK⟩ := Kd.R_reads hk1
      obtain ⟨AV, cV, ev, hcv, hCV⟩ := Kd.R_reads hv1
      subst ek ev
      have HRK := Lib.hid (fix_rows hCK hb)
      have HRV := Lib.hid (fix_rows hCV hb)
      have HB := Lib.hid hb
      clear hT hk1 hv1 hCK hCV hb hpt
      go_wp2_with fail
      go_ret2
      exact ⟨_, _, _, _, rfl, hck, hcv, HRK.out, HRV.out, HB.out⟩

end Go.Proofs.Ytdfgmdmcdnnhfaa
