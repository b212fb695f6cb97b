/- The memory of attn: places that are shared; Rows and tables compared; Tables compared; a column of a memory; Memories compared; Rows of one's own rows, two of them. -/
import Derived.Test.YtdfgmdmcdnnhfaaGreatAtQ
import Derived.Test.YtdfgmdmcdnnhfaaGreatOpE
import Derived.Test.YtdfgmdmcdnnhfaaGreatSaN
import Derived.Deep.RegionLawGrows
namespace Go.Proofs.YtdfgmdmcdnnhfaaGreat
open Go.RowKit Go.Shelf Go.Proofs.YtdfgmdmcdnnhfaaGreatW.PrintWords Go.Proofs.YtdfgmdmcdnnhfaaGreatW.PrintLast Go.Proofs.YtdfgmdmcdnnhfaaGreatW.PrintMore
set_option linter.unusedVariables false
set_option linter.unusedSimpArgs false
set_option maxRecDepth 100000
attribute [local go_sem] gb_max2 gb_min2 gb_max_two gb_min_two gb_max_three gb_min_three

abbrev Pl := List (List Int) × List (List Int)
abbrev KPl : Kd Pl := Kd.pair KTab KTab
def MemP (W : World) (p : Nat) (L : Int) (P : List Pl) : Prop := ∃ A cap, W.heap[p]? = some (.cells #[.int .i64 L, .slice A P.length cap] 87 (0, 0)) ∧ KPl.C W A P.length P ∧ P.length ≤ cap
theorem MemP.below {W W' : World} {p : Nat} {L : Int} {P : List Pl} (h : MemP W p L P) (hb : Below W.heap.size W W') : MemP W' p L P := by
  obtain ⟨A, cap, h1, h2, h3⟩ := h
  exact ⟨A, cap, blk_below h1 hb, Kd.C_below h2 hb, h3⟩
theorem MemP.at_ {W : World} {p : Nat} {L : Int} {P : List Pl} (h : MemP W p L P) : ∃ A cap, W.cell? ⟨p, 0, none⟩ = some (.int .i64 L) ∧ W.cell? ⟨p, 1, none⟩ = some (.slice A P.length cap) ∧ KPl.C W A P.length P ∧ P.length ≤ cap := by
  obtain ⟨A, cap, h1, h2, h3⟩ := h
  exact ⟨A, cap, by rw [blk_cell h1]; rfl, by rw [blk_cell h1]; rfl, h2, h3⟩
theorem add_one2 (a : Addr) (m : Nat) : (a.add m).add 1 = a.add (m + 1) := by
  unfold Addr.add
  by_cases h : m = 0
  · subst h; simp
  · simp [h, Nat.add_assoc]
theorem pl_at {W : World} {A : Option Addr} {P : List Pl} (h : KPl.C W A P.length P) (k : Nat) (hk : k < P.length) :
    ∃ (ad : Addr) (A1 A2 : Option Addr) (c1 c2 : Nat), A = some ad ∧ W.cell? (ad.add (k * 2)) = some (.slice A1 (P.getD k ([], [])).1.length c1) ∧ W.cell? ⟨(ad.add (k * 2)).block, (ad.add (k * 2)).off + 1, none⟩ = some (.slice A2 (P.getD k ([], [])).2.length c2) ∧ (P.getD k ([], [])).1.length ≤ c1 ∧ (P.getD k ([], [])).2.length ≤ c2 ∧ Rows_ W A1 (P.getD k ([], [])).1 ∧ Rows_ W A2 (P.getD k ([], [])).2 := by
  obtain ⟨ad, c, e, hl, ⟨c0, c1, hc, ⟨A1, d1, e1, h1, h2⟩, ⟨A2, d2, e2, h3, h4⟩⟩, hcell⟩ := Kd.C_get h ([], []) (k : Int) (by omega) (by omega)
  subst e1 e2 hc
  have hk' : (k : Int).toNat = k := by omega
  rw [hk'] at h1 h2 h3 h4 hcell
  exact ⟨ad, A1, A2, d1, d2, e, hcell 0 _ rfl, by rw [show (⟨(ad.add (k * 2)).block, (ad.add (k * 2)).off + 1, none⟩ : Addr) = (ad.add (k * 2)).add 1 by simp [Addr.add], add_one2]; exact hcell 1 _ rfl, h1, h3, h2, h4⟩

theorem anew_any (n : Int) (W : World) : Calls Tryz.prog 27 #[.int .i64 n] W fun e w' => ∃ p, e = .returned (.pointer (some ⟨p, 0, none⟩)) ∧ MemP w' p (min (max n 0) 4) [] ∧ Below W.heap.size W w' := by
  have hm : MemP (W.alloc (.cells #[.int .i64 (min (max n 0) 4), .slice none 0 0] 87)) W.heap.size (min (max n 0) 4) [] := ⟨none, 0, heap_alloc_new W _, ⟨rfl, by simp, fun h => absurd h (by simp)⟩, by simp⟩
  have hb : Below W.heap.size W (W.alloc (.cells #[.int .i64 (min (max n 0) 4), .slice none 0 0] 87)) := below_alloc (Below.refl _ W) _
  obtain ⟨L, hL⟩ : ∃ L, min (max n 0) 4 = L := ⟨_, rfl⟩
  rw [hL] at hm hb ⊢
  have HM := Lib.hid hm
  have HB := Lib.hid hb
  have hL' : (if (if n < 0 then (0:Int) else n) < 4 then (if n < 0 then (0:Int) else n) else 4) = L := by
    rw [← hL]; split <;> split <;> omega
  clear hm hb
  go_enter Tryz.func27, Tryz.ntmps27
  go_wp2_with fail
  go_ret
  exact ⟨_, rfl, HM.out, HB.out⟩

theorem alen_any (W : World) (p : Nat) (L : Int) (P : List Pl) (h : MemP W p L P) : Calls Tryz.prog 143 #[.pointer (some ⟨p, 0, none⟩)] W fun e w' => e = .returned (.int .i64 P.length) ∧ w' = W := by
  obtain ⟨A, cap, h0, h1, -, -⟩ := h.at_
  obtain ⟨n, hn⟩ : ∃ n, P.length = n := ⟨_, rfl⟩
  rw [hn] at h1 ⊢
  clear hn h
  go_enter Tryz.func143, Tryz.ntmps143
  go_wp2_with fail
  go_ret
  exact ⟨rfl, rfl⟩
theorem alen_nil (W : World) : Calls Tryz.prog 143 #[.pointer none] W fun e w' => e = .returned (.int .i64 0) ∧ w' = W := by
  go_enter Tryz.func143, Tryz.ntmps143
  go_wp2_with fail
  go_ret
  exact ⟨rfl, rfl⟩
theorem alay_any (W : World) (p : Nat) (L : Int) (P : List Pl) (h : MemP W p L P) : Calls Tryz.prog 60 #[.pointer (some ⟨p, 0, none⟩)] W fun e w' => e = .returned (.int .i64 L) ∧ w' = W := by
  obtain ⟨A, cap, h0, h1, -, -⟩ := h.at_
  clear h h1
  go_enter Tryz.func60, Tryz.ntmps60
  go_wp2_with fail
  go_ret
  exact ⟨rfl, rfl⟩
theorem alay_nil (W : World) : Calls Tryz.prog 60 #[.pointer none] W fun e w' => e = .returned (.int .i64 0) ∧ w' = W := by
  go_enter Tryz.func60, Tryz.ntmps60
  go_wp2_with fail
  go_ret
  exact ⟨rfl, rfl⟩

def CutP (L : Int) (P : List Pl) (W : World) (e : Ending) (w' : World) : Prop := ∃ q, e = .returned (.pointer (some ⟨q, 0, none⟩)) ∧ MemP w' q L P ∧ Below W.heap.size W w'
theorem infoPl : (Tryz.prog.info? 106).map (fun i => (i.zero, i.size, i.bytes)) = some (some (.agg #[.slice none 0 0, .slice none 0 0]), 2, 48) := by kernel_rfl
theorem cutPl (A : Option Addr) (n c : Nat) (j : Nat) (h : j ≤ c) (W : World) : (Instr.slice 85 (.slice A n c) none (some (.int .i64 j)) (some (.int .i64 j))).run Tryz.prog W = .ok (.slice A j j) W := by
  obtain ⟨i, hi, _, hs, _⟩ := info_parts infoPl
  have hel : Tryz.prog.elem 85 = 106 := by simp [Program.elem, Tryz.underlying85]
  have hu : Tryz.prog.underlying 85 = some (.slice (Tryz.prog.elem 85)) := by rw [hel]; exact Tryz.underlying85
  have ha : (A.map fun x => x.add 0) = A := by cases A <;> simp [Addr.add]
  rw [run_slice_hm W 85 A n c hu .i64 .i64 j j (by omega) (by omega) (by omega), hel]
  simp [sizeOf, typeInfo, hi, sliced, Result.andThen, ha]
end Go.Proofs.YtdfgmdmcdnnhfaaGreat

namespace Go.Proofs.YtdfgmdmcdnnhfaaGreat
open Go.RowKit Go.Shelf Go.Proofs.YtdfgmdmcdnnhfaaGreatW.PrintWords Go.Proofs.YtdfgmdmcdnnhfaaGreatW.PrintLast Go.Proofs.YtdfgmdmcdnnhfaaGreatW.PrintMore
set_option linter.unusedVariables false
set_option linter.unusedSimpArgs false
set_option maxRecDepth 100000

theorem take_snoc_eq (xs ys : List Int) (i : Nat) (hx : i < xs.length) (hy : i < ys.length) (h : xs.take i = ys.take i) (hv : xs.getD i 0 = ys.getD i 0) : xs.take (i + 1) = ys.take (i + 1) := by
  rw [List.take_succ_eq_append_getElem hx, List.take_succ_eq_append_getElem hy, h]
  rw [List.getD_eq_getElem?_getD, List.getElem?_eq_getElem hx, List.getD_eq_getElem?_getD, List.getElem?_eq_getElem hy] at hv
  have hv' : xs[i] = ys[i] := hv
  rw [hv']
theorem take_row_eq (xs ys : List (List Int)) (i : Nat) (hx : i < xs.length) (hy : i < ys.length) (h : xs.take i = ys.take i) (hv : xs.getD i [] = ys.getD i []) : xs.take (i + 1) = ys.take (i + 1) := by
  rw [List.take_succ_eq_append_getElem hx, List.take_succ_eq_append_getElem hy, h]
  rw [List.getD_eq_getElem?_getD, List.getElem?_eq_getElem hx, List.getD_eq_getElem?_getD, List.getElem?_eq_getElem hy] at hv
  have hv' : xs[i] = ys[i] := hv
  rw [hv']
theorem take_pl_eq (xs ys : List Pl) (i : Nat) (hx : i < xs.length) (hy : i < ys.length) (h : xs.take i = ys.take i) (hv : xs.getD i ([], []) = ys.getD i ([], [])) : xs.take (i + 1) = ys.take (i + 1) := by
  rw [List.take_succ_eq_append_getElem hx, List.take_succ_eq_append_getElem hy, h]
  rw [List.getD_eq_getElem?_getD, List.getElem?_eq_getElem hx, List.getD_eq_getElem?_getD, List.getElem?_eq_getElem hy] at hv
  have hv' : xs[i] = ys[i] := hv
  rw [hv']

end Go.Proofs.YtdfgmdmcdnnhfaaGreat

namespace Go.Proofs.YtdfgmdmcdnnhfaaGreat
open Go.RowKit Go.Shelf Go.Proofs.YtdfgmdmcdnnhfaaGreatW.PrintWords Go.Proofs.YtdfgmdmcdnnhfaaGreatW.PrintLast Go.Proofs.YtdfgmdmcdnnhfaaGreatW.PrintMore
set_option linter.unusedVariables false
set_option linter.unusedSimpArgs false
set_option maxRecDepth 100000

theorem drawn_trans {w0 w1 w2 : World} (h1 : Drawn0 w0 w1) (h2 : Drawn0 w1 w2) : Drawn0 w0 w2 := by
  obtain ⟨⟨r, rfl⟩⟩ := h2
  exact Drawn0.step h1 r

/-- The keys and values of a layer, in every place. -/
def colK (P : List Pl) (l : Nat) : List (List Int) := P.map (fun p : Pl => p.1.getD l [])
def colV (P : List Pl) (l : Nat) : List (List Int) := P.map (fun p : Pl => p.2.getD l [])
def PlOk (L : Nat) (P : List Pl) : Prop := ∀ p, p ∈ P → p.1.length = L ∧ p.2.length = L ∧ Short p.1 ∧ Short p.2
def ColR (ks vs : List (List Int)) (w : World) (e : Ending) (w' : World) : Prop := ∃ A1 c1 A2 c2, e = .returned (.tuple #[.slice A1 ks.length c1, .slice A2 vs.length c2]) ∧ ks.length ≤ c1 ∧ vs.length ≤ c2 ∧ Rows_ w' A1 ks ∧ Rows_ w' A2 vs ∧ Below w.heap.size w w'
theorem pl_getD (P : List Pl) (k : Nat) (h : k < P.length) : P.getD k ([], []) = P[k] := by
  rw [List.getD_eq_getElem?_getD, List.getElem?_eq_getElem h]; rfl
theorem colK_take (P : List Pl) (l k : Nat) (h : k < P.length) : colK (P.take (k + 1)) l = colK (P.take k) l ++ [(P.getD k ([], [])).1.getD l []] := by
  unfold colK
  rw [List.take_succ_eq_append_getElem h, List.map_append, pl_getD P k h]; rfl
theorem colV_take (P : List Pl) (l k : Nat) (h : k < P.length) : colV (P.take (k + 1)) l = colV (P.take k) l ++ [(P.getD k ([], [])).2.getD l []] := by
  unfold colV
  rw [List.take_succ_eq_append_getElem h, List.map_append, pl_getD P k h]; rfl
theorem colK_len (P : List Pl) (l : Nat) : (colK P l).length = P.length := by simp [colK]
theorem colV_len (P : List Pl) (l : Nat) : (colV P l).length = P.length := by simp [colV]

theorem col_len {L : Nat} {P : List Pl} (h : PlOk L P) (k : Nat) (hk : k < P.length) : (P.getD k ([], [])).1.length = L ∧ (P.getD k ([], [])).2.length = L ∧ Short (P.getD k ([], [])).1 ∧ Short (P.getD k ([], [])).2 := by
  rw [pl_getD P k hk]
  exact h _ (List.getElem_mem hk)

theorem box_grown {wc w w1 : World} {row : Option Nat} {g n : Nat} {ps : List (List Int)} (h : ReadsRow ((KFix wc).K wc) 1 w (some ⟨g, 0, none⟩) n ps) (hg : w.grownBy w1 row) (hne : some g ≠ row) (hlt : g < w.heap.size) : ReadsRow ((KFix wc).K wc) 1 w1 (some ⟨g, 0, none⟩) n ps := by
  refine ⟨h.1, h.2.1, fun hp => ?_⟩
  obtain ⟨ad, e, hc⟩ := h.2.2 hp
  injection e with e
  subst e
  refine ⟨_, rfl, fun j p hj => ?_⟩
  obtain ⟨c, h1, h2, h3⟩ := hc j p hj
  refine ⟨c, h1, h2, fun i u hu => ?_⟩
  have h4 := h3 i u hu
  rw [add_plain] at h4 ⊢
  simp only [World.cell?, hg.block g hlt hne] at h4 ⊢
  exact h4
/-- Two rows of shared rows, each one's own. -/
structure TR (wc : World) (base : Nat) (w : World) (u v : Value) (ks vs : List (List Int)) : Prop where
  hu : (KFix wc).R 55 w base (fun _ => True) u ks
  hv : (KFix wc).R 55 w base (fun _ => True) v vs
  hd : ∀ k, u.ownBlock = some k → v.ownBlock = some k → False
theorem fix_only {wc w : World} {base : Nat} {ok : Nat → Prop} {v : Value} {xs : List (List Int)} (h : (KFix wc).R 55 w base ok v xs) : (KFix wc).R 55 w base (fun k => v.ownBlock = some k) v xs := ⟨fun _ hk => hk, h.2⟩
theorem fix_lt {wc w : World} {base : Nat} {ok : Nat → Prop} {v : Value} {xs : List (List Int)} (h : (KFix wc).R 55 w base ok v xs) (k : Nat) (hk : v.ownBlock = some k) : k < w.heap.size := by
  obtain ⟨-, inner, ho, -⟩ := h
  exact own_lt ho k hk
theorem TR.below {wc w w1 : World} {base : Nat} {u v : Value} {ks vs : List (List Int)} (h : TR wc base w u v ks vs) (hb : Below w.heap.size w w1) : TR wc base w1 u v ks vs := ⟨Kd.R_below h.hu hb, Kd.R_below h.hv hb, h.hd⟩
theorem TR.put_u {wc w w1 : World} {base : Nat} {u v u1 : Value} {ks vs ks1 : List (List Int)} (h : TR wc base w u v ks vs) (h1 : (KFix wc).R 55 w1 base (fun _ => True) u1 ks1) (hg : w.grownBy w1 u.ownBlock) (hat : u1.ownBlock = u.ownBlock ∨ ∃ b, u1.ownBlock = some b ∧ w.heap.size ≤ b) : TR wc base w1 u1 v ks1 vs := by
  refine ⟨h1, Kd.R_mono (Kd.R_grown (fix_only h.hv) hg (fun k hk he => h.hd k he.symm hk)) (fun _ _ => trivial), fun k hk hv => ?_⟩
  rcases hat with hat | ⟨b, hb, hle⟩
  · exact h.hd k (hat ▸ hk) hv
  · rw [hb] at hk
    injection hk with hk
    have := fix_lt h.hv k hv
    omega
theorem TR.put_v {wc w w1 : World} {base : Nat} {u v v1 : Value} {ks vs vs1 : List (List Int)} (h : TR wc base w u v ks vs) (h1 : (KFix wc).R 55 w1 base (fun _ => True) v1 vs1) (hg : w.grownBy w1 v.ownBlock) (hat : v1.ownBlock = v.ownBlock ∨ ∃ b, v1.ownBlock = some b ∧ w.heap.size ≤ b) : TR wc base w1 u v1 ks vs1 := by
  refine ⟨Kd.R_mono (Kd.R_grown (fix_only h.hu) hg (fun k hk he => h.hd k hk he.symm)) (fun _ _ => trivial), h1, fun k hk hv => ?_⟩
  rcases hat with hat | ⟨b, hb, hle⟩
  · exact h.hd k hk (hat ▸ hv)
  · rw [hb] at hv
    injection hv with hv
    have := fix_lt h.hu k hk
    omega
def CS (W : World) (g : Nat) (a1 a2 : Addr) (x1 x2 y1 y2 : Value) (w : World) : Prop := w.cell? ⟨g, 0, none⟩ = some x1 ∧ w.cell? ⟨g, 1, none⟩ = some x2 ∧ w.cell? a1 = some y1 ∧ w.cell? a2 = some y2 ∧ Hid (Below W.heap.size W w ∧ W.cell? a1 = some y1 ∧ W.cell? a2 = some y2 ∧ g < w.heap.size)
theorem CS.step {W : World} {g : Nat} {a1 a2 : Addr} {x1 x2 y1 y2 : Value} {w w1 : World} (h : CS W g a1 a2 x1 x2 y1 y2 w) (hb : Below w.heap.size w w1) : CS W g a1 a2 x1 x2 y1 y2 w1 := by
  obtain ⟨h0, h1, h2, h3, h4⟩ := h
  exact ⟨pw_cell_below hb h0, pw_cell_below hb h1, pw_cell_below hb h2, pw_cell_below hb h3, Lib.hid ⟨below_then h4.out.1 h4.out.1.size hb, h4.out.2.1, h4.out.2.2.1, Nat.lt_of_lt_of_le h4.out.2.2.2 hb.size⟩⟩
theorem CS.grown {W : World} {g : Nat} {a1 a2 : Addr} {x1 x2 y1 y2 : Value} {w w1 : World} {row : Option Nat} (h : CS W g a1 a2 x1 x2 y1 y2 w) (hB : Below W.heap.size W w1) (hg : w.grownBy w1 row) (hne : some g ≠ row) : CS W g a1 a2 x1 x2 y1 y2 w1 := by
  obtain ⟨h0, h1, h2, h3, h4⟩ := h
  refine ⟨?_, ?_, pw_cell_below hB h4.out.2.1, pw_cell_below hB h4.out.2.2.1, Lib.hid ⟨hB, h4.out.2.1, h4.out.2.2.1, Nat.lt_of_lt_of_le h4.out.2.2.2 hg.size⟩⟩
  · simp only [World.cell?, hg.block g h4.out.2.2.2 hne] at h0 ⊢; exact h0
  · simp only [World.cell?, hg.block g h4.out.2.2.2 hne] at h1 ⊢; exact h1
theorem CS.b {W : World} {g : Nat} {a1 a2 : Addr} {x1 x2 y1 y2 : Value} {w : World} (h : CS W g a1 a2 x1 x2 y1 y2 w) : Below W.heap.size W w := h.2.2.2.2.out.1

set_option maxHeartbeats 1000000 in
theorem column_any (W : World) (p : Nat) (L : Nat) (P : List Pl) (l : Nat) (h : MemP W p L P) (hok : PlOk L P) (hl : l < L) (hL : L ≤ 100) (hP : P.length ≤ 100000) :
    Calls Tryz.prog 61 #[.pointer (some ⟨p, 0, none⟩), .int .i64 l] W (ColR (colK P l) (colV P l) W) := by
  obtain ⟨A, cap, h0, h1, hC, hc⟩ := h.at_
  have HP := Lib.hid hC
  have HOK := Lib.hid hok
  obtain ⟨n, hn⟩ : ∃ n, P.length = n := ⟨_, rfl⟩
  have HN := Lib.hid hn
  rw [hn] at h1 hc hP
  unfold ColR
  clear h h0 hC hn hok
  go_enter Tryz.func61, Tryz.ntmps61
  go_wp2_with fail
  go_loopw [6, 7, 15] (fun u v s wr => ∃ (i : Nat) (u' v' : Value), u' = u ∧ v' = v ∧ s = .int .i64 i ∧ i ≤ n ∧ TR W W.heap.size wr u v (colK (P.take i) l) (colV (P.take i) l) ∧ Below W.heap.size W wr) (fun _ _ s _ => n - (intOf s).toNat)
  case atStart => exact ⟨0, _, _, rfl, rfl, rfl, by omega, ⟨Kd.R_nil _ _ _ _ _, Kd.R_nil _ _ _ _ _, fun k hk => by simp [Value.ownBlock] at hk⟩, Below.refl _ _⟩
  case round =>
    obtain ⟨i, u, v, rfl, rfl, rfl, hi, hT, hb⟩ := hrel
    by_cases him : i < n
    · obtain ⟨b, A1, A2, c1, c2, eA, q1, q2, hc1, hc2, hC1, hC2⟩ := pl_at HP.out i (by rw [HN.out]; exact him)
      subst eA
      obtain ⟨hl1, hl2, -, -⟩ := col_len HOK.out i (by rw [HN.out]; exact him)
      have HK := Lib.hid (colK_take P l i (by rw [HN.out]; exact him))
      have HV := Lib.hid (colV_take P l i (by rw [HN.out]; exact him))
      have HCIK := Lib.hid (show (colK (P.take i) l).length = i by rw [colK_len, List.length_take, HN.out]; omega)
      have HCIV := Lib.hid (show (colV (P.take i) l).length = i by rw [colV_len, List.length_take, HN.out]; omega)
      obtain ⟨K1, hK1⟩ : ∃ K, (P.getD i ([], [])).1 = K := ⟨_, rfl⟩
      obtain ⟨K2, hK2⟩ : ∃ K, (P.getD i ([], [])).2 = K := ⟨_, rfl⟩
      rw [hK1] at q1 hc1 hl1 hC1 HK
      rw [hK2] at q2 hc2 hl2 hC2 HV
      obtain ⟨d1, B1, e1, ed1, p1, he1, hD1⟩ := hC1.at_ l (by rw [hl1]; exact hl)
      obtain ⟨d2, B2, e2, ed2, p2, he2, hD2⟩ := hC2.at_ l (by rw [hl2]; exact hl)
      subst ed1 ed2
      rw [hl1] at q1 hc1
      rw [hl2] at q2 hc2
      obtain ⟨kk, hkk⟩ : ∃ k, K1.getD l [] = k := ⟨_, rfl⟩
      obtain ⟨vv, hvv⟩ : ∃ k, K2.getD l [] = k := ⟨_, rfl⟩
      rw [hkk] at HK p1 he1 hD1
      rw [hvv] at HV p2 he2 hD2
      have HE1 : Hid ((Kd.slice 2 (Kd.int .i64)).K W kk [.slice B1 kk.length e1]) := Lib.hid ⟨B1, e1, rfl, he1, hD1⟩
      have HE2 : Hid ((Kd.slice 2 (Kd.int .i64)).K W vv [.slice B2 vv.length e2]) := Lib.hid ⟨B2, e2, rfl, he2, hD2⟩
      have HTR := Lib.hid hT
      have HB := Lib.hid hb
      have q1' := pw_cell_below hb q1
      have q2' := pw_cell_below hb q2
      have HQ1 := Lib.hid p1
      have HQ2 := Lib.hid p2
      clear hK1 hK2 hC1 hC2 hT hb hkk hvv he1 he2 hD1 hD2 q1 q2 p1 p2
      go_wp2_with fail
      have HGU : Hid (some wr.heap.size ≠ u.ownBlock) := Lib.hid (fun he => absurd (fix_lt HTR.out.hu _ he.symm) (Nat.lt_irrefl _))
      have HGV : Hid (some wr.heap.size ≠ v.ownBlock) := Lib.hid (fun he => absurd (fix_lt HTR.out.hv _ he.symm) (Nat.lt_irrefl _))
      obtain ⟨w4, hw4⟩ : ∃ w, wr.alloc (.cells #[.slice (some d1) L c1, .slice (some d2) L c2] 106) = w := ⟨_, rfl⟩
      have hB4 : Below wr.heap.size wr w4 := by rw [← hw4]; exact below_alloc (Below.refl _ _) _
      have hh := heap_alloc_new wr (.cells #[.slice (some d1) L c1, .slice (some d2) L c2] 106)
      rw [hw4] at hh ⊢
      obtain ⟨g, hg⟩ : ∃ g, wr.heap.size = g := ⟨_, rfl⟩
      have hgl : g < w4.heap.size := by rw [← hg, ← hw4]; simp
      rw [hg] at hh HGU HGV ⊢
      have hB4' : Below wr.heap.size wr w4.drew := below_drew hB4
      have HTR := Lib.hid (HTR.out.below hB4')
      have HQ := Lib.hid (below_then HB.out HB.out.size hB4')
      have hS : CS W g (d1.add l) (d2.add l) (.slice (some d1) L c1) (.slice (some d2) L c2) (.slice B1 kk.length e1) (.slice B2 vv.length e2) w4.drew := by
        have hd := below_drew (Below.refl w4.heap.size w4)
        exact ⟨pw_cell_below hd (by rw [blk_cell hh]; rfl), pw_cell_below hd (by rw [blk_cell hh]; rfl), pw_cell_below HQ.out HQ1.out, pw_cell_below HQ.out HQ2.out, Lib.hid ⟨HQ.out, HQ1.out, HQ2.out, hgl⟩⟩
      have HCLN := Lib.hid (And.intro hw4 hg)
      clear hB4 hB4' hh hgl hw4 hg q1' q2'
      have bA := below_alloc (Below.refl w4.drew.heap.size w4.drew) (.cells #[.slice B1 kk.length e1] 55)
      have bAB := below_alloc (Below.refl (w4.drew.alloc (.cells #[.slice B1 kk.length e1] 55)).heap.size (w4.drew.alloc (.cells #[.slice B1 kk.length e1] 55))) (.cells #[.slice B2 vv.length e2] 55)
      have bB := below_alloc (Below.refl w4.drew.heap.size w4.drew) (.cells #[.slice B2 vv.length e2] 55)
      have bBA := below_alloc (Below.refl (w4.drew.alloc (.cells #[.slice B2 vv.length e2] 55)).heap.size (w4.drew.alloc (.cells #[.slice B2 vv.length e2] 55))) (.cells #[.slice B1 kk.length e1] 55)
      have sA : (w4.drew.alloc (.cells #[.slice B1 kk.length e1] 55)).heap.size = w4.heap.size + 1 := by simp
      have sB : (w4.drew.alloc (.cells #[.slice B2 vv.length e2] 55)).heap.size = w4.heap.size + 1 := by simp
      have HTA := Lib.hid (HTR.out.below bA)
      have HTAB := Lib.hid ((HTR.out.below bA).below bAB)
      have HTBA := Lib.hid ((HTR.out.below bB).below bBA)
      have HQA := Lib.hid (below_then HQ.out HQ.out.size bA)
      have HQAB := Lib.hid (below_then HQA.out HQA.out.size bAB)
      have HQBA := Lib.hid (below_then (below_then HQ.out HQ.out.size bB) (below_then HQ.out HQ.out.size bB).size bBA)
      have HXA := Lib.hid (show ReadsRow ((KFix W).K W) 1 (w4.drew.alloc (.cells #[.slice B1 kk.length e1] 55)) (some ⟨w4.heap.size, 0, none⟩) 1 [kk] from boxed_row (w := w4.drew) HE1.out _)
      have HXAB := Lib.hid (ReadsRow.imp_ HXA.out bAB (fun _ _ h => h))
      have HXBA := Lib.hid (show ReadsRow ((KFix W).K W) 1 ((w4.drew.alloc (.cells #[.slice B2 vv.length e2] 55)).alloc (.cells #[.slice B1 kk.length e1] 55)) (some ⟨w4.heap.size + 1, 0, none⟩) 1 [kk] by
        have h := boxed_row (w := w4.drew.alloc (.cells #[.slice B2 vv.length e2] 55)) HE1.out 55
        rw [sB] at h; exact h)
      have HYAB := Lib.hid (show ReadsRow ((KFix W).K W) 1 ((w4.drew.alloc (.cells #[.slice B1 kk.length e1] 55)).alloc (.cells #[.slice B2 vv.length e2] 55)) (some ⟨w4.heap.size + 1, 0, none⟩) 1 [vv] by
        have h := boxed_row (w := w4.drew.alloc (.cells #[.slice B1 kk.length e1] 55)) HE2.out 55
        rw [sA] at h; exact h)
      have HYB := show ReadsRow ((KFix W).K W) 1 (w4.drew.alloc (.cells #[.slice B2 vv.length e2] 55)) (some ⟨w4.heap.size, 0, none⟩) 1 [vv] from boxed_row (w := w4.drew) HE2.out _
      have HYBA := Lib.hid (ReadsRow.imp_ HYB bBA (fun _ _ h => h))
      have HNU : Hid (∀ k, w4.heap.size ≤ k → some k ≠ u.ownBlock) := Lib.hid (fun k hk he => by have := fix_lt HTR.out.hu k he.symm; simp at this; omega)
      have HSZ := Lib.hid (And.intro (show w4.heap.size < (w4.drew.alloc (.cells #[.slice B1 kk.length e1] 55) |>.alloc (.cells #[.slice B2 vv.length e2] 55)).heap.size by simp; omega) (show w4.heap.size + 1 < (w4.drew.alloc (.cells #[.slice B1 kk.length e1] 55) |>.alloc (.cells #[.slice B2 vv.length e2] 55)).heap.size by simp))
      have HSZ2 := Lib.hid (And.intro (show w4.heap.size < (w4.drew.alloc (.cells #[.slice B2 vv.length e2] 55) |>.alloc (.cells #[.slice B1 kk.length e1] 55)).heap.size by simp; omega) (show w4.heap.size + 1 < (w4.drew.alloc (.cells #[.slice B2 vv.length e2] 55) |>.alloc (.cells #[.slice B1 kk.length e1] 55)).heap.size by simp))
      clear bA bAB bB bBA sA sB HYB
      go_region_held3 (fun w' => w'.cell? ⟨g, 0, none⟩ = some (.slice (some d1) L c1) ∧ w'.cell? ⟨g, 1, none⟩ = some (.slice (some d2) L c2) ∧ w'.cell? (d1.add l) = some (.slice B1 kk.length e1) ∧ w'.cell? (d2.add l) = some (.slice B2 vv.length e2) ∧ Hid (Below W.heap.size W w' ∧ W.cell? (d1.add l) = some (.slice B1 kk.length e1) ∧ W.cell? (d2.add l) = some (.slice B2 vv.length e2) ∧ g < w'.heap.size))
        (first | exact hS | exact CS.step (by assumption) (below_alloc (Below.refl _ _) _) | exact CS.grown (by assumption) hb5 hg5 HGU.out | exact CS.grown (by assumption) hb6 hg6 HGV.out)
        (first
          | (refine Kd.R_append_rows_step (KFix W) (Rr := (KFix W).K W) (w0 := W) (W := w5) W.heap.size rfl _ _ 54 55 (.slice none 0 0) 24 rfl Tryz.underlying54 infoRow rfl Nat.zero_lt_one (by decide) v (colV (P.take i) l) [vv] _ 1 1 (fun _ => True) (fun _ => False) (by rfl) (by rfl) HTR5.out.hv HX2.out (fun _ _ h => h) (fun _ h => h.elim) (fun _ _ => trivial) HQ5.out (HQ5.out).size (by rw [HCIV.out]; omega) ?_; intro v6 w6 hr6 hb6 hg6 hat6; have HTR6 := Lib.hid (TR.put_v HTR5.out hr6 hg6 hat6))
          | (refine Kd.R_append_rows_step (KFix W) (Rr := (KFix W).K W) (w0 := W) (W := w5.alloc (.cells #[.slice B2 vv.length e2] 55)) W.heap.size rfl _ _ 54 55 (.slice none 0 0) 24 rfl Tryz.underlying54 infoRow rfl Nat.zero_lt_one (by decide) v (colV (P.take i) l) [vv] _ 1 1 (fun _ => True) (fun _ => False) (by rfl) (by rfl) (HTR5.out.below (below_alloc (Below.refl _ _) _)).hv (boxed_row HE2.out _) (fun _ _ h => h) (fun _ h => h.elim) (fun _ _ => trivial) (below_alloc HQ5.out _) ((below_alloc HQ5.out _)).size (by rw [HCIV.out]; omega) ?_; intro v6 w6 hr6 hb6 hg6 hat6; have HTR6 := Lib.hid (TR.put_v (HTR5.out.below (below_alloc (Below.refl _ _) _)) hr6 hg6 hat6))
          | (refine Kd.R_append_rows_step (KFix W) (Rr := (KFix W).K W) (w0 := W) (W := (w4.drew.alloc (.cells #[.slice B1 kk.length e1] 55)).alloc (.cells #[.slice B2 vv.length e2] 55)) W.heap.size rfl _ _ 54 55 (.slice none 0 0) 24 rfl Tryz.underlying54 infoRow rfl Nat.zero_lt_one (by decide) u (colK (P.take i) l) [kk] _ 1 1 (fun _ => True) (fun _ => False) (by rfl) (by rfl) HTAB.out.hu HXAB.out (fun _ _ h => h) (fun _ h => h.elim) (fun _ _ => trivial) HQAB.out (HQAB.out).size (by rw [HCIK.out]; omega) ?_; intro v5 w5 hr5 hb5 hg5 hat5; have HTR5 := Lib.hid (TR.put_u HTAB.out hr5 hg5 hat5); have HQ5 := Lib.hid hb5; have HX2 := Lib.hid (box_grown HYAB.out hg5 (HNU.out _ (by omega)) HSZ.out.2))
          | (refine Kd.R_append_rows_step (KFix W) (Rr := (KFix W).K W) (w0 := W) (W := (w4.drew.alloc (.cells #[.slice B2 vv.length e2] 55)).alloc (.cells #[.slice B1 kk.length e1] 55)) W.heap.size rfl _ _ 54 55 (.slice none 0 0) 24 rfl Tryz.underlying54 infoRow rfl Nat.zero_lt_one (by decide) u (colK (P.take i) l) [kk] _ 1 1 (fun _ => True) (fun _ => False) (by rfl) (by rfl) HTBA.out.hu HXBA.out (fun _ _ h => h) (fun _ h => h.elim) (fun _ _ => trivial) HQBA.out (HQBA.out).size (by rw [HCIK.out]; omega) ?_; intro v5 w5 hr5 hb5 hg5 hat5; have HTR5 := Lib.hid (TR.put_u HTBA.out hr5 hg5 hat5); have HQ5 := Lib.hid hb5; have HX2 := Lib.hid (box_grown HYBA.out hg5 (HNU.out _ (by omega)) HSZ2.out.1))
          | (refine Kd.R_append_rows_step (KFix W) (Rr := (KFix W).K W) (w0 := W) (W := w4.drew.alloc (.cells #[.slice B1 kk.length e1] 55)) W.heap.size rfl _ _ 54 55 (.slice none 0 0) 24 rfl Tryz.underlying54 infoRow rfl Nat.zero_lt_one (by decide) u (colK (P.take i) l) [kk] _ 1 1 (fun _ => True) (fun _ => False) (by rfl) (by rfl) HTA.out.hu HXA.out (fun _ _ h => h) (fun _ h => h.elim) (fun _ _ => trivial) HQA.out (HQA.out).size (by rw [HCIK.out]; omega) ?_; intro v5 w5 hr5 hb5 hg5 hat5; have HTR5 := Lib.hid (TR.put_u HTA.out hr5 hg5 hat5); have HQ5 := Lib.hid hb5))
      all_goals
        have HB6 := Lib.hid hb6
        clear hr5 hb5 hg5 hat5 hr6 hb6 hg6 hat6
        go_wp2_with fail
        go_roundw
        case rel => exact ⟨i + 1, _, _, rfl, rfl, by go_num, by omega, by rw [HK.out, HV.out]; exact HTR6.out, HB6.out⟩
        case measure => simp [intOf]; omega
    · have hin : i = n := by omega
      subst hin
      have hpt : P.take i = P := List.take_of_length_le (by rw [HN.out]; omega)
      rw [hpt] at hT
      have hk1 := hT.hu
      have hv1 := hT.hv
      obtain ⟨AK, cK, ek, hck, hCK⟩ := Kd.R_reads hk1
      obtain ⟨AV, cV, ev, hcv, hCV⟩ := Kd.R_reads hv1
      subst ek ev
      have HRK := Lib.hid (fix_rows hCK hb)
      have HRV := Lib.hid (fix_rows hCV hb)
      have HB := Lib.hid hb
      clear hT hk1 hv1 hCK hCV hb hpt
      go_wp2_with fail
      go_ret2
      exact ⟨_, _, _, _, rfl, hck, hcv, HRK.out, HRV.out, HB.out⟩

end Go.Proofs.YtdfgmdmcdnnhfaaGreat

namespace Go.Proofs.YtdfgmdmcdnnhfaaGreat
open Go.RowKit Go.Shelf Go.Proofs.YtdfgmdmcdnnhfaaGreatW.PrintWords Go.Proofs.YtdfgmdmcdnnhfaaGreatW.PrintLast Go.Proofs.YtdfgmdmcdnnhfaaGreatW.PrintMore
set_option linter.unusedVariables false
set_option linter.unusedSimpArgs false
set_option maxRecDepth 100000

/-- Six cells that stay. -/
structure Six (W : World) (a1 a2 a3 a4 a5 a6 : Addr) (v1 v2 v3 v4 v5 v6 : Value) (B : Nat) (w : World) : Prop where
  c1 : w.cell? a1 = some v1
  c2 : w.cell? a2 = some v2
  c3 : w.cell? a3 = some v3
  c4 : w.cell? a4 = some v4
  c5 : w.cell? a5 = some v5
  c6 : w.cell? a6 = some v6
def SixS (W : World) (a1 a2 a3 a4 a5 a6 : Addr) (v1 v2 v3 v4 v5 v6 : Value) (w : World) : Prop := w.cell? a1 = some v1 ∧ w.cell? a2 = some v2 ∧ w.cell? a3 = some v3 ∧ w.cell? a4 = some v4 ∧ w.cell? a5 = some v5 ∧ w.cell? a6 = some v6 ∧ Hid (Below W.heap.size W w ∧ W.cell? a1 = some v1 ∧ W.cell? a2 = some v2 ∧ W.cell? a3 = some v3 ∧ W.cell? a4 = some v4 ∧ W.cell? a5 = some v5 ∧ W.cell? a6 = some v6)
theorem SixS.of {W : World} {a1 a2 a3 a4 a5 a6 : Addr} {v1 v2 v3 v4 v5 v6 : Value} {w w1 : World} (h : SixS W a1 a2 a3 a4 a5 a6 v1 v2 v3 v4 v5 v6 w) (hb : Below W.heap.size W w1) : SixS W a1 a2 a3 a4 a5 a6 v1 v2 v3 v4 v5 v6 w1 := by
  obtain ⟨-, h1, h2, h3, h4, h5, h6⟩ := h.2.2.2.2.2.2.out
  exact ⟨pw_cell_below hb h1, pw_cell_below hb h2, pw_cell_below hb h3, pw_cell_below hb h4, pw_cell_below hb h5, pw_cell_below hb h6, Lib.hid ⟨hb, h1, h2, h3, h4, h5, h6⟩⟩
theorem SixS.b {W : World} {a1 a2 a3 a4 a5 a6 : Addr} {v1 v2 v3 v4 v5 v6 : Value} {w : World} (h : SixS W a1 a2 a3 a4 a5 a6 v1 v2 v3 v4 v5 v6 w) : Below W.heap.size W w := h.2.2.2.2.2.2.out.1

theorem two_boxes (w : World) (u1 u2 v1 v2 : Value) (t : TypeId) : ((w.alloc (.cells #[u1, u2] t)).alloc (.cells #[v1, v2] t)).drew.cell? ⟨w.heap.size, 0, none⟩ = some u1 ∧ ((w.alloc (.cells #[u1, u2] t)).alloc (.cells #[v1, v2] t)).drew.cell? ⟨w.heap.size, 1, none⟩ = some u2 ∧ ((w.alloc (.cells #[u1, u2] t)).alloc (.cells #[v1, v2] t)).drew.cell? ⟨w.heap.size + 1, 0, none⟩ = some v1 ∧ ((w.alloc (.cells #[u1, u2] t)).alloc (.cells #[v1, v2] t)).drew.cell? ⟨w.heap.size + 1, 1, none⟩ = some v2 := by
  have hb := below_drew (below_alloc (Below.refl (w.alloc (.cells #[u1, u2] t)).heap.size (w.alloc (.cells #[u1, u2] t))) (.cells #[v1, v2] t))
  have h1 := blk_below (heap_alloc_new w (.cells #[u1, u2] t)) hb
  have h2 : ((w.alloc (.cells #[u1, u2] t)).alloc (.cells #[v1, v2] t)).drew.heap[w.heap.size + 1]? = some (.cells #[v1, v2] t (0, 0)) := heap_alloc2_new w _ _
  exact ⟨by rw [blk_cell h1]; rfl, by rw [blk_cell h1]; rfl, by rw [blk_cell h2]; rfl, by rw [blk_cell h2]; rfl⟩

end Go.Proofs.YtdfgmdmcdnnhfaaGreat

namespace Go.Proofs.YtdfgmdmcdnnhfaaGreat
open Go.RowKit Go.Shelf Go.Proofs.YtdfgmdmcdnnhfaaGreatW.PrintWords Go.Proofs.YtdfgmdmcdnnhfaaGreatW.PrintLast Go.Proofs.YtdfgmdmcdnnhfaaGreatW.PrintMore
set_option linter.unusedVariables false
set_option linter.unusedSimpArgs false
set_option maxRecDepth 100000
attribute [local go_sem] gb_max2 gb_min2 gb_max_two gb_min_two gb_max_three gb_min_three

def aThru (c : Cfg) (P : List Pl) (x : List Int) : Nat → List Int × Pl
  | 0 => (x, [], [])
  | n + 1 => (aX c n (aThru c P x n).1 (colK P n) (colV P n), (aThru c P x n).2.1 ++ [aK c n (aThru c P x n).1], (aThru c P x n).2.2 ++ [aV c n (aThru c P x n).1])

/-- Two rows of one's own rows; each may be added to. -/
structure TW (base : Nat) (w : World) (u v : Value) (ks vs : List (List Int)) : Prop where
  hu : KRow.R 55 w base (fun k => some k ≠ v.ownBlock) u ks
  hv : KRow.R 55 w base (fun k => some k ≠ u.ownBlock) v vs
theorem TW.nil (base : Nat) (w : World) : TW base w (.slice none 0 0) (.slice none 0 0) [] [] := ⟨Kd.R_nil _ _ _ _ _, Kd.R_nil _ _ _ _ _⟩
theorem TW.below {base : Nat} {w w1 : World} {u v : Value} {ks vs : List (List Int)} (h : TW base w u v ks vs) (hb : Below w.heap.size w w1) : TW base w1 u v ks vs := ⟨Kd.R_below h.hu hb, Kd.R_below h.hv hb⟩
theorem TW.ltu {base : Nat} {w : World} {u v : Value} {ks vs : List (List Int)} (h : TW base w u v ks vs) (k : Nat) (hk : u.ownBlock = some k) : k < w.heap.size := by
  obtain ⟨-, inner, ho, -⟩ := h.hu
  exact own_lt ho k hk
theorem TW.ltv {base : Nat} {w : World} {u v : Value} {ks vs : List (List Int)} (h : TW base w u v ks vs) (k : Nat) (hk : v.ownBlock = some k) : k < w.heap.size := by
  obtain ⟨-, inner, ho, -⟩ := h.hv
  exact own_lt ho k hk
theorem TW.put_u {base : Nat} {w w1 : World} {u v u1 : Value} {ks vs ks1 : List (List Int)} (h : TW base w u v ks vs) (h1 : KRow.R 55 w1 base (fun k => some k ≠ v.ownBlock) u1 ks1) (hg : w.grownBy w1 u.ownBlock) (hat : u1.ownBlock = u.ownBlock ∨ ∃ b, u1.ownBlock = some b ∧ w.heap.size ≤ b) : TW base w1 u1 v ks1 vs := by
  refine ⟨h1, Kd.R_mono (Kd.R_grown (Kd.R_bound h.hv) hg (fun k hk => hk.1)) (fun k hk he => ?_)⟩
  rcases hat with hat | ⟨b, hb, hle⟩
  · exact hk.1 (he.trans hat)
  · rw [hb] at he
    injection he with he
    have := hk.2.2.1
    omega
theorem TW.put_v {base : Nat} {w w1 : World} {u v v1 : Value} {ks vs vs1 : List (List Int)} (h : TW base w u v ks vs) (h1 : KRow.R 55 w1 base (fun k => some k ≠ u.ownBlock) v1 vs1) (hg : w.grownBy w1 v.ownBlock) (hat : v1.ownBlock = v.ownBlock ∨ ∃ b, v1.ownBlock = some b ∧ w.heap.size ≤ b) : TW base w1 u v1 ks vs1 := by
  refine ⟨Kd.R_mono (Kd.R_grown (Kd.R_bound h.hu) hg (fun k hk => hk.1)) (fun k hk he => ?_), h1⟩
  rcases hat with hat | ⟨b, hb, hle⟩
  · exact hk.1 (he.trans hat)
  · rw [hb] at he
    injection he with he
    have := hk.2.2.1
    omega
/-- What may be added: a row of one's own. -/
def NewRow (base : Nat) (w : World) (x : List Int) (cs : List Value) : Prop := KRow.M w base (fun k => base ≤ k ∧ k < w.heap.size ∧ ∃ cells, w.heap[k]? = some (.cells cells 2 (0, 0))) x cs
theorem NewRow.of {base : Nat} {w : World} {A : Option Addr} {c : Nat} {x : List Int} (h : Own w base 2 (.slice A x.length c) x) : NewRow base w x [.slice A x.length c] := by
  refine ⟨_, rfl, Kd.R_mono (Kd.R_bound h) (fun k hk => ⟨hk.2.1, hk.2.2.1, ?_⟩)⟩
  obtain ⟨q, hq, cells, hc⟩ := hk.2.2.2
  have h1 : q = 2 := by simpa [Kd.int, Kd.scalar] using hq
  subst h1
  exact ⟨cells, hc⟩
theorem NewRow.ne {base : Nat} {w : World} {u v : Value} {ks vs : List (List Int)} (h : TW base w u v ks vs) (k : Nat) (hk : base ≤ k ∧ k < w.heap.size ∧ ∃ cells, w.heap[k]? = some (.cells cells 2 (0, 0))) : some k ≠ u.ownBlock ∧ some k ≠ v.ownBlock := by
  obtain ⟨-, -, cells, hc⟩ := hk
  constructor
  · intro he
    obtain ⟨-, inner, ho, -⟩ := h.hu
    obtain ⟨cells', hc'⟩ := own_typed ho k he.symm
    rw [hc] at hc'
    simp at hc'
  · intro he
    obtain ⟨-, inner, ho, -⟩ := h.hv
    obtain ⟨cells', hc'⟩ := own_typed ho k he.symm
    rw [hc] at hc'
    simp at hc'

theorem NewRow.move {base : Nat} {w w1 : World} {x : List Int} {cs : List Value} (h : NewRow base w x cs) (hs : w.heap.size ≤ w1.heap.size) (hm : ∀ k, (base ≤ k ∧ k < w.heap.size ∧ ∃ cells, w.heap[k]? = some (.cells cells 2 (0, 0))) → w1.heap[k]? = w.heap[k]?) : NewRow base w1 x cs :=
  KRow.M_mono (fun k hk => ⟨hk.1, by omega, by obtain ⟨cells, hc⟩ := hk.2.2; exact ⟨cells, by rw [hm k hk]; exact hc⟩⟩) (KRow.M_move hm h)
theorem NewRow.below {base : Nat} {w w1 : World} {x : List Int} {cs : List Value} (h : NewRow base w x cs) (hb : Below w.heap.size w w1) : NewRow base w1 x cs := h.move hb.size (fun k hk => hb.block k hk.2.1)
theorem NewRow.grown {base : Nat} {w w1 : World} {x : List Int} {cs : List Value} {row : Option Nat} (h : NewRow base w x cs) (hg : w.grownBy w1 row) (hr : ∀ k, (base ≤ k ∧ k < w.heap.size ∧ ∃ cells, w.heap[k]? = some (.cells cells 2 (0, 0))) → some k ≠ row) : NewRow base w1 x cs := h.move hg.size (fun k hk => hg.block k hk.2.1 (hr k hk))
/-- A box of a new row. -/
def RB (base : Nat) (w : World) (a : Nat) (x : List Int) : Prop := ReadsRow (NewRow base w) 1 w (some ⟨a, 0, none⟩) 1 [x]
theorem RB.mk' {base : Nat} {w : World} {A : Option Addr} {c : Nat} {x : List Int} (h : NewRow base w x [.slice A x.length c]) (e : TypeId) : RB base (w.alloc (.cells #[.slice A x.length c] e)) w.heap.size x := by
  have h2 := heap_alloc_new w (.cells #[.slice A x.length c] e)
  refine ⟨rfl, by simp, fun _ => ⟨_, rfl, fun j p hj => ?_⟩⟩
  match j, hj with
  | 0, hj =>
    obtain rfl : x = p := by simpa using hj
    refine ⟨[.slice A x.length c], rfl, h.below (below_alloc (Below.refl _ _) _), fun i u hu => ?_⟩
    rw [add_plain, blk_cell h2]
    cases i with
    | zero => simpa using hu
    | succ i => simp at hu
  | j + 1, hj => simp at hj
theorem RB.below {base : Nat} {w w1 : World} {a : Nat} {x : List Int} (h : RB base w a x) (hb : Below w.heap.size w w1) : RB base w1 a x := ReadsRow.imp_ h hb (fun p cs hp => NewRow.below hp hb)
theorem RB.grown {base : Nat} {w w1 : World} {a : Nat} {x : List Int} {row : Option Nat} (h : RB base w a x) (hg : w.grownBy w1 row) (hne : some a ≠ row) (hlt : a < w.heap.size) (hr : ∀ k, (base ≤ k ∧ k < w.heap.size ∧ ∃ cells, w.heap[k]? = some (.cells cells 2 (0, 0))) → some k ≠ row) : RB base w1 a x := by
  refine ⟨h.1, h.2.1, fun hp => ?_⟩
  obtain ⟨ad, e, hc⟩ := h.2.2 hp
  injection e with e
  subst e
  refine ⟨_, rfl, fun j p hj => ?_⟩
  obtain ⟨c, h1, h2, h3⟩ := hc j p hj
  refine ⟨c, h1, NewRow.grown h2 hg hr, fun i u hu => ?_⟩
  have h4 := h3 i u hu
  rw [add_plain] at h4 ⊢
  simp only [World.cell?, hg.block a hlt hne] at h4 ⊢
  exact h4

/-- append(places[:n:n], own): it grows. -/
theorem step_grow_pl {ops : Array Oper} {o : Oper} {a : Act} {w : World} {K : Act → World → Prop} {Q : Exit → Act → World → Prop}
    (hg : o.guard = none) (s x : Operand) (hop : o.op = Op.call { callee := Callee.builtin Builtin.append, args := #[s, x], argTypes := #[85, 85] })
    (A : Option Addr) (P : List Pl) (hC : KPl.C w A P.length P) (hs : a.eval s = .slice A P.length P.length) (box : Addr) (u v : Value) (hx : a.eval x = .slice (some box) 1 1) (c0 : w.cell? (box.add 0) = some u) (c1 : w.cell? (box.add 1) = some v) (own : Pl) (hown : KPl.K w own [u, v]) (hlen : P.length ≤ 1000)
    (h : ∀ A' c' w', KPl.C w' A' (P ++ [own]).length (P ++ [own]) → (P ++ [own]).length ≤ c' → Below w.heap.size w w' → K (a.put o.dst (.slice A' (P ++ [own]).length c')) w') :
    if Region.wanted o (yielded ops a.tmps) = true then Oper.wp Tryz.prog o a w K Q else K (a.put o.dst undef) w := by
  obtain ⟨i0, hi, hz0, hz1, hz2⟩ := info_parts infoPl
  have hone := KPl.K_one hown
  have key : ∃ olds, Reps (KPl.K w) 2 P olds ∧ ∀ b, A = some b → ∀ j q, olds[j]? = some q → w.cell? (b.add j) = some q := by
    rcases A with _ | ad
    · have h0 : P = [] := by
        cases P with
        | nil => rfl
        | cons y l => obtain ⟨ad, e, _⟩ := hC.2.2 (by simp); cases e
      subst h0
      exact ⟨[], Reps.none _ _, fun b hb => by cases hb⟩
    · obtain ⟨inner, h1, h2⟩ := ReadsRow.inner_ hC
      exact ⟨inner, h1, fun b hb => by injection hb with hb; subst hb; exact h2⟩
  obtain ⟨olds, hr, hcell⟩ := key
  have hnone : A = none → P.length = 0 ∧ P.length = 0 := by
    intro hA
    subst hA
    have h0 : P.length = 0 := by
      rcases Nat.eq_zero_or_pos P.length with h0 | h0
      · exact h0
      · obtain ⟨ad, e, _⟩ := hC.2.2 h0; cases e
    exact ⟨h0, h0⟩
  refine step_append_grows hg s x 85 hop 106 i0 (.agg #[.slice none 0 0, .slice none 0 0]) 2 48 Tryz.underlying85 hi hz0 hz1 hz2 (by rfl) (by decide) A P.length P.length olds hs hnone hr.1 hcell box 1 1 [u, v] hx rfl (fun j q hj => ?_) hone (by omega) (by simp only [maxLen]; omega) (by omega) ?_
  · match j, hj with
    | 0, hj => obtain rfl : u = q := by simpa using hj
               exact c0
    | 1, hj => obtain rfl : v = q := by simpa using hj
               exact c1
    | j + 2, hj => simp at hj
  · intro v' w' hown' hg'
    have hb : Below w.heap.size w w' := (Below.refl w.heap.size w).grown hg' (Nat.le_refl _) (fun k hk => by cases hk)
    have hO : OwnRow (KPl.K w) 106 2 w' w.heap.size v' (P ++ [own]) := ⟨olds ++ [u, v], by rw [List.length_append]; exact hown', Reps.snoc hr hown rfl⟩
    obtain ⟨A', c', rfl, hl, hrd⟩ := hO.reads
    exact h A' c' w' (ReadsRow.imp_ hrd (Below.refl _ _) (fun _ _ hp => KPl.K_below hb hp)) hl hb

/-! ### What holds at all worlds that agree on some blocks -/
def Ft (F : Nat → Prop) (w : World) (f : World → Prop) : Prop := ∀ W', (∀ k, F k → W'.heap[k]? = w.heap[k]?) → f W'
theorem Ft.self {F : Nat → Prop} {w : World} {f : World → Prop} (h : Ft F w f) : f w := h w (fun _ _ => rfl)
theorem Ft.mono {F F' : Nat → Prop} {w : World} {f : World → Prop} (h : Ft F w f) (hF : ∀ k, F k → F' k) : Ft F' w f := fun W' hW => h W' (fun k hk => hW k (hF k hk))
theorem Ft.move {F : Nat → Prop} {w w1 : World} {f : World → Prop} (h : Ft F w f) (hw : ∀ k, F k → w1.heap[k]? = w.heap[k]?) : Ft F w1 f := fun W' hW => h W' (fun k hk => (hW k hk).trans (hw k hk))
/-- The blocks from one number on, below another one. -/
def Bt (a b : Nat) (k : Nat) : Prop := a ≤ k ∧ k < b
def FU (F G : Nat → Prop) (k : Nat) : Prop := F k ∨ G k
/-- A memory, of which F are the blocks. -/
def MemF (F : Nat → Prop) (W : World) (p : Nat) (L : Int) (P : List Pl) : Prop := ∃ (A : Option Addr) (cap : Nat) (olds : List Value), P.length ≤ cap ∧ P.length ≤ 9223372036854775807 ∧ (A = none → P = []) ∧
  Ft F W (fun W' => W'.heap[p]? = some (.cells #[.int .i64 L, .slice A P.length cap] 87 (0, 0)) ∧ Reps (KPl.K W') 2 P olds ∧ ∀ b, A = some b → ∀ j u, olds[j]? = some u → W'.cell? (b.add j) = some u)
theorem reps_C {W : World} {A : Option Addr} {P : List Pl} {olds : List Value} (hl : P.length ≤ 9223372036854775807) (hA : A = none → P = []) (hr : Reps (KPl.K W) 2 P olds) (hc : ∀ b, A = some b → ∀ j u, olds[j]? = some u → W.cell? (b.add j) = some u) : KPl.C W A P.length P := by
  refine ⟨rfl, hl, fun h0 => ?_⟩
  cases A with
  | none => rw [hA rfl] at h0; simp at h0
  | some ad =>
    refine ⟨ad, rfl, fun j p hj => ⟨(olds.drop (j * 2)).take 2, by show _ = 2; rw [List.length_take, List.length_drop, hr.1]; have := (List.getElem?_eq_some_iff.1 hj).1; omega, hr.2 j p hj, fun i u hu => ?_⟩⟩
    rw [List.getElem?_take] at hu
    split at hu
    · rw [List.getElem?_drop] at hu
      exact hc ad rfl _ _ hu
    · cases hu
theorem MemF.mem {F : Nat → Prop} {W : World} {p : Nat} {L : Int} {P : List Pl} (h : MemF F W p L P) : MemP W p L P := by
  obtain ⟨A, cap, olds, h1, h2, h3, h4⟩ := h
  obtain ⟨h5, h6, h7⟩ := h4.self
  exact ⟨A, cap, h5, reps_C h2 h3 h6 h7, h1⟩
theorem MemF.mono {F F' : Nat → Prop} {W : World} {p : Nat} {L : Int} {P : List Pl} (h : MemF F W p L P) (hF : ∀ k, F k → F' k) : MemF F' W p L P := by
  obtain ⟨A, cap, olds, h1, h2, h3, h4⟩ := h
  exact ⟨A, cap, olds, h1, h2, h3, h4.mono hF⟩
theorem MemF.move {F : Nat → Prop} {W W1 : World} {p : Nat} {L : Int} {P : List Pl} (h : MemF F W p L P) (hw : ∀ k, F k → W1.heap[k]? = W.heap[k]?) : MemF F W1 p L P := by
  obtain ⟨A, cap, olds, h1, h2, h3, h4⟩ := h
  exact ⟨A, cap, olds, h1, h2, h3, h4.move hw⟩
theorem MemF.below {F : Nat → Prop} {W W1 : World} {p : Nat} {L : Int} {P : List Pl} (h : MemF F W p L P) (hF : ∀ k, F k → k < W.heap.size) (hb : Below W.heap.size W W1) : MemF F W1 p L P := h.move (fun k hk => hb.block k (hF k hk))
/-- An empty memory, newly made. -/
theorem MemF.empty (W : World) (L : Int) : MemF (Bt W.heap.size (W.heap.size + 1)) (W.alloc (.cells #[.int .i64 L, .slice none 0 0] 87)) W.heap.size L [] :=
  ⟨none, 0, [], by simp, by simp, fun _ => rfl, fun W' hW => ⟨by rw [hW _ ⟨Nat.le_refl _, Nat.lt_succ_self _⟩]; exact heap_alloc_new W _, Reps.none _ _, fun b hb => by cases hb⟩⟩

/-- append(places[:n:n], own), told by blocks. -/
theorem step_grow_plF {ops : Array Oper} {o : Oper} {a : Act} {w : World} {K : Act → World → Prop} {Q : Exit → Act → World → Prop}
    (hg : o.guard = none) (s x : Operand) (hop : o.op = Op.call { callee := Callee.builtin Builtin.append, args := #[s, x], argTypes := #[85, 85] })
    (A : Option Addr) (P : List Pl) (olds : List Value) (hA : A = none → P = []) (hr : Reps (KPl.K w) 2 P olds) (hcell : ∀ b, A = some b → ∀ j u, olds[j]? = some u → w.cell? (b.add j) = some u) (hs : a.eval s = .slice A P.length P.length) (box : Addr) (u v : Value) (hx : a.eval x = .slice (some box) 1 1) (c0 : w.cell? (box.add 0) = some u) (c1 : w.cell? (box.add 1) = some v) (own : Pl) (hown : KPl.K w own [u, v]) (hlen : P.length ≤ 1000)
    (h : ∀ A' c' w', w'.ownsRow w.heap.size 106 2 (.slice A' (P ++ [own]).length c') (P ++ [own]).length (olds ++ [u, v]) → Below w.heap.size w w' → K (a.put o.dst (.slice A' (P ++ [own]).length c')) w') :
    if Region.wanted o (yielded ops a.tmps) = true then Oper.wp Tryz.prog o a w K Q else K (a.put o.dst undef) w := by
  obtain ⟨i0, hi, hz0, hz1, hz2⟩ := info_parts infoPl
  have hone := KPl.K_one hown
  have hnone : A = none → P.length = 0 ∧ P.length = 0 := by
    intro hA'
    have h0 : P.length = 0 := by rw [hA hA']; rfl
    exact ⟨h0, h0⟩
  refine step_append_grows hg s x 85 hop 106 i0 (.agg #[.slice none 0 0, .slice none 0 0]) 2 48 Tryz.underlying85 hi hz0 hz1 hz2 (by rfl) (by decide) A P.length P.length olds hs hnone hr.1 hcell box 1 1 [u, v] hx rfl (fun j q hj => ?_) hone (by omega) (by simp only [maxLen]; omega) (by omega) ?_
  · match j, hj with
    | 0, hj => obtain rfl : u = q := by simpa using hj
               exact c0
    | 1, hj => obtain rfl : v = q := by simpa using hj
               exact c1
    | j + 2, hj => simp at hj
  · intro v' w' hown' hg'
    have hb : Below w.heap.size w w' := (Below.refl w.heap.size w).grown hg' (Nat.le_refl _) (fun k hk => by cases hk)
    have hO : OwnRow (KPl.K w) 106 2 w' w.heap.size v' (P ++ [own]) := ⟨olds ++ [u, v], by rw [List.length_append]; exact hown', Reps.snoc hr hown rfl⟩
    obtain ⟨A', c', rfl, hl, hrd⟩ := hO.reads
    have e9 : (P ++ [own]).length = P.length + 1 := by rw [List.length_append]; rfl
    rw [← e9] at hown'
    exact h A' c' w' hown' hb
/-- What an appended row of places, and its memory, are, told by blocks. -/
theorem memF_grown {F : Nat → Prop} {W w w' : World} {A' : Option Addr} {P : List Pl} {own : Pl} {olds : List Value} {u v : Value} {c' : Nat} {L : Int}
    (hF : ∀ k, F k → k < W.heap.size) (hold : Ft F W (fun W' => Reps (KPl.K W') 2 P olds)) (hWw : Below W.heap.size W w) (hlen : P.length ≤ 1000)
    (hnew : Ft (Bt W.heap.size w.heap.size) w (fun W' => KPl.K W' own [u, v]))
    (ho : w'.ownsRow w.heap.size 106 2 (.slice A' (P ++ [own]).length c') (P ++ [own]).length (olds ++ [u, v])) (hb : Below w.heap.size w w') :
    MemF (FU F (Bt W.heap.size (w'.heap.size + 1))) (w'.alloc (.cells #[.int .i64 L, .slice A' (P ++ [own]).length c'] 87)) w'.heap.size L (P ++ [own]) := by
  have hl1 : (P ++ [own]).length = P.length + 1 := by rw [List.length_append]; rfl
  have hA : A' = none → P ++ [own] = [] := by
    rintro rfl
    rcases ho.2 with ⟨-, h0⟩ | ⟨g, cap, cur, he, -⟩
    · exact List.eq_nil_of_length_eq_zero h0
    · injection he with he; cases he
  have hcap : (P ++ [own]).length ≤ c' := by
    rcases ho.2 with ⟨he, h0⟩ | ⟨g, cap, cur, he, h1, h2, h3, h4, h5⟩
    · injection he with _ h6 h7; omega
    · injection he with _ h6 h7; omega
  refine ⟨A', c', olds ++ [u, v], hcap, by omega, hA, fun W' hW => ?_⟩
  have hsz : w.heap.size ≤ w'.heap.size := hb.size
  have hal : ∀ k, k < w'.heap.size → (w'.alloc (.cells #[.int .i64 L, .slice A' (P ++ [own]).length c'] 87)).heap[k]? = w'.heap[k]? := fun k hk => Below.heap_alloc _ _ _ hk
  have hs1 := hWw.size
  refine ⟨by rw [hW _ (.inr ⟨by omega, Nat.lt_succ_self _⟩)]; exact heap_alloc_new w' _, ?_, ?_⟩
  · refine Reps.snoc (hold W' (fun k hk => ?_)) (hnew W' (fun k hk => ?_)) rfl
    · have h1 := hF k hk
      rw [hW k (.inl hk), hal k (by omega), hb.block k (by omega), hWw.block k h1]
    · rw [hW k (.inr ⟨hk.1, by have := hk.2; omega⟩), hal k (by have := hk.2; omega), hb.block k hk.2]
  · intro b hb' j q hj
    have ho' : W'.ownsRow w.heap.size 106 2 (.slice A' (P ++ [own]).length c') (P ++ [own]).length (olds ++ [u, v]) := own_move ho (fun k hk => by
      have h1 := own_base ho k hk
      have h2 := own_lt ho k hk
      rw [hW k (.inr ⟨by omega, by omega⟩), hal k h2])
    subst hb'
    rcases ho.2 with ⟨he, -⟩ | ⟨g, cap, cur, he, -⟩
    · injection he with he; cases he
    · injection he with he
      injection he with he
      subst he
      exact ho'.cells (g := g) rfl j _ hj

/-- .. all of them there. -/
def MemG (F : Nat → Prop) (W : World) (p : Nat) (L : Int) (P : List Pl) : Prop := MemF F W p L P ∧ ∀ k, F k → k < W.heap.size
theorem MemG.below {F : Nat → Prop} {W W1 : World} {p : Nat} {L : Int} {P : List Pl} (h : MemG F W p L P) (hb : Below W.heap.size W W1) : MemG F W1 p L P := ⟨h.1.below h.2 hb, fun k hk => Nat.lt_of_lt_of_le (h.2 k hk) hb.size⟩
theorem MemG.mem {F : Nat → Prop} {W : World} {p : Nat} {L : Int} {P : List Pl} (h : MemG F W p L P) : MemP W p L P := h.1.mem
theorem MemG.wide {F F' : Nat → Prop} {W : World} {p : Nat} {L : Int} {P : List Pl} (h : MemG F W p L P) (hF : ∀ k, F k → F' k) (hF' : ∀ k, F' k → k < W.heap.size) : MemG F' W p L P := ⟨h.1.mono hF, hF'⟩
/-- Another row has grown. -/
theorem MemG.grown {F : Nat → Prop} {W W1 : World} {row : Option Nat} {p : Nat} {L : Int} {P : List Pl} (h : MemG F W p L P) (hg : W.grownBy W1 row) (hr : ∀ k, F k → some k ≠ row) : MemG F W1 p L P := ⟨h.1.move (fun k hk => hg.block k (h.2 k hk) (hr k hk)), fun k hk => Nat.lt_of_lt_of_le (h.2 k hk) hg.size⟩
theorem memF_nil {W : World} {p : Nat} {L : Int} (h : MemP W p L []) : MemG (fun k => k = p) W p L [] := by
  obtain ⟨A, cap, h1, h2, h3⟩ := h
  refine ⟨⟨A, cap, [], by simp, by simp, fun _ => rfl, fun W' hW => ⟨by rw [hW p rfl]; exact h1, Reps.none _ _, fun b hb j u hu => by simp at hu⟩⟩, fun k hk => ?_⟩
  subst hk
  rcases Nat.lt_or_ge k W.heap.size with h | h
  · exact h
  · rw [Array.getElem?_eq_none h] at h1; cases h1
theorem anewG_any (n : Int) (W : World) : Calls Tryz.prog 27 #[.int .i64 n] W fun e w' => ∃ p, e = .returned (.pointer (some ⟨p, 0, none⟩)) ∧ MemG (Bt W.heap.size w'.heap.size) w' p (min (max n 0) 4) [] ∧ Below W.heap.size W w' := by
  have hm : MemG (Bt W.heap.size (W.alloc (.cells #[.int .i64 (min (max n 0) 4), .slice none 0 0] 87)).heap.size) (W.alloc (.cells #[.int .i64 (min (max n 0) 4), .slice none 0 0] 87)) W.heap.size (min (max n 0) 4) [] :=
    ⟨(MemF.empty W _).mono (fun k hk => ⟨hk.1, by have := hk.2; simpa using this⟩), fun k hk => hk.2⟩
  have hb : Below W.heap.size W (W.alloc (.cells #[.int .i64 (min (max n 0) 4), .slice none 0 0] 87)) := below_alloc (Below.refl _ W) _
  obtain ⟨L, hL⟩ : ∃ L, min (max n 0) 4 = L := ⟨_, rfl⟩
  rw [hL] at hm hb ⊢
  have HM := Lib.hid hm
  have HB := Lib.hid hb
  have hL' : (if (if n < 0 then (0:Int) else n) < 4 then (if n < 0 then (0:Int) else n) else 4) = L := by
    rw [← hL]; split <;> split <;> omega
  clear hm hb
  go_enter Tryz.func27, Tryz.ntmps27
  go_wp2_with fail
  go_ret
  exact ⟨_, rfl, HM.out, HB.out⟩
theorem own_Ft {wn wr w : World} {u v : Value} {KK VV : List (List Int)} (h : TW wn.heap.size wr u v KK VV) (hb : Below wr.heap.size wr w) : Ft (Bt wn.heap.size w.heap.size) w (fun W' => KPl.K W' (KK, VV) [u, v]) := by
  intro W' hW
  have key : ∀ k, wn.heap.size ≤ k ∧ k < wr.heap.size → W'.heap[k]? = wr.heap[k]? := fun k hk => (hW k ⟨hk.1, Nat.lt_of_lt_of_le hk.2 hb.size⟩).trans (hb.block k hk.2)
  have h1 := Kd.R_move (w1 := W') (Kd.R_bound h.hu) (fun k hk => key k ⟨hk.2.1, hk.2.2.1⟩)
  have h2 := Kd.R_move (w1 := W') (Kd.R_bound h.hv) (fun k hk => key k ⟨hk.2.1, hk.2.2.1⟩)
  obtain ⟨A1, c1, e1, l1, C1⟩ := Kd.R_reads h1
  obtain ⟨A2, c2, e2, l2, C2⟩ := Kd.R_reads h2
  exact ⟨[u], [v], rfl, ⟨A1, c1, by rw [e1], l1, C1⟩, ⟨A2, c2, by rw [e2], l2, C2⟩⟩

end Go.Proofs.YtdfgmdmcdnnhfaaGreat
