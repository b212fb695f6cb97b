/- The document's link: Drop, Deliver, Later. -/
import Derived.Test.YtcelhendfjiicaaLnI
namespace Go.Proofs.Ytcelhendfjiicaa
open Go.RowKit Go.Shelf Go.Proofs.YtcelhendfjiicaaW.PrintWords Go.Proofs.YtcelhendfjiicaaW.PrintLast Go.Proofs.YtcelhendfjiicaaW.PrintMore
set_option linter.unusedVariables false
set_option linter.unusedSimpArgs false
set_option maxRecDepth 100000
attribute [local go_sem] gb_max2 gb_min2 gb_max_two gb_min_two gb_max_three gb_min_three
/-- The document's link, with its list. -/
def RF (W : World) (base q : Nat) (room : Int) (ts : List SlT) (s c d t : Int) : Prop := base ≤ q ∧ ∃ A k, Rf W q room (.slice A ts.length k) s c d t ∧ RvO W base (.slice A ts.length k) ts
section
variable {W W' : World} {base q : Nat} {room : Int} {ts : List SlT} {s c d t : Int}
theorem RF.below (h : RF W base q room ts s c d t) (hb : Below W.heap.size W W') : RF W' base q room ts s c d t := by
  obtain ⟨hq, A, k, h1, h2⟩ := h
  exact ⟨hq, A, k, h1.below hb, h2.below hb⟩
theorem RF.parts (h : RF W base q room ts s c d t) : ∃ A k, Rf W q room (.slice A ts.length k) s c d t ∧ RvO W base (.slice A ts.length k) ts ∧ ts.length ≤ k ∧ KTs.C W A ts.length ts ∧ base ≤ W.heap.size ∧ q < W.heap.size := by
  obtain ⟨hq, A, k, h1, h2⟩ := h
  obtain ⟨A', k', e, hk, hC⟩ := h2.reads
  injection e with e1 e2 e3
  subst e1 e3
  exact ⟨A, k, h1, h2, hk, hC, Nat.le_trans hq (Nat.le_of_lt h1.at_.1), h1.at_.1⟩
theorem C_at {A : Option Addr} {n : Nat} (hn : ts.length = n) (hC : KTs.C W A n ts) (i : Nat) (hi : i < n) : ∃ ad, A = some ad ∧ W.cell? (ad.add i) = some (encT (ts.getD i (none, 0, 0))) := by
  subst hn
  obtain ⟨ad, cs, e, hl, hK, hcell⟩ := Kd.C_get hC (none, 0, 0) (i : Int) (by omega) (by omega)
  have hi' : (i : Int).toNat = i := by omega
  rw [hi'] at hK hcell
  have hK' : cs = [encT (ts.getD i (none, 0, 0))] := hK
  subst hK'
  have h2 := hcell 0 _ rfl
  rw [show KTs.sz = 1 from rfl, Nat.mul_one, Nat.add_zero] at h2
  exact ⟨ad, e, h2⟩
/-- The list's value is the same, or of a new block. -/
def RN (W w' : World) (q : Nat) : Prop := ∀ v, w'.cell? ⟨q, 1, none⟩ = some v → W.cell? ⟨q, 1, none⟩ = some v ∨ ∀ kk, v.ownBlock = some kk → W.heap.size ≤ kk
theorem RN.refl (W : World) (q : Nat) : RN W W q := fun _ h => .inl h
theorem RN.bel {w2 : World} (h : RN W W' q) (hR : RF W' base q room ts s c d t) (hb : Below W'.heap.size W' w2) : RN W w2 q := by
  intro v hv
  refine h v ?_
  obtain ⟨-, A, k, h1, -⟩ := hR
  have h2 := h1.below hb
  rw [h2.at_.2.2.1] at hv
  rw [h1.at_.2.2.1]; exact hv
theorem RN.put (h : RN W W' q) (hR : RF W' base q room ts s c d t) (j : Nat) (u : Value) (hj : j ≠ 1) : RN W (W'.setCell ⟨q, j, none⟩ u) q := by
  intro v hv
  refine h v ?_
  obtain ⟨-, A, k, h1, -⟩ := hR
  have h2 := blk_set h1 j u
  rw [blk_cell h2] at hv
  rw [blk_cell h1]
  rw [← hv]
  simp [Array.getElem?_setIfInBounds, hj]
def RfP (W : World) (base q : Nat) (room : Int) (ts : List SlT) (s c d t : Int) (w' : World) : Prop := RF w' base q room ts s c d t ∧ Lg q none W w' ∧ RN W w' q
theorem rhas_yes (h : RF W base q room ts s c d t) (i : Nat) (hi : i < ts.length) : Calls Try.prog 52 #[.pointer (some ⟨q, 0, none⟩), .int .i64 i] W fun e w' => e = .returned (.bool true) ∧ W = w' := by
  obtain ⟨A, k, h1, -⟩ := h.parts
  have h2 := rhas_any W q room A ts.length k s c d t h1 i
  rwa [decide_eq_true (show (0 : Int) ≤ i by omega), decide_eq_true (show (i : Int) < ts.length by omega)] at h2
theorem rhas_no (h : RF W base q room ts s c d t) (i : Int) (hi : i < 0 ∨ (ts.length : Int) ≤ i) : Calls Try.prog 52 #[.pointer (some ⟨q, 0, none⟩), .int .i64 i] W fun e w' => e = .returned (.bool false) ∧ W = w' := by
  obtain ⟨A, k, h1, -⟩ := h.parts
  have h2 := rhas_any W q room A ts.length k s c d t h1 i
  by_cases h0 : 0 ≤ i
  · rwa [decide_eq_true h0, decide_eq_false (show ¬ i < (ts.length : Int) by omega)] at h2
  · rwa [decide_eq_false h0] at h2
theorem rwith_in (h : RF W base q room ts s c d t) (hn9 : ts.length ≤ 1000000) (i : Nat) (hi : i < ts.length) : Calls Try.prog 53 #[.pointer (some ⟨q, 0, none⟩), .int .i64 i] W (WoR W (ersT ts i)) := by
  obtain ⟨A, k, h1, -, hk, hC, -⟩ := h.parts
  exact rwithout_any W q room A ts.length k s c d t h1 ts rfl hk hn9 hC i hi
/-- The list turned for another. -/
theorem RF.turn (h : RF W base q room ts s c d t) (hb : Below W.heap.size W W') {A : Option Addr} {k : Nat} {us : List SlT} (hu : RvO W' W.heap.size (.slice A us.length k) us) : RfP W base q room us s c d t (W'.setCell ⟨q, 1, none⟩ (.slice A us.length k)) := by
  obtain ⟨A0, k0, h1, h2, -, -, hbs, -⟩ := h.parts
  have h1' := h1.below hb
  refine ⟨⟨h.1, A, k, h1'.putL _, (hu.lower hbs).far h1' 1 _⟩, ((Lg.refl q none W).bel hb).put 1 _, fun v hv => .inr (fun kk hkk => ?_)⟩
  have h9 := (h1'.putL (.slice A us.length k)).at_.2.2.1
  rw [h9] at hv
  injection hv with hv
  subst hv
  rcases own_base' (Kd.own_of_R (enc := encT) (h1 := fun _ => rfl) hu) with hb9 | ⟨k2, hb9, hle⟩
  · rw [hb9] at hkk; cases hkk
  · rw [hb9] at hkk; injection hkk with hkk; omega
end
set_option maxHeartbeats 1000000 in
theorem rdrop_in (W : World) (base q : Nat) (room : Int) (ts : List SlT) (s c d t : Int) (h : RF W base q room ts s c d t) (hn9 : ts.length ≤ 1000000) (hd0 : 0 ≤ d) (hd1 : d ≤ 4294967295) (i : Nat) (hi : i < ts.length) :
    Calls Try.prog 32 #[.pointer (some ⟨q, 0, none⟩), .int .i64 i] W fun e w' => e = .returned (.int .i64 0) ∧ RfP W base q room (ersT ts i) s c (up d 1) t w' := by
  have HH := Lib.hid (rhas_yes h i hi)
  have HWO := Lib.hid (rwith_in h hn9 i hi)
  have HUP := Lib.hid (fun W => rup_any d hd0 hd1 W)
  have HR := Lib.hid h
  unfold WoR at HWO
  obtain ⟨u, hu⟩ : ∃ u, up d 1 = u := ⟨_, rfl⟩
  rw [hu] at HUP ⊢
  clear h hu
  go_enter Try.func32, Try.ntmps32
  go_wp2_with fail
  refine HH.out.mono ?_
  rintro e w' ⟨rfl, rfl⟩
  go_wp2_with fail
  refine HWO.out.mono ?_
  rintro e w1 ⟨A1, k1, rfl, ho, hb⟩
  have HP := Lib.hid (HR.out.turn hb ho)
  obtain ⟨A0, k0, h1, -⟩ := (HR.out.below hb).parts
  have q1 := h1.at_.2.2.1
  have f1 := h1.frz 1
  obtain ⟨m, hm⟩ : ∃ m, (ersT ts i).length = m := ⟨_, rfl⟩
  obtain ⟨m0, hm0⟩ : ∃ m, ts.length = m := ⟨_, rfl⟩
  rw [hm0] at q1
  rw [hm] at HP ⊢
  obtain ⟨w2, hw2⟩ : ∃ w2, w1.setCell ⟨q, 1, none⟩ (.slice A1 m k1) = w2 := ⟨_, rfl⟩
  rw [hw2] at HP
  obtain ⟨A3, k3, h3, -⟩ := HP.out.1.parts
  have q4 := h3.at_.2.2.2.2.2.1
  have f4 := h3.frz 4
  have HW2 := Lib.hid hw2
  rw [← hw2] at q4 f4
  clear ho hb h1 hm hm0 hw2 h3
  go_wp2_with fail
  refine (HUP.out _).mono ?_
  rintro e w' ⟨rfl, rfl⟩
  go_wp2_with fail
  go_ret
  refine ⟨rfl, ?_⟩
  rw [HW2.out]
  have hrn := HP.out.2.2.put HP.out.1 4 (.int .u32 u) (by decide)
  obtain ⟨⟨hq, A5, k5, h5, h6⟩, hl, -⟩ := HP.out
  exact ⟨⟨hq, A5, k5, h5.putD u, h6.far h5 4 _⟩, hl.put 4 _, hrn⟩
theorem rdrop_out (W : World) (base q : Nat) (room : Int) (ts : List SlT) (s c d t : Int) (h : RF W base q room ts s c d t) (i : Int) (hi : i < 0 ∨ (ts.length : Int) ≤ i) :
    Calls Try.prog 32 #[.pointer (some ⟨q, 0, none⟩), .int .i64 i] W fun e w' => e = .returned (.int .i64 6) ∧ W = w' := by
  have HH := Lib.hid (rhas_no h i hi)
  clear h hi
  go_enter Try.func32, Try.ntmps32
  go_wp2_with fail
  refine HH.out.mono ?_
  rintro e w' ⟨rfl, rfl⟩
  go_wp2_with fail
  go_ret
  exact ⟨rfl, rfl⟩
end Go.Proofs.Ytcelhendfjiicaa
