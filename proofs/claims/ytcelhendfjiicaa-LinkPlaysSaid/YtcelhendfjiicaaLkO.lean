/- (*Link).Send. -/
import Derived.Test.YtcelhendfjiicaaLkN
import Derived.Deep.RegionHeld3
namespace Go.Proofs.Ytcelhendfjiicaa
open Go.RowKit Go.Shelf Go.Proofs.YtcelhendfjiicaaW.PrintWords Go.Proofs.YtcelhendfjiicaaW.PrintLast Go.Proofs.YtcelhendfjiicaaW.PrintMore
set_option linter.unusedVariables false
set_option linter.unusedSimpArgs false
set_option maxRecDepth 100000
attribute [local go_sem] gb_max2 gb_min2 gb_max_two gb_min_two gb_max_three gb_min_three

theorem up_in {n : Int} (h0 : 0 ≤ n) (h1 : n ≤ 4294967295) : 0 ≤ up n 1 ∧ up n 1 ≤ 4294967295 := by unfold up; omega

theorem Lk.below {W W' : World} {base p : Nat} {room : Int} {bss : List (List Int)} {s c d t : Int} (h : Lk W base p room bss s c d t) (hb : Below W.heap.size W W') : Lk W' base p room bss s c d t := by
  obtain ⟨hp, v, hh, hT⟩ := h
  exact ⟨hp, v, blk_below hh hb, Kd.R_below hT hb⟩
theorem Tx.set {W : World} {base p : Nat} {v : Value} {bss : List (List Int)} {cs : Array Value} (h : Tx W base v bss) (hh : W.heap[p]? = some (.cells cs 83 (0, 0))) (j : Nat) (u : Value) : Tx (W.setCell ⟨p, j, none⟩ u) base v bss :=
  Kd.R_set h hh (by decide) j u
theorem Lk.putS {W : World} {base p : Nat} {room : Int} {bss : List (List Int)} {s c d t : Int} (h : Lk W base p room bss s c d t) (s' : Int) : Lk ((W.setCell ⟨p, 2, none⟩ (.int .u32 s')).setCell ⟨p, 3, none⟩ (.int .u32 4294967295)) base p room bss s' c d t := by
  obtain ⟨hp, v, hh, hT⟩ := h
  exact ⟨hp, v, blk_set (blk_set hh 2 _) 3 _, (hT.set hh 2 _).set (blk_set hh 2 _) 3 _⟩
theorem Lk.putC {W : World} {base p : Nat} {room : Int} {bss : List (List Int)} {s c d t : Int} (h : Lk W base p room bss s c d t) (c' : Int) : Lk ((W.setCell ⟨p, 4, none⟩ (.int .u32 c')).setCell ⟨p, 5, none⟩ (.int .u32 4294967295)) base p room bss s c' d t := by
  obtain ⟨hp, v, hh, hT⟩ := h
  exact ⟨hp, v, blk_set (blk_set hh 4 _) 5 _, (hT.set hh 4 _).set (blk_set hh 4 _) 5 _⟩
theorem Lk.putD {W : World} {base p : Nat} {room : Int} {bss : List (List Int)} {s c d t : Int} (h : Lk W base p room bss s c d t) (d' : Int) : Lk ((W.setCell ⟨p, 6, none⟩ (.int .u32 d')).setCell ⟨p, 7, none⟩ (.int .u32 4294967295)) base p room bss s c d' t := by
  obtain ⟨hp, v, hh, hT⟩ := h
  exact ⟨hp, v, blk_set (blk_set hh 6 _) 7 _, (hT.set hh 6 _).set (blk_set hh 6 _) 7 _⟩
theorem Lk.putT {W : World} {base p : Nat} {room : Int} {bss : List (List Int)} {s c d t : Int} (h : Lk W base p room bss s c d t) (t' : Int) : Lk ((W.setCell ⟨p, 8, none⟩ (.int .u32 t')).setCell ⟨p, 9, none⟩ (.int .u32 4294967295)) base p room bss s c d t' := by
  obtain ⟨hp, v, hh, hT⟩ := h
  exact ⟨hp, v, blk_set (blk_set hh 8 _) 9 _, (hT.set hh 8 _).set (blk_set hh 8 _) 9 _⟩
/-- What the cells of a link are. -/
theorem Lk.at_ {W : World} {base p : Nat} {room : Int} {bss : List (List Int)} {s c d t : Int} (h : Lk W base p room bss s c d t) : p < W.heap.size ∧ W.cell? ⟨p, 0, none⟩ = some (.int .i64 room) ∧ (∃ A k, W.cell? ⟨p, 1, none⟩ = some (.slice A bss.length k) ∧ bss.length ≤ k ∧ Tx W base (.slice A bss.length k) bss) ∧
    (W.cell? ⟨p, 2, none⟩ = some (.int .u32 s) ∧ W.cell? ⟨p, 3, none⟩ = some (.int .u32 4294967295)) ∧ (W.cell? ⟨p, 4, none⟩ = some (.int .u32 c) ∧ W.cell? ⟨p, 5, none⟩ = some (.int .u32 4294967295)) ∧
    (W.cell? ⟨p, 6, none⟩ = some (.int .u32 d) ∧ W.cell? ⟨p, 7, none⟩ = some (.int .u32 4294967295)) ∧ (W.cell? ⟨p, 8, none⟩ = some (.int .u32 t) ∧ W.cell? ⟨p, 9, none⟩ = some (.int .u32 4294967295)) := by
  obtain ⟨hp, v, hh, hT⟩ := h
  obtain ⟨A, k, rfl, hk, -⟩ := Kd.R_reads hT
  refine ⟨blk_lt hh, ?_, ⟨A, k, ?_, hk, hT⟩, ⟨?_, ?_⟩, ⟨?_, ?_⟩, ⟨?_, ?_⟩, ⟨?_, ?_⟩⟩ <;> rw [blk_cell hh] <;> rfl
theorem Lk.frz {W : World} {base p : Nat} {room : Int} {bss : List (List Int)} {s c d t : Int} (h : Lk W base p room bss s c d t) (j : Nat) : W.frozen? ⟨p, j, none⟩ = false := by
  obtain ⟨hp, v, hh, hT⟩ := h
  exact blk_frozen hh j

/-- What the append to the list leaves of the link's block. -/
theorem lk_app {W4 w5 : World} {p : Nat} {cs : Array Value} {base : Nat} {v : Value} {bss : List (List Int)} (hh : W4.heap[p]? = some (.cells cs 83 (0, 0))) (hT : Tx W4 base v bss) (hg : W4.grownBy w5 v.ownBlock) : w5.heap[p]? = some (.cells cs 83 (0, 0)) :=
  blk_grown hh hg (Kd.R_ne hT hh (by decide))
/-- Of the elder blocks none but p has turned. -/
def KB (p : Nat) (W W' : World) : Prop := W.heap.size ≤ W'.heap.size ∧ ∀ k, k < W.heap.size → k ≠ p → W'.heap[k]? = W.heap[k]?
theorem KB.of {p : Nat} {W W' : World} (h : Below W.heap.size W W') : KB p W W' := ⟨h.size, fun k hk _ => h.block k hk⟩
theorem KB.trans {p : Nat} {W W' W'' : World} (h : KB p W W') (h' : KB p W' W'') : KB p W W'' := ⟨Nat.le_trans h.1 h'.1, fun k hk hp => (h'.2 k (Nat.lt_of_lt_of_le hk h.1) hp).trans (h.2 k hk hp)⟩
theorem KB.set {p : Nat} {W W' : World} (h : KB p W W') (j : Nat) (u : Value) : KB p W (W'.setCell ⟨p, j, none⟩ u) := ⟨by simpa [World.setCell] using h.1, fun k hk hp => (Below.heap_setCell _ _ _ k hp).trans (h.2 k hk hp)⟩
def CloneR (bs : List Int) (w : World) (e : Ending) (w' : World) : Prop := ∃ v, e = .returned v ∧ (Kd.int .u8).R 5 w' w.heap.size (fun _ => True) v bs ∧ Below w.heap.size w w'

/-- Send's answer. -/
def SendR (W : World) (base p : Nat) (room : Int) (bss : List (List Int)) (s c d t : Int) (bs : List Int) (e : Ending) (w' : World) : Prop :=
  if (bss.length : Int) = room then e = .returned (.int .i64 9) ∧ Lk w' base p room bss (up s 1) c (up d 1) t ∧ Below base W w'
  else e = .returned (.int .i64 0) ∧ Lk w' base p room (bss ++ [bs]) (up s 1) c d t ∧ Below base W w'

set_option maxRecDepth 100000 in
set_option maxHeartbeats 1000000 in
theorem send_any (W : World) (base p : Nat) (room : Int) (bss : List (List Int)) (s c d t : Int) (h : Lk W base p room bss s c d t) (hr : 0 < room) (hn : bss.length ≤ 1000000) (hs0 : 0 ≤ s) (hs1 : s ≤ 4294967295) (hd0 : 0 ≤ d) (hd1 : d ≤ 4294967295)
    (A : Option Addr) (k : Nat) (bs : List Int) (hx : ∀ W', KB p W W' → (Kd.int .u8).C W' A bs.length bs) (hc : bs.length ≤ k) (hl : bs.length ≤ 100000000) :
    Calls Try.prog 12 #[.pointer (some ⟨p, 0, none⟩), .slice A bs.length k] W (SendR W base p room bss s c d t bs) := by
  have HLK := Lib.hid h
  have hbp := h.1
  have HX := Lib.hid hx
  obtain ⟨hpl, -, -, ⟨k2, k3⟩, -⟩ := h.at_
  obtain ⟨n, hnn⟩ : ∃ n, bss.length = n := ⟨_, rfl⟩
  obtain ⟨m, hmm⟩ : ∃ m, bs.length = m := ⟨_, rfl⟩
  have HN := Lib.hid hnn
  have HM := Lib.hid hmm
  unfold SendR
  rw [hnn] at hn ⊢
  rw [hmm] at hc hl ⊢
  clear h hx hnn hmm
  go_enter Try.func12, Try.ntmps12
  go_wp2_with fail
  refine (lok_any W base p room bss s c d t HLK.out hr).mono ?_
  rintro e w' ⟨rfl, rfl⟩
  go_wp2_with fail
  refine (up_any s 1 W hs0 hs1 (by omega) (by omega)).mono ?_
  unfold ctr
  rintro e w1 ⟨rfl, hb1⟩
  have HL1 := Lib.hid (HLK.out.below hb1)
  have HE1 := Lib.hid hb1
  clear k2 k3
  obtain ⟨u, hu⟩ : ∃ u, up s 1 = u := ⟨_, rfl⟩
  rw [hu]
  have HU := Lib.hid hu
  clear hu hb1
  obtain ⟨-, -, -, ⟨k2, k3⟩, -⟩ := HL1.out.at_
  have f2 := HL1.out.frz 2
  have f3 := HL1.out.frz 3
  go_wp2_with fail
  obtain ⟨W2, hW2⟩ : ∃ W2, (w1.setCell ⟨p, 2, none⟩ (.int .u32 u)).setCell ⟨p, 3, none⟩ (.int .u32 4294967295) = W2 := ⟨_, rfl⟩
  have hL2 := HL1.out.putS u
  have hB2 : Below base W W2 := by
    rw [← hW2]
    exact ((HE1.out.mono (by omega)).setCell (p := ⟨p, 2, none⟩) hbp _).setCell (p := ⟨p, 3, none⟩) hbp _
  have HK2 := Lib.hid (show KB p W W2 by rw [← hW2]; exact ((KB.of HE1.out).set 2 _).set 3 _)
  rw [hW2] at hL2 ⊢
  obtain ⟨-, k0, ⟨A1, c1, k1, hc1, hT⟩, -, -, ⟨k6, k7⟩, -⟩ := hL2.at_
  have f6 := hL2.frz 6
  have f7 := hL2.frz 7
  rw [HN.out] at k1 hc1 hT
  have HL2 := Lib.hid hL2
  have HB2 := Lib.hid hB2
  have HT2 := Lib.hid hT
  clear k2 k3 f2 f3 hW2 hL2 hB2 hT
  by_cases hf : (n : Int) = room
  · have g0 : ((n : Int) == room) = true := by simpa using hf
    have HF := Lib.hid hf
    clear hf
    go_quiet (fail)
    go_wp2_with fail
    refine (up_any d 1 _ hd0 hd1 (by omega) (by omega)).mono ?_
    unfold ctr
    rintro e w3 ⟨rfl, hb3⟩
    have HL3 := Lib.hid ((HL2.out.below (pw_below_drewN (Below.refl _ _) nq)).below hb3)
    have HB3 := Lib.hid (HB2.out.trans ((pw_below_drewN (Below.refl base W2) nq).trans (hb3.mono (Nat.le_trans hbp (Nat.le_of_lt HL2.out.at_.1)))))
    obtain ⟨u2, hu⟩ : ∃ u2, up d 1 = u2 := ⟨_, rfl⟩
    rw [hu]
    have HU2 := Lib.hid hu
    clear hu hb3 k0 k1 k6 k7 f6 f7
    obtain ⟨-, -, -, -, -, ⟨k6, k7⟩, -⟩ := HL3.out.at_
    have f6 := HL3.out.frz 6
    have f7 := HL3.out.frz 7
    go_wp2_with fail
    go_ret
    try rw [if_pos HF.out]
    rw [HU.out, HU2.out]
    exact ⟨rfl, HL3.out.putD u2, (HB3.out.setCell (p := ⟨p, 6, none⟩) hbp _).setCell (p := ⟨p, 7, none⟩) hbp _⟩
  · have g0 : ((n : Int) == room) = false := by simpa using hf
    have HF := Lib.hid hf
    clear hf
    go_quiet (fail)
    go_wp2_with fail
    obtain ⟨W3, hW3⟩ : ∃ W3, W2.drewN nq = W3 := ⟨_, rfl⟩
    have hb3 : Below W2.heap.size W2 W3 := by rw [← hW3]; exact pw_below_drewN (Below.refl _ W2) nq
    have hL3 := HL2.out.below hb3
    have hT3 : Tx W3 base (.slice A1 n c1) bss := Kd.R_below HT2.out hb3
    have hB3 : Below base W W3 := HB2.out.trans (hb3.mono (Nat.le_trans hbp (Nat.le_of_lt HL2.out.at_.1)))
    obtain ⟨-, v3, hh3, -⟩ := hL3
    have hv3 : v3 = .slice A1 n c1 := by
      have e1 : W3.cell? ⟨p, 1, none⟩ = some v3 := by rw [blk_cell hh3]; rfl
      have e2 : W3.cell? ⟨p, 1, none⟩ = some (.slice A1 n c1) := by rw [← hW3]; exact k1
      rw [e1] at e2; exact Option.some.inj e2
    subst hv3
    rw [hW3]
    have HCL := Lib.hid (fun (W' : World) (hb : KB p W W') => show Calls Try.prog 44 #[.slice A m k] W' (CloneR bs W') by
      have h := clone8_any A k bs W' (HX.out W' hb) (by rw [HM.out]; exact hc) (by rw [HM.out]; exact hl)
      rw [HM.out] at h; exact h)
    have HH3 := Lib.hid hh3
    have HT3 := Lib.hid hT3
    have HB3 := Lib.hid hB3
    have HBW := Lib.hid (HK2.out.trans (KB.of hb3))
    obtain ⟨inner, hown⟩ := Kd.R_own hT3
    have HOWN := Lib.hid hown
    have hbs : base ≤ W3.heap.size := Nat.le_trans hbp (Nat.le_of_lt (blk_lt hh3))
    clear hown
    have q1 : W3.cell? ⟨p, 1, none⟩ = some (.slice A1 n c1) := by rw [blk_cell hh3]; rfl
    clear k0 k1 k6 k7 f6 f7 hb3 hT3 hB3 hh3 hW3
    go_region_law (first
      | (refine Kd.R_append_step (Kd.slice 5 (Kd.int .u8)) (w0 := W3) (W := w4) base rfl _ _ 22 28 (.slice none 0 0) 24 rfl Try.underlying22 infoBytes rfl (by decide) (by decide) (.slice A1 n c1) bss bs [.slice A4 bs.length c4] (fun _ => True) (fun k => True ∧ some k ≠ (Value.slice A1 n c1).ownBlock) rfl rfl ⟨_, rfl, Kd.R_lower (Kd.R_new HR4.out HOWN.out) hbs⟩ (fun k hk => hk) (fun _ _ => trivial) (Kd.R_below HT3.out HB4.out) (HB4.out.mono hbs) (Nat.le_trans hbs HB4.out.size) (by rw [HN.out]; omega) ?_; intro v5 w5 hr5 hb5 hg5 hat5; obtain ⟨A5, c5, hv5, -, -⟩ := Kd.R_reads hr5; subst hv5; have HR5 := Lib.hid hr5; have HB5 := Lib.hid hb5; have HH5 := Lib.hid (lk_app (blk_below HH3.out HB4.out) (Kd.R_below HT3.out HB4.out) hg5); have q5 : w5.cell? ⟨p, 1, none⟩ = some (.slice A1 n c1) := (by rw [blk_cell HH5.out]; rfl); have f5 := blk_frozen HH5.out 1)
      | (go_simp; go_at_call 44; refine (HCL.out _ ?_).mono ?_; (first | exact HBW.out | exact ⟨HBW.out.1, HBW.out.2⟩); unfold CloneR; rintro e w4 ⟨v4, rfl, hr4, hb4⟩; obtain ⟨A4, c4, hv4, -, -⟩ := Kd.R_reads hr4; subst hv4; have HR4 := Lib.hid hr4; have HB4 := Lib.hid (show Below W3.heap.size W3 w4 from ⟨hb4.os, hb4.tape, hb4.output, hb4.size, hb4.block⟩); have q4 : w4.cell? ⟨p, 1, none⟩ = some (.slice A1 n c1) := (by rw [blk_cell (blk_below HH3.out HB4.out)]; rfl); have q4' : ∀ o : Obj, (w4.alloc o).cell? ⟨p, 1, none⟩ = some (.slice A1 n c1) := (fun o => by rw [blk_cell (blk_alloc (blk_below HH3.out HB4.out) o)]; rfl); clear hr4 hb4))
    all_goals
      go_wp2_with fail
      go_ret
      try rw [if_neg HF.out]
      rw [HU.out]
      have hT5 : Tx w5 base (.slice A5 (bss ++ [bs]).length c5) (bss ++ [bs]) := HR5.out
      rw [List.length_append, List.length_singleton] at hT5
      exact ⟨rfl, ⟨hbp, _, blk_set HH5.out 1 _, hT5.set HH5.out 1 _⟩, (HB3.out.trans HB5.out).setCell (p := ⟨p, 1, none⟩) hbp _⟩

end Go.Proofs.Ytcelhendfjiicaa
