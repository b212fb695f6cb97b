/- A link's counts, what turns a text, and what clears it. -/
import Derived.Test.YtcelhendfjiicaaLnF
import Derived.Deep.RegionHeld3
namespace Go.Proofs.Ytcelhendfjiicaa
open Go.RowKit Go.Shelf Go.Proofs.YtcelhendfjiicaaW.PrintWords Go.Proofs.YtcelhendfjiicaaW.PrintLast Go.Proofs.YtcelhendfjiicaaW.PrintMore
set_option linter.unusedVariables false
set_option linter.unusedSimpArgs false
set_option maxRecDepth 100000
attribute [local go_sem] gb_max2 gb_min2 gb_max_two gb_min_two gb_max_three gb_min_three

theorem CtS.mkN {W w' : World} {R p : Nat} {base : Nat} {room : Int} {g : Option Nat} {vs : List Value} {s c d t : Int} (h : Ln W base p g room vs s c d t) (hb : Below W.heap.size W w') (hR : W.heap.size ≤ R) {cs : Array Value} (hs : cs.size = 4) (hh : w'.heap[R]? = some (.cells cs 77 (0, 0))) : CtS W R p s c d t w' := by
  obtain ⟨hp, -, -, ⟨a1, a2⟩, ⟨a3, a4⟩, ⟨a5, a6⟩, ⟨a7, a8⟩⟩ := (h.below hb).at_
  have hc : ∀ j, j < 4 → w'.cell? ⟨R, j, none⟩ = some (cv w' ⟨R, j, none⟩) := fun j hj => by
    have e : w'.cell? ⟨R, j, none⟩ = some cs[j] := by rw [blk_cell hh]; exact Array.getElem?_eq_getElem (by omega)
    unfold cv; rw [e]; rfl
  exact ⟨a1, a2, a3, a4, a5, a6, a7, a8, hc 0 (by omega), hc 1 (by omega), hc 2 (by omega), hc 3 (by omega), blk_frozen hh 0, blk_frozen hh 1, blk_frozen hh 2, blk_frozen hh 3, Lib.hid ⟨hb, h.at_.1, hR, cs, hs, hh⟩⟩
theorem CtS.stepN {W w' w2 : World} {R p : Nat} {s c d t : Int} {base : Nat} {room : Int} {g : Option Nat} {vs : List Value} (h : Ln W base p g room vs s c d t) (hS : CtS W R p s c d t w') (hb : Below w'.heap.size w' w2) : CtS W R p s c d t w2 := by
  obtain ⟨-, -, -, -, -, -, -, -, -, -, -, -, -, -, -, -, h5⟩ := hS
  obtain ⟨hbw, hp, hR, cs, hcs, hh⟩ := h5.out
  exact CtS.mkN h (below_then hbw hbw.size hb) hR hcs (blk_below hh hb)
theorem CtS.setN {W w' : World} {R p : Nat} {s c d t : Int} {base : Nat} {room : Int} {g : Option Nat} {vs : List Value} (h : Ln W base p g room vs s c d t) (hS : CtS W R p s c d t w') (j : Nat) (u : Value) : CtS W R p s c d t (w'.setCell ⟨R, j, none⟩ u) := by
  obtain ⟨-, -, -, -, -, -, -, -, -, -, -, -, -, -, -, -, h5⟩ := hS
  obtain ⟨hbw, hp, hR, cs, hcs, hh⟩ := h5.out
  exact CtS.mkN h (hbw.setCell (p := ⟨R, j, none⟩) hR u) hR (by simpa using hcs) (blk_set hh j u)

set_option maxRecDepth 100000 in
set_option maxHeartbeats 1000000 in
theorem lncounts_any (W : World) (base p : Nat) (g : Option Nat) (room : Int) (vs : List Value) (s c d t : Int) (h : Ln W base p g room vs s c d t) (hr : 0 < room) :
    Calls Try.prog 39 #[.pointer (some ⟨p, 0, none⟩)] W fun e w' => e = .returned (.agg #[.int .u32 s, .int .u32 c, .int .u32 d, .int .u32 t]) ∧ Below W.heap.size W w' := by
  have HLK := Lib.hid h
  clear h
  go_enter Try.func39, Try.ntmps39
  go_wp2_with fail
  refine (lnok_any _ base p g room vs s c d t (HLK.out.below ((Below.refl _ W).alloc (Nat.le_refl _) _)) hr).mono ?_
  rintro e w' ⟨rfl, rfl⟩
  obtain ⟨W0, hW0⟩ : ∃ W0, W.alloc (.cells #[.int .u32 0, .int .u32 0, .int .u32 0, .int .u32 0] 77) = W0 := ⟨_, rfl⟩
  obtain ⟨R, hR⟩ : ∃ R, W.heap.size = R := ⟨_, rfl⟩
  have hS : CtS W R p s c d t W0 := by
    rw [← hW0, ← hR]
    exact CtS.mkN HLK.out (below_alloc (Below.refl _ W) _) (Nat.le_refl _) rfl (heap_alloc_new _ _)
  rw [hW0, hR]
  have HRR := Lib.hid hR
  have HS := Lib.hid hS
  clear hW0 hR hS
  go_wp2_with fail
  go_region_held3 (fun w' => w'.cell? ⟨p, 2, none⟩ = some (.int .u32 s) ∧ w'.cell? ⟨p, 3, none⟩ = some (.int .u32 4294967295) ∧ w'.cell? ⟨p, 4, none⟩ = some (.int .u32 c) ∧ w'.cell? ⟨p, 5, none⟩ = some (.int .u32 4294967295) ∧
    w'.cell? ⟨p, 6, none⟩ = some (.int .u32 d) ∧ w'.cell? ⟨p, 7, none⟩ = some (.int .u32 4294967295) ∧ w'.cell? ⟨p, 8, none⟩ = some (.int .u32 t) ∧ w'.cell? ⟨p, 9, none⟩ = some (.int .u32 4294967295) ∧
    w'.cell? ⟨R, 0, none⟩ = some (cv w' ⟨R, 0, none⟩) ∧ w'.cell? ⟨R, 1, none⟩ = some (cv w' ⟨R, 1, none⟩) ∧ w'.cell? ⟨R, 2, none⟩ = some (cv w' ⟨R, 2, none⟩) ∧ w'.cell? ⟨R, 3, none⟩ = some (cv w' ⟨R, 3, none⟩) ∧
    w'.frozen? ⟨R, 0, none⟩ = false ∧ w'.frozen? ⟨R, 1, none⟩ = false ∧ w'.frozen? ⟨R, 2, none⟩ = false ∧ w'.frozen? ⟨R, 3, none⟩ = false ∧
    Hid (Below W.heap.size W w' ∧ p < W.heap.size ∧ W.heap.size ≤ R ∧ ∃ cs : Array Value, cs.size = 4 ∧ w'.heap[R]? = some (.cells cs 77 (0, 0))))
    (first | exact CtS.stepN HLK.out HS.out (below_drew (Below.refl _ _)) | exact CtS.stepN HLK.out (by assumption) (by assumption) | exact CtS.setN HLK.out (CtS.setN HLK.out (CtS.setN HLK.out (CtS.setN HLK.out (by assumption) 0 _) 1 _) 2 _) 3 _)
    (first
      | (go_at_call 57; refine (n_any _ _).mono ?_; rintro e w' ⟨rfl, hb⟩))
  all_goals
    rename_i u1 b1 u2 b2 u3 b3 hheld
    have hS9 : CtS W R p s c d t w' := CtS.stepN HLK.out (CtS.stepN HLK.out (CtS.stepN HLK.out (CtS.stepN HLK.out (CtS.stepN HLK.out HS.out (below_drew (Below.refl _ _))) b1) b2) b3) hb
    clear hheld
    obtain ⟨hbw, hp, hR, cs, hcs, hh⟩ := hS9.2.2.2.2.2.2.2.2.2.2.2.2.2.2.2.2.out
    obtain ⟨y0, y1, y2, y3, rfl⟩ : ∃ a b c d, cs = #[a, b, c, d] := ⟨cs[0], cs[1], cs[2], cs[3], by
      apply Array.ext
      · simpa using hcs
      · intro i h1 h2
        have h3 : i < 4 := by omega
        match i, h3 with
        | 0, _ => rfl
        | 1, _ => rfl
        | 2, _ => rfl
        | 3, _ => rfl⟩
    have HH := Lib.hid hh
    have HBW := Lib.hid hbw
    have HR := Lib.hid hR
    clear hbw hp hR hcs hh hS9
    go_wp2_with fail
    refine bodyPost_ret (results_cell_row rfl _ _ R 77 #[.int .u32 s, .int .u32 c, .int .u32 d, .int .u32 t] (0, 0) _ rfl (blk_set (blk_set (blk_set (blk_set HH.out 0 _) 1 _) 2 _) 3 _) Try.underlying77 rfl (by kernel_rfl)) rfl ?_
    exact ⟨rfl, (((HBW.out.setCell (p := ⟨R, 0, none⟩) HR.out _).setCell (p := ⟨R, 1, none⟩) HR.out _).setCell (p := ⟨R, 2, none⟩) HR.out _).setCell (p := ⟨R, 3, none⟩) HR.out _⟩


theorem Lg.putG {p b : Nat} {W W' : World} (h : Lg p (some b) W W') (j : Nat) (u : Value) : Lg p (some b) W (W'.setCell ⟨b, j, none⟩ u) :=
  ⟨h.os, h.tape, h.output, by simpa [World.setCell] using h.size, fun k hk hp hg => (Below.heap_setCell W' ⟨b, j, none⟩ u k (fun e => hg (by rw [e]))).trans (h.block k hk hp hg)⟩
theorem Ln.setV {W : World} {base p b : Nat} {room : Int} {vs : List Value} {s c d t : Int} (h : Ln W base p (some b) room vs s c d t) (i : Nat) (x : Value) (hx : SlV x) : Ln (W.setCell ⟨b, i, none⟩ x) base p (some b) room (vs.set i x) s c d t := by
  have hgb := h.gb b rfl
  obtain ⟨hp, h1, v, hg, hh, hT⟩ := h
  obtain ⟨A, k, rfl⟩ := own_slice hT
  have hT' := hT
  obtain ⟨-, ⟨h0, -⟩ | ⟨b', k', cur, e, -, -, -, -, -, -⟩⟩ := hT
  · rw [h0] at hg; simp [Value.ownBlock] at hg
  · injection e with e1 e2 e3
    subst e1
    have hbb : b' = b := by simpa [Value.ownBlock] using hg
    subst hbb
    refine ⟨hp, fun u hu => ?_, .slice (some ⟨b', 0, none⟩) vs.length k, hg, ?_, ?_⟩
    · rcases List.mem_or_eq_of_mem_set hu with hu | hu
      · exact h1 u hu
      · rw [hu]; exact hx
    · rw [Below.heap_setCell W ⟨b', i, none⟩ x p (fun e => hgb.2.2 e.symm)]; exact hh
    · have h2 := (own_store_of (enc := fun v : Value => v) (by unfold encs; rw [List.map_id']; exact hT') (i : Int) x).1
      unfold encs at h2
      rw [List.map_id', show (i : Int).toNat = i by omega] at h2
      rw [List.length_set]
      exact h2
set_option maxHeartbeats 2000000 in
theorem lnturn_in (W : World) (base p : Nat) (g : Option Nat) (room : Int) (vs : List Value) (s c d t : Int) (h : Ln W base p g room vs s c d t) (hr : 0 < room) (i : Nat) (hi : i < vs.length) (hn : vs.length ≤ 1000000) (ht0 : 0 ≤ t) (ht1 : t ≤ 4294967295) (at_ mask : Int) (hat0 : -9223372036854775808 ≤ at_) (hat1 : at_ ≤ 9223372036854775807)
    (A : Option Addr) (m k : Nat) (xs : List Int) (hv : vs.getD i undef = .slice A m k) (hm : xs.length = m) (hmk : m ≤ k) (hm9 : m ≤ 140737488351232) (hx : (Kd.int .u8).C W A m xs) :
    Calls Try.prog 35 #[.pointer (some ⟨p, 0, none⟩), .int .i64 i, .int .i64 at_, .int .u32 mask] W fun e w' => e = .returned (.int .i64 0) ∧ ∃ x, Tx8 w' W.heap.size x (vburst xs at_ mask) ∧ Ln w' base p g room (vs.set i x) s c d (up t 1) ∧ Lg p g W w' := by
  have HLN := Lib.hid h
  have HA := Lib.hid (lnask_in W base p g room vs s c d t h hr i (by omega) (by omega))
  have HBU := Lib.hid (fun (W' : World) (hb : Below W.heap.size W W') => crc_any xs m hm hm9 at_ mask hat0 hat1 A k W' (Kd.C_below hx hb) hmk)
  have HUP := Lib.hid (fun (W : World) => up_any t 1 W ht0 ht1 (by omega) (by omega))
  unfold ctr at HUP
  unfold BurR at HBU
  obtain ⟨b, kk, hgb, k1, hkk, q, f, -⟩ := h.get i hi
  rw [hv] at q
  obtain ⟨n, hnn⟩ : ∃ n, vs.length = n := ⟨_, rfl⟩
  rw [hnn] at k1 hkk hi hn
  have HN := Lib.hid hnn
  have HGB := Lib.hid hgb
  have HBW := Lib.hid (show b < W.heap.size from (HLN.out.gb b hgb).2.1)
  have HPW := Lib.hid (show p < W.heap.size from HLN.out.at_.1)
  have hg8 := hgb
  have HFZ := Lib.hid (fun (W' : World) (hb : Below W.heap.size W W') => show W'.frozen? ⟨b, i, none⟩ = false by
    obtain ⟨b', kk', hg', -, -, -, f', -⟩ := (HLN.out.below hb).get i (by rw [HN.out]; exact hi)
    rw [HGB.out] at hg'
    injection hg' with hg'
    subst hg'
    exact f')
  clear h hv hm hmk hm9 hx hnn hgb
  go_enter Try.func35, Try.ntmps35
  go_wp2_with fail
  refine HA.out.mono ?_
  rintro e w' ⟨rfl, rfl⟩
  go_upto_region 4 with fail
  go_region_with (first
    | (go_at_call 55; refine (HBU.out _ (below_drew (Below.refl _ _))).mono ?_; rintro e w2 ⟨v2, rfl, ho2, hb2⟩; have ho3 := ho2.sl; obtain ⟨A2, m2, k2, hv2⟩ := ho3; subst hv2; have HB2 := Lib.hid (below_then (below_drew (Below.refl W.heap.size W)) (Nat.le_refl _) hb2); have k1 := pw_cell_below HB2.out k1; have q := pw_cell_below HB2.out q; have f2 := HFZ.out w2 HB2.out; have HX2 := Lib.hid ho2; clear ho2 hb2))
  all_goals
    subst hg8
    have HL3 := Lib.hid ((HLN.out.below HB2.out).setV i (.slice A2 m2 k2) ⟨_, _, _, rfl⟩)
    have HX3 := Lib.hid (show Tx8 (w2.setCell ⟨b, i, none⟩ (.slice A2 m2 k2)) W.heap.size (.slice A2 m2 k2) (vburst xs at_ mask) from HX2.out.far HBW.out i _)
    have HG3 := Lib.hid (show Lg p (some b) W (w2.setCell ⟨b, i, none⟩ (.slice A2 m2 k2)) from ((Lg.refl p (some b) W).bel HB2.out).putG i _)
    clear k1 q f2
    obtain ⟨w3, hw3⟩ : ∃ w3, w2.setCell ⟨b, i, none⟩ (.slice A2 m2 k2) = w3 := ⟨_, rfl⟩
    rw [hw3] at HL3 HX3 HG3 ⊢
    clear hw3
    obtain ⟨-, -, -, -, -, -, ⟨t0, t1⟩⟩ := HL3.out.at_
    go_wp2_with fail
    refine (HUP.out _).mono ?_
    rintro e w4 ⟨rfl, hb4⟩
    have HL4 := Lib.hid (HL3.out.below hb4)
    have HX4 := Lib.hid (HX3.out.below hb4)
    have HG4 := Lib.hid (HG3.out.bel hb4)
    clear hb4 t0 t1
    obtain ⟨-, -, -, -, -, -, ⟨t0, t1⟩⟩ := HL4.out.at_
    have f8 := HL4.out.frz 8
    have f9 := HL4.out.frz 9
    go_wp2_with fail
    go_ret
    exact ⟨rfl, _, (HX4.out.far HPW.out 8 _).far HPW.out 9 _, HL4.out.putT _, (HG4.out.put 8 _).put 9 _⟩
end Go.Proofs.Ytcelhendfjiicaa
