/- A table: Ask. -/
import Derived.Test.YtmbhicjjbgbneaaAdC
namespace Go.Proofs.Ytmbhicjjbgbneaa
open Go.RowKit Go.Shelf Go.Proofs.YtmbhicjjbgbneaaW.PrintWords Go.Proofs.YtmbhicjjbgbneaaW.PrintLast Go.Proofs.YtmbhicjjbgbneaaW.PrintMore
set_option linter.unusedVariables false
set_option linter.unusedSimpArgs false
set_option maxRecDepth 100000
def askV (st : TSet) (all : List (Int × Int)) (past : List Int) (s u : Int) (n : Nat) (jb : Bool) (most : Int) : Int :=
  if jb = false then 1 else if st.prompt < n ∨ st.most < most then 2 else if ((mlook all s).isSome || decide (s ∈ past)) = true then 3 else if (all.length : Int) = st.streams then 4 else if st.each ≤ (cntS (encA all) u : Int) then 5 else 0
def AQ (p g : Nat) (st : TSet) (sd : Int) (v : Value) (most : Int) (W w' : World) : Prop := w'.cell? ⟨p, 0, none⟩ = some (.int .u64 st.seed) ∧ w'.cell? ⟨p, 1, none⟩ = some (.int .i64 st.vocab) ∧ w'.cell? ⟨p, 2, none⟩ = some (.int .i64 st.dim) ∧ w'.cell? ⟨p, 3, none⟩ = some (.int .i64 st.layers) ∧ w'.cell? ⟨p, 4, none⟩ = some (.int .i64 st.top) ∧ w'.cell? ⟨p, 5, none⟩ = some (.int .i64 st.heat) ∧ w'.cell? ⟨g, 0, none⟩ = some (.int .u64 sd) ∧ w'.cell? ⟨g, 1, none⟩ = some v ∧ w'.cell? ⟨g, 2, none⟩ = some (.int .i64 most) ∧ Hid (Below W.heap.size W w')
theorem AQ.step {p g : Nat} {st : TSet} {sd : Int} {v : Value} {most : Int} {W w1 w2 : World} (h : AQ p g st sd v most W w1) (hb : Below w1.heap.size w1 w2) : AQ p g st sd v most W w2 := by
  obtain ⟨h0, h1, h2, h3, h4, h5, h6, h7, h8, h9⟩ := h
  exact ⟨pw_cell_below hb h0, pw_cell_below hb h1, pw_cell_below hb h2, pw_cell_below hb h3, pw_cell_below hb h4, pw_cell_below hb h5, pw_cell_below hb h6, pw_cell_below hb h7, pw_cell_below hb h8, Lib.hid (below_then h9.out h9.out.size hb)⟩
section
variable {W : World} {p mA mP : Nat} {st : TSet} {all : List (Int × Int)} {past : List Int} {lv : Value}
set_option maxHeartbeats 2000000 in
theorem adask_in (h : Tt W p mA mP st all past lv) (hl : all.length ≤ 1000000) (s u sd most : Int) (A : Option Addr) (cp : Nat) (xs : List Int) (hx : (Kd.int .i64).C W A xs.length xs) :
    Calls Try.prog 16 #[.pointer (some ⟨p, 0, none⟩), .int .u64 s, .int .u64 u, .agg #[.int .u64 sd, .slice A xs.length cp, .int .i64 most]] W fun e w' => e = .returned (.int .i64 (askV st all past s u xs.length (decide (Jok st.cfg xs most)) most)) ∧ Below W.heap.size W w' := by
  have HT := Lib.hid (fun (W' : World) (hb : Below W.heap.size W W') => h.below hb)
  have HDM := Lib.hid (fun (W' : World) (hb : Below W.heap.size W W') => dmay_any st.cfg sd most A cp xs W' (Kd.C_below hx hb))
  rw [show st.cfg.v = .agg #[.int .u64 st.seed, .int .i64 st.vocab, .int .i64 st.dim, .int .i64 st.layers, .int .i64 st.top, .int .i64 st.heat] from rfl] at HDM
  obtain ⟨n, hn⟩ : ∃ n, xs.length = n := ⟨_, rfl⟩
  have hn9 : n ≤ 9223372036854775807 := by rw [← hn]; exact hx.2.1
  rw [hn] at HDM ⊢
  obtain ⟨jb, hjb⟩ : ∃ b, decide (Jok st.cfg xs most) = b := ⟨_, rfl⟩
  rw [hjb] at HDM ⊢
  obtain ⟨R, hR⟩ : ∃ R, askV st all past s u n jb most = R := ⟨_, rfl⟩
  rw [hR]
  unfold askV at hR
  have HR := Lib.hid hR
  have hb0 := below_alloc (Below.refl W.heap.size W) (.cells #[.int .u64 sd, .slice A n cp, .int .i64 most] 44)
  have hk := heap_alloc_new W (.cells #[.int .u64 sd, .slice A n cp, .int .i64 most] 44)
  obtain ⟨W0, hW0⟩ : ∃ W0, W.alloc (.cells #[.int .u64 sd, .slice A n cp, .int .i64 most] 44) = W0 := ⟨_, rfl⟩
  obtain ⟨g, hg⟩ : ∃ g, W.heap.size = g := ⟨_, rfl⟩
  rw [hW0] at hb0 hk
  rw [hg] at hk
  have hbD := below_drew hb0
  have ht := h.below hbD
  have hq : AQ p g st sd (.slice A n cp) most W W0.drew := ⟨blk_cell ht.box 0, blk_cell ht.box 1, blk_cell ht.box 2, blk_cell ht.box 3, blk_cell ht.box 4, blk_cell ht.box 5, blk_cell hk 0, blk_cell hk 1, blk_cell hk 2, Lib.hid hbD⟩
  have HQ := Lib.hid hq
  have HBD := Lib.hid hbD
  have HOK := Lib.hid (adok_in ht)
  have HW := Lib.hid hW0
  have HG := Lib.hid hg
  have HL := Lib.hid hl
  clear h hx hn hjb hR hb0 hk hW0 hg hbD ht hq hl
  go_enter Try.func16, Try.ntmps16
  go_upto_region 1 with fail
  try rw [HG.out]
  rw [HW.out]
  go_region_held3 (fun w' => w'.cell? ⟨p, 0, none⟩ = some (.int .u64 st.seed) ∧ w'.cell? ⟨p, 1, none⟩ = some (.int .i64 st.vocab) ∧ w'.cell? ⟨p, 2, none⟩ = some (.int .i64 st.dim) ∧ w'.cell? ⟨p, 3, none⟩ = some (.int .i64 st.layers) ∧ w'.cell? ⟨p, 4, none⟩ = some (.int .i64 st.top) ∧ w'.cell? ⟨p, 5, none⟩ = some (.int .i64 st.heat) ∧ w'.cell? ⟨g, 0, none⟩ = some (.int .u64 sd) ∧ w'.cell? ⟨g, 1, none⟩ = some (.slice A n cp) ∧ w'.cell? ⟨g, 2, none⟩ = some (.int .i64 most) ∧ Hid (Below W.heap.size W w'))
    (first | exact HQ1.out | exact HQ.out)
    (first
      | (go_at_call 53; refine HOK.out.mono ?_; rintro e w' ⟨rfl, rfl⟩)
      | (go_at_call 54; refine (HDM.out _ HBD.out).mono ?_; rintro e w1 ⟨rfl, hb1⟩; have HQ1 := Lib.hid (show AQ p g st sd (.slice A n cp) most W w1 from HQ.out.step hb1)))
  have HB1 := Lib.hid (show Below W.heap.size W w1 from HQ1.out.2.2.2.2.2.2.2.2.2.out)
  obtain ⟨-, -, -, -, -, -, -, y1, y2, -⟩ := HQ1.out
  have z8 : w1.cell? ⟨p, 8, none⟩ = some (.int .i64 st.prompt) := blk_cell (HT.out w1 HB1.out).box 8
  have z9 : w1.cell? ⟨p, 9, none⟩ = some (.int .i64 st.most) := blk_cell (HT.out w1 HB1.out).box 9
  cases jb with
  | false =>
    have hr : (1 : Int) = R := HR.out
    subst hr
    clear y1 y2 z8 z9
    go_wp2_with fail
    go_ret
    exact ⟨rfl, HB1.out⟩
  | true =>
    have HR2 := Lib.hid (show (if st.prompt < n ∨ st.most < most then (2 : Int) else if ((mlook all s).isSome || decide (s ∈ past)) = true then 3 else if (all.length : Int) = st.streams then 4 else if st.each ≤ (cntS (encA all) u : Int) then 5 else 0) = R from HR.out)
    clear hb1
    by_cases hp : st.prompt < n
    · have hr : (2 : Int) = R := by have h := HR2.out; rwa [if_pos (.inl hp)] at h
      subst hr
      go_wp2_with fail
      go_quiet (fail)
      go_wp2_with fail
      go_ret
      exact ⟨rfl, pw_below_drewN HB1.out _⟩
    · by_cases hm : st.most < most
      · have hr : (2 : Int) = R := by have h := HR2.out; rwa [if_pos (.inr hm)] at h
        subst hr
        go_wp2_with fail
        go_quiet (fail)
        go_wp2_with fail
        go_ret
        exact ⟨rfl, pw_below_drewN HB1.out _⟩
      · have HR3 := Lib.hid (show (if ((mlook all s).isSome || decide (s ∈ past)) = true then (3 : Int) else if (all.length : Int) = st.streams then 4 else if st.each ≤ (cntS (encA all) u : Int) then 5 else 0) = R by have h := HR2.out; rwa [if_neg (by omega)] at h)
        go_wp2_with fail
        go_quiet (fail)
        have HB2 := Lib.hid (pw_below_drewN HB1.out nq)
        obtain ⟨w2, hw2⟩ : ∃ w2, w1.drewN nq = w2 := ⟨_, rfl⟩
        rw [hw2] at HB2 ⊢
        have HKN := Lib.hid (adknows_in (HT.out w2 HB2.out) s)
        obtain ⟨kb, hkb⟩ : ∃ b, ((mlook all s).isSome || decide (s ∈ past)) = b := ⟨_, rfl⟩
        rw [hkb] at HKN HR3
        clear hw2 y1 y2 z8 z9 hkb
        go_wp2_with fail
        refine HKN.out.mono ?_
        rintro e w' ⟨rfl, rfl⟩
        cases kb with
        | true =>
          have hr : (3 : Int) = R := HR3.out
          subst hr
          go_wp2_with fail
          go_ret
          exact ⟨rfl, HB2.out⟩
        | false =>
          have HR4 := Lib.hid (show (if (all.length : Int) = st.streams then (4 : Int) else if st.each ≤ (cntS (encA all) u : Int) then 5 else 0) = R from HR3.out)
          have HT2 := Lib.hid (HT.out w2 HB2.out)
          have hml := fun q : Nat => run_mlen (P := Try.prog) Try.underlying54 (HT2.out.below (pw_below_drewN (Below.refl _ w2) q)).all_ 3
          rw [encA_len] at hml
          have za := HT2.out.cA
          have z6 : w2.cell? ⟨p, 6, none⟩ = some (.int .i64 st.streams) := blk_cell HT2.out.box 6
          obtain ⟨k, hk⟩ : ∃ k, all.length = k := ⟨_, rfl⟩
          rw [hk] at hml HR4 HL
          have HKL := Lib.hid hk
          clear hk HKN
          by_cases hf : (k : Int) = st.streams
          · have hr : (4 : Int) = R := by have h := HR4.out; rwa [if_pos hf] at h
            subst hr
            have hfd : ((k : Int) == st.streams) = true := by simpa using hf
            have HF := Lib.hid hf
            clear hf
            go_wp2_with fail
            go_quiet (fail)
            go_wp2_with fail
            go_ret
            exact ⟨rfl, pw_below_drewN HB2.out _⟩
          · have HR5 := Lib.hid (show (if st.each ≤ (cntS (encA all) u : Int) then (5 : Int) else 0) = R by have h := HR4.out; rwa [if_neg hf] at h)
            have hfd : ((k : Int) == st.streams) = false := by simpa using hf
            clear hf
            go_wp2_with fail
            go_quiet (fail)
            have hb3 := pw_below_drewN HB2.out nq
            obtain ⟨w3, hw3⟩ : ∃ w3, w2.drewN nq = w3 := ⟨_, rfl⟩
            rw [hw3] at hb3 ⊢
            have hbD := below_drew hb3
            have hT3 := HT.out _ hbD
            obtain ⟨C, hC⟩ : ∃ C, cntS (encA all) u = C := ⟨_, rfl⟩
            have HOF := Lib.hid (adof_in hT3 u (by rw [HKL.out]; exact HL.out))
            rw [hC] at HOF HR5
            have z7 : w3.drew.cell? ⟨p, 7, none⟩ = some (.int .i64 st.each) := blk_cell hT3.box 7
            have HS0 := Lib.hid (show w3.drew.cell? ⟨p, 7, none⟩ = some (.int .i64 st.each) ∧ Hid (Below W.heap.size W w3.drew) from ⟨z7, Lib.hid hbD⟩)
            clear hw3 hb3 hbD hT3 hC za z6 hml hfd z7
            go_upto_region 9 with fail
            go_region_held3 (fun w' => w'.cell? ⟨p, 7, none⟩ = some (.int .i64 st.each) ∧ Hid (Below W.heap.size W w'))
              (first | exact HS4.out | exact HS0.out)
              (first
                | (go_at_call 22; refine HOF.out.mono ?_; rintro e w4 ⟨rfl, hb4⟩; have HS4 := Lib.hid (show w4.cell? ⟨p, 7, none⟩ = some (.int .i64 st.each) ∧ Hid (Below W.heap.size W w4) from ⟨pw_cell_below hb4 HS0.out.1, Lib.hid (below_then HS0.out.2.out HS0.out.2.out.size hb4)⟩)))
            all_goals
              by_cases he : st.each ≤ (C : Int)
              · have hr : (5 : Int) = R := by have h := HR5.out; rwa [if_pos he] at h
                subst hr
                go_wp2_with fail
                go_ret
                exact ⟨rfl, HS4.out.2.out⟩
              · have hr : (0 : Int) = R := by have h := HR5.out; rwa [if_neg he] at h
                subst hr
                go_wp2_with fail
                go_ret
                exact ⟨rfl, HS4.out.2.out⟩
end
end Go.Proofs.Ytmbhicjjbgbneaa
