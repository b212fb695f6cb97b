/- The document's table: Ask. -/
import Derived.Test.YtmbhicjjbgbneaaAdK
namespace Go.Proofs.Ytmbhicjjbgbneaa
open Go.RowKit Go.Shelf Go.Proofs.YtmbhicjjbgbneaaW.PrintWords Go.Proofs.YtmbhicjjbgbneaaW.PrintLast Go.Proofs.YtmbhicjjbgbneaaW.PrintMore
set_option linter.unusedVariables false
set_option linter.unusedSimpArgs false
set_option maxRecDepth 100000
section
variable {W : World} {G : Nat → Prop} {q : Nat} {st : TSet} {V : List Sm} {P : List Int} {A B : Option Addr} {c d : Nat}
set_option maxHeartbeats 2000000 in
theorem rgask (h : RG W G q st V P A B c d) (hV : (V.length : Int) ≤ st.streams) (h8 : V.length ≤ 1000) (h9 : P.length ≤ 100000) (s u sd most : Int) (A9 : Option Addr) (cp : Nat) (xs : List Int) (hx : (Kd.int .i64).C W A9 xs.length xs) :
    Calls Try.prog 15 #[.pointer (some ⟨q, 0, none⟩), .int .u64 s, .int .u64 u, .agg #[.int .u64 sd, .slice A9 xs.length cp, .int .i64 most]] W fun e w' => e = .returned (.int .i64 (askV st V P s u xs.length (decide (Jok st.cfg xs most)) most)) ∧ Below W.heap.size W w' := by
  have HT := Lib.hid (fun (W' : World) (hb : Below W.heap.size W W') => h.below hb)
  have HDM := Lib.hid (fun (W' : World) (hb : Below W.heap.size W W') => rmay_any st.cfg sd most A9 cp xs W' (Kd.C_below hx hb))
  rw [show st.cfg.v = .agg #[.int .u64 st.seed, .int .i64 st.vocab, .int .i64 st.dim, .int .i64 st.layers, .int .i64 st.top, .int .i64 st.heat] from rfl] at HDM
  obtain ⟨n, hn⟩ : ∃ n, xs.length = n := ⟨_, rfl⟩
  have hn9 : n ≤ 9223372036854775807 := by rw [← hn]; exact hx.2.1
  rw [hn] at HDM ⊢
  obtain ⟨jb, hjb⟩ : ∃ b, decide (Jok st.cfg xs most) = b := ⟨_, rfl⟩
  rw [hjb] at HDM ⊢
  obtain ⟨R, hR⟩ : ∃ R, askV st V P s u n jb most = R := ⟨_, rfl⟩
  rw [hR]
  unfold askV at hR
  have HR := Lib.hid hR
  have hb0 := below_alloc (Below.refl W.heap.size W) (.cells #[.int .u64 sd, .slice A9 n cp, .int .i64 most] 44)
  have hk := heap_alloc_new W (.cells #[.int .u64 sd, .slice A9 n cp, .int .i64 most] 44)
  obtain ⟨W0, hW0⟩ : ∃ W0, W.alloc (.cells #[.int .u64 sd, .slice A9 n cp, .int .i64 most] 44) = W0 := ⟨_, rfl⟩
  obtain ⟨g, hg⟩ : ∃ g, W.heap.size = g := ⟨_, rfl⟩
  rw [hW0] at hb0 hk
  rw [hg] at hk
  have hbD := below_drew hb0
  have ht := h.below hbD
  have hq : AQ q g st sd (.slice A9 n cp) most W W0.drew := ⟨blk_cell ht.box 0, blk_cell ht.box 1, blk_cell ht.box 2, blk_cell ht.box 3, blk_cell ht.box 4, blk_cell ht.box 5, blk_cell hk 0, blk_cell hk 1, blk_cell hk 2, Lib.hid hbD⟩
  have HQ := Lib.hid hq
  have HBD := Lib.hid hbD
  have HW := Lib.hid hW0
  have HG := Lib.hid hg
  have HL := Lib.hid h8
  have HP9 := Lib.hid h9
  clear h hx hn hjb hR hb0 hk hW0 hg hbD ht hq h8 h9
  go_enter Try.func15, Try.ntmps15
  go_upto_region 1 with fail
  try rw [HG.out]
  rw [HW.out]
  go_region_held3 (fun w' => w'.cell? ⟨q, 0, none⟩ = some (.int .u64 st.seed) ∧ w'.cell? ⟨q, 1, none⟩ = some (.int .i64 st.vocab) ∧ w'.cell? ⟨q, 2, none⟩ = some (.int .i64 st.dim) ∧ w'.cell? ⟨q, 3, none⟩ = some (.int .i64 st.layers) ∧ w'.cell? ⟨q, 4, none⟩ = some (.int .i64 st.top) ∧ w'.cell? ⟨q, 5, none⟩ = some (.int .i64 st.heat) ∧ w'.cell? ⟨g, 0, none⟩ = some (.int .u64 sd) ∧ w'.cell? ⟨g, 1, none⟩ = some (.slice A9 n cp) ∧ w'.cell? ⟨g, 2, none⟩ = some (.int .i64 most) ∧ Hid (Below W.heap.size W w'))
    (first | exact HQ1.out | exact HQ.out)
    (first
      | (go_at_call 52; refine (HDM.out _ HBD.out).mono ?_; rintro e w1 ⟨rfl, hb1⟩; have HQ1 := Lib.hid (show AQ q g st sd (.slice A9 n cp) most W w1 from HQ.out.step hb1)))
  have HB1 := Lib.hid (show Below W.heap.size W w1 from HQ1.out.2.2.2.2.2.2.2.2.2.out)
  obtain ⟨-, -, -, -, -, -, -, y1, y2, -⟩ := HQ1.out
  have z8 : w1.cell? ⟨q, 8, none⟩ = some (.int .i64 st.prompt) := blk_cell (HT.out w1 HB1.out).box 8
  have z9 : w1.cell? ⟨q, 9, none⟩ = some (.int .i64 st.most) := blk_cell (HT.out w1 HB1.out).box 9
  cases jb with
  | false =>
    have hr : (1 : Int) = R := HR.out
    subst hr
    clear y1 y2 z8 z9
    go_wp2_with fail
    go_ret
    exact ⟨rfl, HB1.out⟩
  | true =>
    have HR2 := Lib.hid (show (if st.prompt < n ∨ st.most < most then (2 : Int) else if ((mlook V s).isSome || decide (s ∈ P)) = true then 3 else if (V.length : Int) = st.streams then 4 else if st.each ≤ (cntS (encA V) u : Int) then 5 else 0) = R from HR.out)
    clear hb1
    by_cases hp : st.prompt < n
    · have hr : (2 : Int) = R := by have h := HR2.out; rwa [if_pos (.inl hp)] at h
      subst hr
      have hpd : decide (st.prompt < (n : Int)) = true := decide_eq_true hp
      go_wp2_with fail
      go_quiet (fail)
      go_wp2_with fail
      go_ret
      exact ⟨rfl, pw_below_drewN HB1.out _⟩
    · have hpd : decide (st.prompt < (n : Int)) = false := decide_eq_false hp
      by_cases hm : st.most < most
      · have hr : (2 : Int) = R := by have h := HR2.out; rwa [if_pos (.inr hm)] at h
        subst hr
        have hmd : decide (st.most < most) = true := decide_eq_true hm
        go_wp2_with fail
        go_quiet (fail)
        go_wp2_with fail
        go_ret
        exact ⟨rfl, pw_below_drewN HB1.out _⟩
      · have hmd : decide (st.most < most) = false := decide_eq_false hm
        have HR3 := Lib.hid (show (if ((mlook V s).isSome || decide (s ∈ P)) = true then (3 : Int) else if (V.length : Int) = st.streams then 4 else if st.each ≤ (cntS (encA V) u : Int) then 5 else 0) = R by have h := HR2.out; rwa [if_neg (by omega)] at h)
        go_wp2_with fail
        go_quiet (fail)
        have HB2 := Lib.hid (pw_below_drewN HB1.out nq)
        obtain ⟨w2, hw2⟩ : ∃ w2, w1.drewN nq = w2 := ⟨_, rfl⟩
        rw [hw2] at HB2 ⊢
        have HKN := Lib.hid (rgknows (HT.out w2 HB2.out) s HL.out HP9.out)
        obtain ⟨kb, hkb⟩ : ∃ b, ((mlook V s).isSome || decide (s ∈ P)) = b := ⟨_, rfl⟩
        rw [hkb] at HKN HR3
        clear hw2 y1 y2 z8 z9 hkb
        go_wp2_with fail
        refine HKN.out.mono ?_
        rintro e w' ⟨rfl, rfl⟩
        cases kb with
        | true =>
          have hr : (3 : Int) = R := HR3.out
          subst hr
          go_wp2_with fail
          go_ret
          exact ⟨rfl, HB2.out⟩
        | false =>
          have HR4 := Lib.hid (show (if (V.length : Int) = st.streams then (4 : Int) else if st.each ≤ (cntS (encA V) u : Int) then 5 else 0) = R from HR3.out)
          have HT2 := Lib.hid (HT.out w2 HB2.out)
          have z6 : w2.cell? ⟨q, 6, none⟩ = some (.int .i64 st.streams) := blk_cell HT2.out.box 6
          have za : w2.cell? ⟨q, 10, none⟩ = some (.slice A V.length c) := blk_cell HT2.out.box 10
          obtain ⟨k, hk⟩ : ∃ k, V.length = k := ⟨_, rfl⟩
          rw [hk] at za HR4 HL hV
          have HKL := Lib.hid hk
          clear hk HKN
          by_cases hf : (k : Int) = st.streams
          · have hr : (4 : Int) = R := by have h := HR4.out; rwa [if_pos hf] at h
            subst hr
            have hfd : decide (st.streams ≤ (k : Int)) = true := decide_eq_true (by omega)
            have HF := Lib.hid hf
            clear hf
            go_wp2_with fail
            go_quiet (fail)
            go_wp2_with fail
            go_ret
            exact ⟨rfl, pw_below_drewN HB2.out _⟩
          · have HR5 := Lib.hid (show (if st.each ≤ (cntS (encA V) u : Int) then (5 : Int) else 0) = R by have h := HR4.out; rwa [if_neg hf] at h)
            have hfd : decide (st.streams ≤ (k : Int)) = false := decide_eq_false (by omega)
            have hff : ¬ st.streams ≤ (k : Int) := by omega
            clear hf
            go_wp2_with fail
            go_quiet (fail)
            have hb3 := pw_below_drewN HB2.out nq
            obtain ⟨w3, hw3⟩ : ∃ w3, w2.drewN nq = w3 := ⟨_, rfl⟩
            rw [hw3] at hb3 ⊢
            have hbD := below_drew hb3
            have hT3 := HT.out _ hbD
            obtain ⟨C, hC⟩ : ∃ C, cntS (encA V) u = C := ⟨_, rfl⟩
            have HOF := Lib.hid (rgof hT3 u (by rw [HKL.out]; exact HL.out))
            rw [hC] at HOF HR5
            have z7 : w3.drew.cell? ⟨q, 7, none⟩ = some (.int .i64 st.each) := blk_cell hT3.box 7
            have HBD3 := Lib.hid hbD
            have HS0 := Lib.hid (show w3.drew.cell? ⟨q, 7, none⟩ = some (.int .i64 st.each) ∧ Hid (Below W.heap.size W w3.drew) from ⟨z7, Lib.hid hbD⟩)
            clear hw3 hb3 hbD hT3 hC za z6 hfd hff z7
            go_upto_region 9 with fail
            go_region_held3 (fun w' => w'.cell? ⟨q, 7, none⟩ = some (.int .i64 st.each) ∧ Hid (Below W.heap.size W w'))
              (exact HS0.out)
              (first
                | (go_at_call 23; refine HOF.out.mono ?_; rintro e w4 ⟨rfl, rfl⟩))
            all_goals
              by_cases he : st.each ≤ (C : Int)
              · have hr : (5 : Int) = R := by have h := HR5.out; rwa [if_pos he] at h
                subst hr
                go_wp2_with fail
                go_ret
                exact ⟨rfl, HBD3.out⟩
              · have hr : (0 : Int) = R := by have h := HR5.out; rwa [if_neg he] at h
                subst hr
                go_wp2_with fail
                go_ret
                exact ⟨rfl, HBD3.out⟩
end
end Go.Proofs.Ytmbhicjjbgbneaa
