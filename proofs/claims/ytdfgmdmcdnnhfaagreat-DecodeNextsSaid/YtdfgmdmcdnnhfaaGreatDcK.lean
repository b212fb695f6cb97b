/- What follows, from any place on; append of a whole row; a token told lies in the vocabulary. -/
import Derived.Test.YtdfgmdmcdnnhfaaGreatDcJ
namespace Go.Proofs.YtdfgmdmcdnnhfaaGreat
open Go.RowKit Go.Shelf Go.Proofs.YtdfgmdmcdnnhfaaGreatW.PrintWords Go.Proofs.YtdfgmdmcdnnhfaaGreatW.PrintLast Go.Proofs.YtdfgmdmcdnnhfaaGreatW.PrintMore
set_option linter.unusedVariables false
set_option linter.unusedSimpArgs false
set_option maxRecDepth 100000

theorem own_append_row {P : Program} {ops : Array Oper} {rest : List Oper} {o : Oper} {a : Act} {Q : Exit → Act → World → Prop} {w0 : World} (W : World) (base : Nat) (hgd : o.guard = none) (s x : Operand) (t e : TypeId)
    (ho : o.op = .call { callee := .builtin .append, args := #[s, x], argTypes := #[t, t] })
    (ht : P.underlying t = some (.slice e)) (hinfo : (P.info? e).map (fun i => (i.zero, i.size, i.bytes)) = some (some (.int .i64 0), 1, 8))
    (v : Value) (xs ys : List Int) (A : Option Addr) (m c : Nat) (hs : a.eval s = v) (hx : a.eval x = .slice A m c) (hm : ys.length = m)
    (HO : Own W base e v xs) (HR : (Kd.int .i64).C W A ys.length ys) (HB : Below base w0 W) (hbase : base ≤ W.heap.size) (hl : xs.length + m ≤ 1000000)
    (h : ∀ v1 w1, Own w1 base e v1 (xs ++ ys) → Below base w0 w1 → W.grownBy w1 v.ownBlock → (v1.ownBlock = v.ownBlock ∨ ∃ b, v1.ownBlock = some b ∧ W.heap.size ≤ b) → wpList P ops Q rest (a.put o.dst v1) w1) :
    wpList P ops Q (o :: rest) a W := by
  subst hm
  refine print_append_row_of (w0 := w0) (Value.int .i64) 0 base hgd s x t e (.int .i64 0) 8 ho ht hinfo (by decide) (by decide) (fun _ => rfl) v xs ys A _ c hs hx (Kd.own_of_R (enc := Value.int .i64) (h1 := fun _ => rfl) HO) (Kd.reads_of_C (enc := Value.int .i64) (h1 := fun _ => rfl) (d := 0) HR) HB hbase (by omega) ?_
  intro v1 w1 hr hb hg hat
  exact h v1 w1 (Kd.R_of_own (enc := Value.int .i64) (h1 := fun _ => rfl) hr (fun _ _ => trivial)) hb hg hat

theorem okWide_array {P : Program} {w : World} {r : Reach} {base : Nat} {t e : TypeId} {k : Nat} {v : Value} (ht : P.underlying t = some (.array k e)) (h : Value.okWide P w r base t v) : ∃ cs, v = .agg cs ∧ cs.size = P.cellsOf t := by
  simp only [Value.okWide, ht] at h
  obtain ⟨cs, h1, h2, _⟩ := h
  exact ⟨cs, h1, h2⟩
abbrev KTwo : Kd (List Int) := Kd.arr 2 (Kd.int .i64) (by decide)
theorem two_cells {w : World} {xs : List Int} {cs : Array Value} (h : KTwo.K w xs cs.toList) : ∃ a b, cs = #[.int .i64 a, .int .i64 b] := by
  obtain ⟨hl, hc, hf⟩ := h
  match xs, hl with
  | [a, b], _ =>
    have h0 : (cs.toList.drop 0).take 1 = [.int .i64 a] := hf 0 a rfl
    have h1 : (cs.toList.drop 1).take 1 = [.int .i64 b] := hf 1 b rfl
    have hc' : cs.toList.length = 2 := hc
    refine ⟨a, b, Array.toList_inj.1 ?_⟩
    match hcs : cs.toList, hc' with
    | [u, v], _ =>
      rw [hcs] at h0 h1
      simp at h0 h1
      rw [h0, h1]
theorem vdraw_in (xs : List Int) (top heat seed place : Int) (h : 0 < xs.length) : 0 ≤ vdraw xs top heat seed place ∧ vdraw xs top heat seed place < xs.length := by
  by_cases h1 : heat < 1
  · rw [vdraw_cold _ _ _ _ _ h1]
    unfold vbest
    rw [if_neg (by omega)]
    obtain ⟨p, hp, he⟩ := vtop_in xs 1 0 (by rw [vtop_len]; omega)
    rw [he]; omega
  · obtain ⟨j, hj, he⟩ := vdraw_mem xs top heat seed place h h1
    obtain ⟨p, hp, he2⟩ := vtop_in xs _ j hj
    rw [← he, he2]; omega
theorem dNx_in (c : Cfg) (hok : c.ok) (toks : List Int) (sd : Int) : 0 ≤ dNx c toks sd ∧ dNx c toks sd < c.vocab := by
  have h0 := hok.1.1
  unfold dNx vnext
  have h := vdraw_in (vmarks c ((dO c toks).getD (toks.length - 1) [])) c.top c.heat sd toks.length (by rw [vmarks_len]; omega)
  rw [vmarks_len] at h
  omega
theorem dOut_good (c : Cfg) (hok : c.ok) (sd : Int) (r : Nat) (toks : List Int) : ∀ t ∈ dOut c sd r toks, ¬ badT c t := by
  induction r generalizing toks with
  | zero => intro t ht; simp [dOut] at ht
  | succ r ih =>
    intro t ht
    rw [dOut_succ] at ht
    split at ht
    · simp at ht
    · split at ht
      · simp at ht
      · rcases List.mem_cons.1 ht with rfl | ht
        · have h := dNx_in c hok toks sd
          unfold badT
          omega
        · exact ih _ t ht
theorem dOut_drop (c : Cfg) (sd : Int) (r k : Nat) (toks : List Int) (hk : k ≤ (dOut c sd r toks).length) : dOut c sd (r - k) (toks ++ (dOut c sd r toks).take k) = (dOut c sd r toks).drop k := by
  induction k generalizing r toks with
  | zero => simp
  | succ k ih =>
    cases r with
    | zero => simp [dOut] at hk
    | succ r =>
      rw [dOut_succ] at hk ⊢
      split at hk
      · simp at hk
      · split at hk
        · simp at hk
        · rename_i h1 h2
          rw [if_neg h1, if_neg h2]
          rw [List.length_cons] at hk
          rw [List.take_succ_cons, List.drop_succ_cons, show r + 1 - (k + 1) = r - k by omega, ← ih r _ (by omega), List.append_assoc]
          rfl

end Go.Proofs.YtdfgmdmcdnnhfaaGreat
