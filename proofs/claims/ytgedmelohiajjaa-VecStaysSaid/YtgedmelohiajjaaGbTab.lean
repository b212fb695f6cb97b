/- Tables that came in, as the shell of a law tells them; the mixed rows at any number. -/
import Derived.Test.YtgedmelohiajjaaGbLaw8
import Derived.Test.YtgedmelohiajjaaProg
import Derived.Test.YtgedmelohiajjaaGbB
import Derived.Test.YtgedmelohiajjaaGbW
import Derived.Test.YtgedmelohiajjaaWMore
import Derived.WalkKit
import Derived.KernelRfl
import Derived.Tactics
import Derived.OwnWalk
import Derived.BigQuiet
import Derived.Deep.QuietTactic
import Derived.Lib.Hide
import Derived.Outline
import Derived.Shelf.Abstract
import Derived.WalkSpells
namespace Go.Proofs.Ytgedmelohiajjaa
open Go.RowKit Go.Shelf Go.Proofs.YtgedmelohiajjaaW.PrintWords Go.Proofs.YtgedmelohiajjaaW.PrintLast Go.Proofs.YtgedmelohiajjaaW.PrintMore
set_option linter.unusedVariables false
set_option linter.unusedSimpArgs false

/-- A slice of slices of integers that came in. -/
theorem istab_rows {w : World} {a : Option Addr} {len cap : Nat} {A : Nat → Option Addr} {L C : Nat → Nat} {Z : Nat → List Int}
    (h : (a = none ∧ len = 0 ∧ cap = 0) ∨ ∃ x, a = some x ∧ len ≤ cap ∧ cap ≤ maxLen ∧ ∀ r, r < cap → w.cell? (x.add r) = some (.slice (A r) (L r) (C r)) ∧ L r ≤ C r ∧
      ((A r = none ∧ L r = 0 ∧ C r = 0 ∧ Z r = []) ∨ ∃ x, A r = some x ∧ L r ≤ C r ∧ C r ≤ maxLen ∧ (Z r).length = C r ∧ (∀ i, i < (Z r).length → w.cell? (x.add i) = some (.int .i64 ((Z r).getD i 0))) ∧ ∀ n ∈ Z r, (Lit.int .i64 n).wf = true)) :
    ∃ xss : List (List Int), len = xss.length ∧ Rows_ w a xss ∧ xss.length ≤ cap ∧ xss.length ≤ 9223372036854775807 := by
  rcases h with ⟨rfl, rfl, rfl⟩ | ⟨x, rfl, h1, h2, h3⟩
  · exact ⟨[], rfl, ⟨rfl, by simp, fun h => absurd h (Nat.lt_irrefl 0)⟩, by simp, by simp⟩
  · have h4 : ∀ r, ∃ xs : List Int, r < cap → L r = xs.length ∧ (Kd.int .i64).C w (A r) xs.length xs ∧ xs.length ≤ C r := by
      intro r
      by_cases hr : r < cap
      · obtain ⟨xs, e1, e2, e3, -⟩ := isrow_C (h3 r hr).2.2
        exact ⟨xs, fun _ => ⟨e1, e2, e3⟩⟩
      · exact ⟨[], fun h => absurd h hr⟩
    obtain ⟨f, hf⟩ := Classical.axiomOfChoice h4
    have hml : maxLen ≤ 9223372036854775807 := by unfold maxLen; omega
    refine ⟨(List.range len).map f, by simp, ⟨rfl, by rw [List.length_map, List.length_range]; unfold maxLen at h2; omega, fun _ => ⟨x, rfl, fun j p hj => ?_⟩⟩, by simpa using h1, by simp; omega⟩
    obtain ⟨hj1, hj2⟩ := List.getElem?_eq_some_iff.1 hj
    have hjl : j < len := by simpa using hj1
    obtain rfl : f j = p := by simpa using hj2
    obtain ⟨e1, e2, e3⟩ := hf j (by omega)
    refine ⟨[.slice (A j) (f j).length (C j)], rfl, ⟨A j, C j, rfl, e3, e2⟩, fun i u hu => ?_⟩
    cases i with
    | zero =>
      have : Value.slice (A j) (f j).length (C j) = u := by simpa using hu
      subst this
      rw [show (Kd.slice 2 (Kd.int .i64)).sz = 1 from rfl, Nat.mul_one, Nat.add_zero, (h3 j (by omega)).1, e1]
    | succ i => simp at hu
/-- far, at any length. -/
theorem farw_any (A : Option Addr) (c : Nat) (xss : List (List Int)) (w : World) (hx : Rows_ w A xss) (hn : xss.length ≤ 9223372036854775807) :
    Calls Try.prog 15 #[.slice A xss.length c] w (FarR xss w) := by
  have HX := Lib.hid hx
  obtain ⟨b, hb⟩ : ∃ b, farB xss = b := ⟨_, rfl⟩
  have HB := Lib.hid hb
  unfold FarR
  rw [hb]
  obtain ⟨n, hnn⟩ : ∃ n, xss.length = n := ⟨_, rfl⟩
  rw [hnn] at hn ⊢
  have HN := Lib.hid hnn
  clear hx hb hnn
  go_enter Try.func15, Try.ntmps15
  go_wp2_with fail
  go_loop [7] (fun s => ∃ k : Nat, s = .int .i64 k ∧ k ≤ n ∧ Hid (∀ j, j < k → ¬ 300 < (xss.getD j []).length)) (fun s => n - (intOf s).toNat)
  case atStart => exact ⟨0, rfl, by omega, Lib.hid (fun j hj => absurd hj (Nat.not_lt_zero _))⟩
  case round =>
    obtain ⟨k, rfl, hk, hall⟩ := hrel
    by_cases hkn : k < n
    · obtain ⟨a, A', c', ea, c1, -, hC⟩ := HX.out.at_ k (by rw [HN.out]; exact hkn)
      subst ea
      obtain ⟨m, hm⟩ : ∃ m, (xss.getD k []).length = m := ⟨_, rfl⟩
      have hm9 : m ≤ 9223372036854775807 := by rw [← hm]; exact hC.2.1
      rw [hm] at c1
      have HM := Lib.hid hm
      clear hm hC
      by_cases hfar : 300 < m
      · have HF := Lib.hid (show true = b by
          rw [← HB.out]; unfold farB
          have : decide (∃ xs ∈ xss, 300 < xs.length) = true := decide_eq_true ⟨xss.getD k [], by
            rw [List.getD_eq_getElem?_getD, List.getElem?_eq_getElem (by rw [HN.out]; exact hkn)]; exact List.getElem_mem _, by rw [HM.out]; exact hfar⟩
          rw [this]; rfl)
        go_wp2_with fail
        go_ret
        exact ⟨ret_b HF.out, rfl⟩
      · go_wp2_with fail
        go_round
        case rel => exact ⟨k + 1, by go_num, by omega, Lib.hid (fun j hj => by
          by_cases e : j = k
          · subst e; rw [HM.out]; exact (by omega : ¬ 300 < m)
          · exact hall.out j (by omega))⟩
        case measure => simp [intOf]; omega
    · have HF := Lib.hid (show decide (100 < (n : Int)) = b by
        rw [← HB.out]; unfold farB
        have : decide (∃ xs ∈ xss, 300 < xs.length) = false := by
          refine decide_eq_false ?_
          rintro ⟨xs, h1, h2⟩
          obtain ⟨j, hj, rfl⟩ := List.mem_iff_getElem.1 h1
          refine hall.out j (by rw [HN.out] at hj; omega) ?_
          rw [List.getD_eq_getElem?_getD, List.getElem?_eq_getElem hj]; exact h2
        rw [this, HN.out, Bool.false_or]
        rw [Bool.eq_iff_iff]; simp; omega)
      go_wp2_with fail
      go_ret
      exact ⟨ret_b HF.out, rfl⟩
/-- What far lets in. -/
theorem farS (xss : List (List Int)) (h : farB xss = false) : xss.length ≤ 100 ∧ ∀ j, (xss.getD j []).length ≤ 300 := by
  unfold farB at h
  rw [Bool.or_eq_false_iff] at h
  have h1 := of_decide_eq_false h.1
  have h2 := of_decide_eq_false h.2
  refine ⟨by omega, fun j => ?_⟩
  rw [List.getD_eq_getElem?_getD]
  cases hj : xss[j]? with
  | none => simp
  | some xs => exact Nat.le_of_not_lt fun hl => h1 ⟨xs, List.mem_of_getElem? hj, hl⟩
theorem vmix_len (ws : List Int) (xss : List (List Int)) : (vmix ws xss).length ≤ (xss.getD 0 []).length := by
  unfold vmix
  split
  · simp
  · exact mixTo_len _ _ _
theorem vmul_len (xss : List (List Int)) (ys : List Int) : (vmul xss ys).length = xss.length := by unfold vmul; rw [tab_len]
theorem vmix_any (B A : Option Addr) (d c : Nat) (ws : List Int) (xss : List (List Int)) (w : World) (hy : (Kd.int .i64).C w B ws.length ws) (hx : Rows_ w A xss) (hs : Short xss) (hc : xss.length ≤ c) (hd : ws.length ≤ d) (hn : xss.length ≤ 4096) (hm : ws.length ≤ 4096) :
    Calls Try.prog 32 #[.slice B ws.length d, .slice A xss.length c] w fun e w' => ∃ v, e = .returned v ∧ Own w' w.heap.size 2 v (vmix ws xss) ∧ Below w.heap.size w w' := by
  by_cases hp : 0 < xss.length
  · exact vmix_some B A d c ws xss w hy hx hs hc hd hn hm hp
  · obtain rfl : xss = [] := List.eq_nil_of_length_eq_zero (by omega)
    exact (vmix_nil B A d c ws.length w).mono fun e w' ⟨h1, h2⟩ => by subst h2; exact ⟨_, h1, Kd.R_nil _ _ _ _ _, Below.refl _ _⟩
theorem rvmix_any (B A : Option Addr) (d c : Nat) (ws : List Int) (xss : List (List Int)) (w : World) (hy : (Kd.int .i64).C w B ws.length ws) (hx : Rows_ w A xss) (hs : Short xss) (hc : xss.length ≤ c) (hd : ws.length ≤ d) (hn : xss.length ≤ 4096) (hm : ws.length ≤ 4096) :
    Calls Try.prog 33 #[.slice B ws.length d, .slice A xss.length c] w fun e w' => ∃ v, e = .returned v ∧ Own w' w.heap.size 2 v (vmix ws xss) ∧ Below w.heap.size w w' := by
  by_cases hp : 0 < xss.length
  · exact rvmix_some B A d c ws xss w hy hx hs hc hd hn hm hp
  · obtain rfl : xss = [] := List.eq_nil_of_length_eq_zero (by omega)
    exact (rvmix_nil B A d c ws.length w).mono fun e w' ⟨h1, h2⟩ => by subst h2; exact ⟨_, h1, Kd.R_nil _ _ _ _ _, Below.refl _ _⟩

end Go.Proofs.Ytgedmelohiajjaa
