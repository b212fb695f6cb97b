/- Slices of slices: read, and the law's far. -/
import Derived.Test.YtgedmelohiajjaaGbL
import Derived.Test.YtgedmelohiajjaaProg
import Derived.Test.YtgedmelohiajjaaGbB
import Derived.Test.YtgedmelohiajjaaGbW
import Derived.Test.YtgedmelohiajjaaWMore
import Derived.WalkKit
import Derived.KernelRfl
import Derived.Tactics
import Derived.OwnWalk
import Derived.BigQuiet
import Derived.Deep.QuietTactic
import Derived.Lib.Hide
import Derived.Outline
import Derived.Shelf.Abstract
import Derived.WalkSpells
namespace Go.Proofs.Ytgedmelohiajjaa
open Go.RowKit Go.Shelf Go.Proofs.YtgedmelohiajjaaW.PrintWords Go.Proofs.YtgedmelohiajjaaW.PrintLast Go.Proofs.YtgedmelohiajjaaW.PrintMore
set_option linter.unusedVariables false
set_option linter.unusedSimpArgs false
attribute [local go_sem] gb_max2 gb_min2 gb_max_two gb_min_two gb_max_three gb_min_three

/-- A slice of slices of whole numbers is read. -/
def Rows_ (w : World) (A : Option Addr) (xss : List (List Int)) : Prop := (Kd.slice 2 (Kd.int .i64)).C w A xss.length xss
theorem Rows_.at_ {w : World} {A : Option Addr} {xss : List (List Int)} (h : Rows_ w A xss) (k : Nat) (hk : k < xss.length) :
    ∃ (ad : Addr) (A' : Option Addr) (c' : Nat), A = some ad ∧ w.cell? (ad.add k) = some (.slice A' (xss.getD k []).length c') ∧ (xss.getD k []).length ≤ c' ∧ (Kd.int .i64).C w A' (xss.getD k []).length (xss.getD k []) := by
  obtain ⟨ad, c, e, hl, hK, hcell⟩ := Kd.C_get h [] (k : Int) (by omega) (by omega)
  obtain ⟨A', c', rfl, h1, h2⟩ := hK
  refine ⟨ad, A', c', e, ?_, by simpa using h1, by simpa using h2⟩
  have := hcell 0 _ rfl
  simpa [show (Kd.slice 2 (Kd.int .i64)).sz = 1 from rfl] using this
theorem Rows_.below {w w1 : World} {A : Option Addr} {xss : List (List Int)} (h : Rows_ w A xss) (hb : Below w.heap.size w w1) : Rows_ w1 A xss := Kd.C_below h hb
/-- A literal of two slices. -/
theorem rows2 (W : World) (e : TypeId) (A B : Option Addr) (c d : Nat) (xs ys : List Int) (hx : (Kd.int .i64).C W A xs.length xs) (hy : (Kd.int .i64).C W B ys.length ys) (hc : xs.length ≤ c) (hd : ys.length ≤ d) :
    Rows_ (W.alloc (.cells #[.slice A xs.length c, .slice B ys.length d] e)) (some ⟨W.heap.size, 0, none⟩) [xs, ys] := by
  have hb : Below W.heap.size W (W.alloc (.cells #[.slice A xs.length c, .slice B ys.length d] e)) := (Below.refl _ W).alloc (Nat.le_refl _) _
  refine ⟨rfl, by simp, fun _ => ⟨_, rfl, fun j p hj => ?_⟩⟩
  have h1 := heap_alloc_new W (.cells #[.slice A xs.length c, .slice B ys.length d] e)
  match j, hj with
  | 0, hj =>
    obtain rfl : xs = p := by simpa using hj
    refine ⟨[.slice A xs.length c], rfl, ⟨A, c, rfl, hc, Kd.C_below hx hb⟩, fun i u hu => ?_⟩
    rw [show (Kd.slice 2 (Kd.int .i64)).sz = 1 from rfl, add_plain, blk_cell h1]
    cases i with
    | zero => simpa using hu
    | succ i => simp at hu
  | 1, hj =>
    obtain rfl : ys = p := by simpa using hj
    refine ⟨[.slice B ys.length d], rfl, ⟨B, d, rfl, hd, Kd.C_below hy hb⟩, fun i u hu => ?_⟩
    rw [show (Kd.slice 2 (Kd.int .i64)).sz = 1 from rfl, add_plain, blk_cell h1]
    cases i with
    | zero => simpa using hu
    | succ i => simp at hu
  | j + 2, hj => simp at hj
/-- A literal of one slice. -/
theorem rows1 (W : World) (e : TypeId) (A : Option Addr) (c : Nat) (xs : List Int) (hx : (Kd.int .i64).C W A xs.length xs) (hc : xs.length ≤ c) :
    Rows_ (W.alloc (.cells #[.slice A xs.length c] e)) (some ⟨W.heap.size, 0, none⟩) [xs] := by
  have hb : Below W.heap.size W (W.alloc (.cells #[.slice A xs.length c] e)) := (Below.refl _ W).alloc (Nat.le_refl _) _
  refine ⟨rfl, by simp, fun _ => ⟨_, rfl, fun j p hj => ?_⟩⟩
  have h1 := heap_alloc_new W (.cells #[.slice A xs.length c] e)
  match j, hj with
  | 0, hj =>
    obtain rfl : xs = p := by simpa using hj
    refine ⟨[.slice A xs.length c], rfl, ⟨A, c, rfl, hc, Kd.C_below hx hb⟩, fun i u hu => ?_⟩
    rw [show (Kd.slice 2 (Kd.int .i64)).sz = 1 from rfl, add_plain, blk_cell h1]
    cases i with
    | zero => simpa using hu
    | succ i => simp at hu
  | j + 1, hj => simp at hj

def farB (xss : List (List Int)) : Bool := decide (∃ xs ∈ xss, 300 < xs.length) || decide (100 < xss.length)
def FarR (xss : List (List Int)) (w : World) (e : Ending) (w' : World) : Prop := e = .returned (.bool (farB xss)) ∧ w = w'

theorem far_any (A : Option Addr) (c : Nat) (xss : List (List Int)) (w : World) (hx : Rows_ w A xss) (hn : xss.length ≤ 4611686018427387904) :
    Calls Try.prog 15 #[.slice A xss.length c] w (FarR xss w) := by
  have HX := Lib.hid hx
  obtain ⟨b, hb⟩ : ∃ b, farB xss = b := ⟨_, rfl⟩
  have HB := Lib.hid hb
  unfold FarR
  rw [hb]
  obtain ⟨n, hnn⟩ : ∃ n, xss.length = n := ⟨_, rfl⟩
  rw [hnn] at hn ⊢
  have HN := Lib.hid hnn
  clear hx hb hnn
  go_enter Try.func15, Try.ntmps15
  go_wp2_with fail
  go_loop [7] (fun s => ∃ k : Nat, s = .int .i64 k ∧ k ≤ n ∧ Hid (∀ j, j < k → ¬ 300 < (xss.getD j []).length)) (fun s => n - (intOf s).toNat)
  case atStart => exact ⟨0, rfl, by omega, Lib.hid (fun j hj => absurd hj (Nat.not_lt_zero _))⟩
  case round =>
    obtain ⟨k, rfl, hk, hall⟩ := hrel
    by_cases hkn : k < n
    · obtain ⟨a, A', c', ea, c1, -, hC⟩ := HX.out.at_ k (by rw [HN.out]; exact hkn)
      subst ea
      obtain ⟨m, hm⟩ : ∃ m, (xss.getD k []).length = m := ⟨_, rfl⟩
      have hm9 : m ≤ 9223372036854775807 := by rw [← hm]; exact hC.2.1
      rw [hm] at c1
      have HM := Lib.hid hm
      clear hm hC
      by_cases hfar : 300 < m
      · have HF := Lib.hid (show true = b by
          rw [← HB.out]; unfold farB
          have : decide (∃ xs ∈ xss, 300 < xs.length) = true := decide_eq_true ⟨xss.getD k [], by
            rw [List.getD_eq_getElem?_getD, List.getElem?_eq_getElem (by rw [HN.out]; exact hkn)]; exact List.getElem_mem _, by rw [HM.out]; exact hfar⟩
          rw [this]; rfl)
        go_wp2_with fail
        go_ret
        exact ⟨ret_b HF.out, rfl⟩
      · go_wp2_with fail
        go_round
        case rel => exact ⟨k + 1, by go_num, by omega, Lib.hid (fun j hj => by
          by_cases e : j = k
          · subst e; rw [HM.out]; exact (by omega : ¬ 300 < m)
          · exact hall.out j (by omega))⟩
        case measure => simp [intOf]; omega
    · have HF := Lib.hid (show decide (100 < (n : Int)) = b by
        rw [← HB.out]; unfold farB
        have : decide (∃ xs ∈ xss, 300 < xs.length) = false := by
          refine decide_eq_false ?_
          rintro ⟨xs, h1, h2⟩
          obtain ⟨j, hj, rfl⟩ := List.mem_iff_getElem.1 h1
          refine hall.out j (by rw [HN.out] at hj; omega) ?_
          rw [List.getD_eq_getElem?_getD, List.getElem?_eq_getElem hj]; exact h2
        rw [this, HN.out, Bool.false_or]
        rw [Bool.eq_iff_iff]; simp; omega)
      go_wp2_with fail
      go_ret
      exact ⟨ret_b HF.out, rfl⟩

/-- A slice of integers that came in, as the shell of a law tells it. -/
theorem isrow_C {k : IntKind} {w : World} {a : Option Addr} {len cap : Nat} {zs : List Int}
    (h : (a = none ∧ len = 0 ∧ cap = 0 ∧ zs = []) ∨ ∃ x, a = some x ∧ len ≤ cap ∧ cap ≤ maxLen ∧ zs.length = cap ∧ (∀ i, i < zs.length → w.cell? (x.add i) = some (.int k (zs.getD i 0))) ∧ ∀ n ∈ zs, (Lit.int k n).wf = true) :
    ∃ xs : List Int, len = xs.length ∧ (Kd.int k).C w a xs.length xs ∧ xs.length ≤ cap ∧ (∀ n ∈ xs, (Lit.int k n).wf = true) := by
  rcases h with ⟨rfl, rfl, rfl, rfl⟩ | ⟨x, rfl, h1, h2, h3, h4, h5⟩
  · exact ⟨[], rfl, ⟨rfl, by simp, fun h => absurd h (Nat.lt_irrefl 0)⟩, by simp, by simp⟩
  · have hl : (zs.take len).length = len := by rw [List.length_take]; omega
    refine ⟨zs.take len, hl.symm, ⟨rfl, by rw [hl]; unfold maxLen at h2; omega, fun _ => ⟨x, rfl, fun j p hj => ⟨[.int k p], rfl, rfl, fun i u hu => ?_⟩⟩⟩, by omega, fun n hn => h5 n (List.mem_of_mem_take hn)⟩
    obtain ⟨hj1, hj2⟩ := List.getElem?_eq_some_iff.1 hj
    have hj3 : j < zs.length := by omega
    cases i with
    | zero =>
      have : Value.int k p = u := by simpa using hu
      subst this
      rw [show (Kd.int k).sz = 1 from rfl, Nat.mul_one, Nat.add_zero, h4 j hj3]
      rw [List.getD_eq_getElem?_getD, List.getElem?_eq_getElem hj3]
      rw [List.getElem_take] at hj2
      rw [← hj2]; rfl
    | succ i => simp at hu

end Go.Proofs.Ytgedmelohiajjaa
