/- Small helpers of the law 10. -/
import Derived.Test.YtdfgmdmcdnnhfaaAtT
import Derived.Test.YtdfgmdmcdnnhfaaMoQ
namespace Go.Proofs.Ytdfgmdmcdnnhfaa
open Go.RowKit Go.Shelf Go.Proofs.YtdfgmdmcdnnhfaaW.PrintWords Go.Proofs.YtdfgmdmcdnnhfaaW.PrintLast Go.Proofs.YtdfgmdmcdnnhfaaW.PrintMore
set_option linter.unusedVariables false
set_option linter.unusedSimpArgs false
set_option maxRecDepth 100000

theorem small_any (W : World) : Calls Try.prog 56 #[] W fun e w' => e = .returned (.agg #[.int .u64 5, .int .i64 4, .int .i64 2, .int .i64 2, .int .i64 1, .int .i64 0]) ∧ Below W.heap.size W w' := by
  go_enter Try.func56, Try.ntmps56
  go_wp2_with fail
  refine bodyPost_ret (results_cell_row rfl _ _ W.heap.size 24 #[.int .u64 5, .int .i64 4, .int .i64 2, .int .i64 2, .int .i64 1, .int .i64 0] (0, 0) _ rfl (heap_alloc_new W _) Try.underlying24 rfl (by kernel_rfl)) rfl ?_
  exact ⟨rfl, below_alloc (Below.refl _ W) _⟩

/-- A slice of tables is read. -/
abbrev Tabs (w : World) (A : Option Addr) (ts : List (List (List Int))) : Prop := KTab.C w A ts.length ts
theorem tabs_at {w : World} {A : Option Addr} {ts : List (List (List Int))} (h : Tabs w A ts) (k : Nat) (hk : k < ts.length) :
    ∃ (ad : Addr) (A' : Option Addr) (c' : Nat), A = some ad ∧ w.cell? (ad.add k) = some (.slice A' (ts.getD k []).length c') ∧ (ts.getD k []).length ≤ c' ∧ Rows_ w A' (ts.getD k []) := by
  obtain ⟨ad, c, e, hl, hK, hcell⟩ := Kd.C_get h [] (k : Int) (by omega) (by omega)
  obtain ⟨A', c', rfl, h1, h2⟩ := hK
  refine ⟨ad, A', c', e, ?_, by simpa using h1, by have h3 : Rows_ w A' (ts.getD (k : Int).toNat []) := h2; rwa [Int.toNat_natCast] at h3⟩
  have := hcell 0 _ rfl
  simpa [show KTab.sz = 1 from rfl] using this
def NearTabs (ts : List (List (List Int))) : Prop := ∀ t ∈ ts, t.length ≤ 30 ∧ ∀ r ∈ t, r.length ≤ 40
theorem near_take {ts : List (List (List Int))} {i : Nat} (h : NearTabs (ts.take i)) (hi : i < ts.length) (h1 : (ts.getD i []).length ≤ 30) (h2 : ∀ r ∈ (ts.getD i []).take (ts.getD i []).length, r.length ≤ 40) : NearTabs (ts.take (i + 1)) := by
  intro t ht
  rw [List.take_succ_eq_append_getElem hi] at ht
  rcases List.mem_append.1 ht with ht | ht
  · exact h t ht
  · obtain rfl : t = ts[i] := by simpa using ht
    rw [List.getD_eq_getElem?_getD, List.getElem?_eq_getElem hi, List.take_length] at *
    exact ⟨h1, h2⟩
theorem near_row {t : List (List Int)} {j : Nat} (h : ∀ r ∈ t.take j, r.length ≤ 40) (hj : j < t.length) (h1 : (t.getD j []).length ≤ 40) : ∀ r ∈ t.take (j + 1), r.length ≤ 40 := by
  intro r hr
  rw [List.take_succ_eq_append_getElem hj] at hr
  rcases List.mem_append.1 hr with hr | hr
  · exact h r hr
  · obtain rfl : r = t[j] := by simpa using hr
    rwa [List.getD_eq_getElem?_getD, List.getElem?_eq_getElem hj] at h1

/-- Literals of two tables, of one. -/
theorem tabs2 (W : World) (e : TypeId) (A B : Option Addr) (c d : Nat) (xs ys : List (List Int)) (hx : Rows_ W A xs) (hy : Rows_ W B ys) (hc : xs.length ≤ c) (hd : ys.length ≤ d) :
    Tabs (W.alloc (.cells #[.slice A xs.length c, .slice B ys.length d] e)) (some ⟨W.heap.size, 0, none⟩) [xs, ys] := by
  have hb : Below W.heap.size W (W.alloc (.cells #[.slice A xs.length c, .slice B ys.length d] e)) := (Below.refl _ W).alloc (Nat.le_refl _) _
  refine ⟨rfl, by simp, fun _ => ⟨_, rfl, fun j p hj => ?_⟩⟩
  have h1 := heap_alloc_new W (.cells #[.slice A xs.length c, .slice B ys.length d] e)
  match j, hj with
  | 0, hj =>
    obtain rfl : xs = p := by simpa using hj
    refine ⟨[.slice A xs.length c], rfl, ⟨A, c, rfl, hc, hx.below hb⟩, fun i u hu => ?_⟩
    rw [show KTab.sz = 1 from rfl, add_plain, blk_cell h1]
    cases i with
    | zero => simpa using hu
    | succ i => simp at hu
  | 1, hj =>
    obtain rfl : ys = p := by simpa using hj
    refine ⟨[.slice B ys.length d], rfl, ⟨B, d, rfl, hd, hy.below hb⟩, fun i u hu => ?_⟩
    rw [show KTab.sz = 1 from rfl, add_plain, blk_cell h1]
    cases i with
    | zero => simpa using hu
    | succ i => simp at hu
  | j + 2, hj => simp at hj
theorem tabs1 (W : World) (e : TypeId) (A : Option Addr) (c : Nat) (xs : List (List Int)) (hx : Rows_ W A xs) (hc : xs.length ≤ c) :
    Tabs (W.alloc (.cells #[.slice A xs.length c] e)) (some ⟨W.heap.size, 0, none⟩) [xs] := by
  have hb : Below W.heap.size W (W.alloc (.cells #[.slice A xs.length c] e)) := (Below.refl _ W).alloc (Nat.le_refl _) _
  refine ⟨rfl, by simp, fun _ => ⟨_, rfl, fun j p hj => ?_⟩⟩
  have h1 := heap_alloc_new W (.cells #[.slice A xs.length c] e)
  match j, hj with
  | 0, hj =>
    obtain rfl : xs = p := by simpa using hj
    refine ⟨[.slice A xs.length c], rfl, ⟨A, c, rfl, hc, hx.below hb⟩, fun i u hu => ?_⟩
    rw [show KTab.sz = 1 from rfl, add_plain, blk_cell h1]
    cases i with
    | zero => simpa using hu
    | succ i => simp at hu
  | j + 1, hj => simp at hj
theorem near_short {t : List (List Int)} (h : ∀ r ∈ t, r.length ≤ 40) : Short t := by
  intro j
  rw [List.getD_eq_getElem?_getD]
  rcases Nat.lt_or_ge j t.length with hj | hj
  · rw [List.getElem?_eq_getElem hj]; exact Nat.le_trans (h _ (List.getElem_mem hj)) (by omega)
  · rw [List.getElem?_eq_none hj]; simp
def FarR (n : Nat) (ts : List (List (List Int))) (W : World) (e : Ending) (w' : World) : Prop := ∃ b, e = .returned (.bool b) ∧ (b = false → n ≤ 40 ∧ NearTabs ts) ∧ Drawn0 W w'
set_option maxHeartbeats 1000000 in
theorem far10_any (W : World) (A B : Option Addr) (n px pl : Nat) (ts : List (List (List Int))) (hT : Tabs W B ts) :
    Calls Try.prog 19 #[.slice A n px, .slice B ts.length pl] W (FarR n ts W) := by
  obtain ⟨N, hN⟩ : ∃ N, ts.length = N := ⟨_, rfl⟩
  have hN2 : N ≤ 9223372036854775807 := by rw [← hN]; exact hT.2.1
  have HT := Lib.hid hT
  have HN := Lib.hid hN
  rw [hN]
  clear hT hN
  unfold FarR
  go_enter Try.func19, Try.ntmps19
  go_wp2_with fail
  go_loopw [11] (fun s wr => ∃ i : Nat, s = .int .i64 i ∧ i ≤ N ∧ Hid (NearTabs (ts.take i)) ∧ Drawn0 W wr) (fun s _ => N - (intOf s).toNat)
  case atStart => exact ⟨0, rfl, by omega, Lib.hid (fun t ht => absurd ht (by simp)), Drawn0.refl _⟩
  case round =>
    obtain ⟨i, rfl, hi, hF, hdr⟩ := hrel
    have HDR := Lib.hid hdr
    clear hdr
    by_cases hiN : i < N
    · obtain ⟨b, A', c', e1, q0, hc1, hR⟩ := tabs_at HT.out i (by rw [HN.out]; exact hiN)
      have q1 := pw_cell_below HDR.out.below q0
      clear q0
      subst e1
      obtain ⟨t, ht⟩ : ∃ t, ts.getD i [] = t := ⟨_, rfl⟩
      rw [ht] at q1 hc1 hR
      obtain ⟨m, hm⟩ : ∃ m, t.length = m := ⟨_, rfl⟩
      have hm2 : m ≤ 9223372036854775807 := by rw [← hm]; exact hR.2.1
      have HTT := Lib.hid ht
      have HM := Lib.hid hm
      have HR := Lib.hid hR
      rw [hm] at q1 hc1
      clear ht hm hR hc1
      by_cases h30 : 30 < m
      · have z : decide ((30 : Int) < (m : Int)) = true := decide_eq_true (by omega)
        go_wp2_with fail
        go_ret
        exact ⟨true, rfl, by simp, HDR.out⟩
      · have z : decide ((30 : Int) < (m : Int)) = false := decide_eq_false (by omega)
        go_wp2_with fail
        go_loopw [20] (fun s wr => ∃ j : Nat, s = .int .i64 j ∧ j ≤ m ∧ Hid (∀ r ∈ t.take j, r.length ≤ 40) ∧ Drawn0 W wr) (fun s _ => m - (intOf s).toNat)
        case atStart => exact ⟨0, rfl, by omega, Lib.hid (fun t ht => absurd ht (by simp)), HDR.out⟩
        case round =>
          obtain ⟨j, rfl, hj, hG, hdr⟩ := hrel
          have HDR2 := Lib.hid hdr
          clear hdr
          by_cases hjm : j < m
          · obtain ⟨b', A2, c2, e2, q2, hc2, -⟩ := (show Rows_ wr A' t from Kd.C_below HR.out HDR2.out.below).at_ j (by rw [HM.out]; exact hjm)
            subst e2
            obtain ⟨r, hr⟩ : ∃ r, (t.getD j []).length = r := ⟨_, rfl⟩
            rw [hr] at q2 hc2
            have HRR := Lib.hid hr
            clear hr
            by_cases h40 : 40 < r
            · have z : decide ((40 : Int) < (r : Int)) = true := decide_eq_true (by omega)
              go_wp2_with fail
              go_ret
              exact ⟨true, rfl, by simp, HDR2.out⟩
            · have z : decide ((40 : Int) < (r : Int)) = false := decide_eq_false (by omega)
              have HG2 := Lib.hid (near_row hG.out (by rw [HM.out]; exact hjm) (by rw [HRR.out]; omega))
              go_wp2_with fail
              go_roundw
              case rel => exact ⟨j + 1, by go_num, by omega, HG2, HDR2.out⟩
              case measure => simp [intOf]; omega
          · have HF2 := Lib.hid (near_take hF.out (by rw [HN.out]; exact hiN) (by rw [HTT.out, HM.out]; omega) (by rw [HTT.out, HM.out, show m = j by omega]; exact hG.out))
            go_wp2_with fail
            go_roundw
            case rel => exact ⟨i + 1, by go_num, by omega, HF2, HDR2.out⟩
            case measure => simp [intOf]; omega
    · have HE := Lib.hid (show NearTabs ts by have h := hF.out; rwa [List.take_of_length_le (by rw [HN.out]; omega)] at h)
      by_cases h40 : 40 < n
      · have z : decide ((40 : Int) < (n : Int)) = true := decide_eq_true (by omega)
        go_wp2_with fail
        go_ret
        exact ⟨_, rfl, by simp, HDR.out⟩
      · have z : decide ((40 : Int) < (n : Int)) = false := decide_eq_false (by omega)
        go_wp2_with fail
        go_ret
        exact ⟨_, rfl, fun _ => ⟨by omega, HE.out⟩, HDR.out⟩

end Go.Proofs.Ytdfgmdmcdnnhfaa
