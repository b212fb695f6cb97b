/- A table, as it lies; what it knows, and how many it has. -/
import Derived.Test.YtmbhicjjbgbneaaAdA
import Derived.Maps.RangeWalk
namespace Go.Proofs.Ytmbhicjjbgbneaa
open Go.RowKit Go.Shelf Go.Proofs.YtmbhicjjbgbneaaW.PrintWords Go.Proofs.YtmbhicjjbgbneaaW.PrintLast Go.Proofs.YtmbhicjjbgbneaaW.PrintMore
set_option linter.unusedVariables false
set_option linter.unusedSimpArgs false
set_option maxRecDepth 100000
structure TSet where
  seed : Int
  vocab : Int
  dim : Int
  layers : Int
  top : Int
  heat : Int
  streams : Int
  each : Int
  prompt : Int
  most : Int
def TSet.cells (s : TSet) (mA mP : Nat) (lv : Value) : Array Value := #[.int .u64 s.seed, .int .i64 s.vocab, .int .i64 s.dim, .int .i64 s.layers, .int .i64 s.top, .int .i64 s.heat, .int .i64 s.streams, .int .i64 s.each, .int .i64 s.prompt, .int .i64 s.most, .map (some mA), .map (some mP), lv]
def encA (L : List (Int × Int)) : List (Int × Value) := L.map (fun e => (e.1, .int .u64 e.2))
def encP (L : List Int) : List (Int × Value) := L.map (fun k => (k, .bool true))
theorem encA_look (L : List (Int × Int)) (k : Int) : mlook (encA L) k = (mlook L k).map (Value.int .u64) := by
  induction L with
  | nil => rfl
  | cons e l ih =>
    obtain ⟨a, u⟩ := e
    show mlook ((a, Value.int .u64 u) :: encA l) k = _
    unfold mlook
    split
    · rfl
    · exact ih
theorem encA_put (L : List (Int × Int)) (k v : Int) : mput (encA L) k (.int .u64 v) = encA (mput L k v) := by
  induction L with
  | nil => rfl
  | cons e l ih =>
    obtain ⟨a, u⟩ := e
    show mput ((a, Value.int .u64 u) :: encA l) k _ = _
    unfold mput
    split
    · rfl
    · rw [ih]; rfl
theorem encA_del (L : List (Int × Int)) (k : Int) : mdel (encA L) k = encA (mdel L k) := by
  induction L with
  | nil => rfl
  | cons e l ih =>
    obtain ⟨a, u⟩ := e
    show mdel ((a, Value.int .u64 u) :: encA l) k = _
    unfold mdel
    split
    · rfl
    · rw [ih]; rfl
theorem encA_len (L : List (Int × Int)) : (encA L).length = L.length := by unfold encA; rw [List.length_map]
theorem encP_look (L : List Int) (k : Int) : mlook (encP L) k = if k ∈ L then some (.bool true) else none := by
  induction L with
  | nil => rfl
  | cons a l ih =>
    show mlook ((a, Value.bool true) :: encP l) k = _
    unfold mlook
    split
    · rename_i h; rw [if_pos (by rw [h]; exact List.mem_cons_self)]
    · rename_i h
      rw [ih]
      by_cases hk : k ∈ l
      · rw [if_pos hk, if_pos (List.mem_cons_of_mem _ hk)]
      · rw [if_neg hk, if_neg (fun e => by
          rcases List.mem_cons.1 e with e | e
          · exact h e.symm
          · exact hk e)]
/-- A table at p. -/
structure Tt (W : World) (p mA mP : Nat) (st : TSet) (all : List (Int × Int)) (past : List Int) (lv : Value) : Prop where
  box : W.heap[p]? = some (.cells (st.cells mA mP lv) 56 (0, 0))
  all_ : IsMp (Value.int .u64) W mA (encA all)
  past_ : IsMp (Value.int .u64) W mP (encP past)
  ne : mA ≠ mP
theorem zu64 (w : World) : (zeroValue 22).run Try.prog w = .ok (.int .u64 0) w := by kernel_rfl
theorem zbool (w : World) : (zeroValue 4).run Try.prog w = .ok (.bool false) w := by kernel_rfl
section
variable {W W' : World} {p mA mP : Nat} {st : TSet} {all : List (Int × Int)} {past : List Int} {lv : Value}
theorem Tt.below (h : Tt W p mA mP st all past lv) (hb : Below W.heap.size W W') : Tt W' p mA mP st all past lv := ⟨blk_below h.box hb, h.all_.below hb, h.past_.below hb, h.ne⟩
theorem Tt.cA (h : Tt W p mA mP st all past lv) : W.cell? ⟨p, 10, none⟩ = some (.map (some mA)) := blk_cell h.box 10
theorem Tt.cP (h : Tt W p mA mP st all past lv) : W.cell? ⟨p, 11, none⟩ = some (.map (some mP)) := blk_cell h.box 11
theorem adok_in (h : Tt W p mA mP st all past lv) : Calls Try.prog 53 #[.pointer (some ⟨p, 0, none⟩)] W fun e w' => e = .returned (.bool true) ∧ W = w' := by
  have k0 := h.cA
  have hm := run_neq_map_nil (P := Try.prog) W 54 22 22 (some mA) Try.underlying54
  rw [show (!(some mA).isNone) = true from rfl] at hm
  clear h
  go_enter Try.func53, Try.ntmps53
  go_wp2_with fail
  go_ret
  exact ⟨rfl, rfl⟩
theorem adknows_in (h : Tt W p mA mP st all past lv) (s : Int) : Calls Try.prog 24 #[.pointer (some ⟨p, 0, none⟩), .int .u64 s] W fun e w' => e = .returned (.bool ((mlook all s).isSome || decide (s ∈ past))) ∧ W = w' := by
  have HO := Lib.hid (adok_in h)
  have k0 := h.cA
  have k1 := h.cP
  have hl := run_mlook (P := Try.prog) Try.underlying54 (key_int Try.underlying22) (zu64 W) h.all_ s true
  have hl2 := run_mlook (P := Try.prog) Try.underlying53 (key_int Try.underlying22) (zbool W) h.past_ s false
  rw [encA_look] at hl
  rw [encP_look] at hl2
  cases hs : mlook all s with
  | some u =>
    rw [hs] at hl
    have hl' : (Instr.lookup 54 (.map (some mA)) (.int .u64 s) true).run Try.prog W = .ok (.tuple #[.int .u64 u, .bool true]) W := hl
    clear h hl hl2 hs
    go_enter Try.func24, Try.ntmps24
    go_wp2_with fail
    refine HO.out.mono ?_
    rintro e w' ⟨rfl, rfl⟩
    go_wp2_with fail
    go_ret
    exact ⟨rfl, rfl⟩
  | none =>
    rw [hs] at hl
    have hl' : (Instr.lookup 54 (.map (some mA)) (.int .u64 s) true).run Try.prog W = .ok (.tuple #[.int .u64 0, .bool false]) W := hl
    have hl2' : (Instr.lookup 53 (.map (some mP)) (.int .u64 s) false).run Try.prog W = .ok (.bool (decide (s ∈ past))) W := by
      by_cases hm : s ∈ past
      · rw [decide_eq_true hm]; rw [if_pos hm] at hl2; exact hl2
      · rw [decide_eq_false hm]; rw [if_neg hm] at hl2; exact hl2
    obtain ⟨b, hb⟩ : ∃ b, decide (s ∈ past) = b := ⟨_, rfl⟩
    rw [hb] at hl2' ⊢
    clear h hl hl2 hs hb
    go_enter Try.func24, Try.ntmps24
    go_wp2_with fail
    refine HO.out.mono ?_
    rintro e w' ⟨rfl, rfl⟩
    go_wp2_with fail
    go_ret
    exact ⟨rfl, rfl⟩
/-- How many of a session there are. -/
def isU (u : Int) : Value → Bool
  | .int .u64 y => decide (y = u)
  | _ => false
def cntS (L : List (Int × Value)) (u : Int) : Nat := (L.filter (fun e => isU u e.2)).length
theorem cntS_app (A B : List (Int × Value)) (u : Int) : cntS (A ++ B) u = cntS A u + cntS B u := by unfold cntS; rw [List.filter_append, List.length_append]
theorem adof_in (h : Tt W p mA mP st all past lv) (u : Int) (hl : all.length ≤ 1000000) : Calls Try.prog 22 #[.pointer (some ⟨p, 0, none⟩), .int .u64 u] W fun e w' => e = .returned (.int .i64 (cntS (encA all) u)) ∧ Below W.heap.size W w' := by
  have HO := Lib.hid (adok_in h)
  have k0 := h.cA
  obtain ⟨w1, hrun, hrg, hb, hsz⟩ := run_mrange (P := Try.prog) Try.underlying54 h.all_
  have hc : cntS (encA all) u ≤ 1000000 := Nat.le_trans (List.length_filter_le _ _) (by rw [encA_len]; exact hl)
  obtain ⟨C, hC⟩ : ∃ C, cntS (encA all) u = C := ⟨_, rfl⟩
  have HC := Lib.hid hC
  rw [hC] at hc ⊢
  have HRG := Lib.hid hrg
  have HB := Lib.hid hb
  have HEA := Lib.hid (fun e (he : e ∈ encA all) => show ∃ y : Int, e.2 = .int .u64 y by
    unfold encA at he
    obtain ⟨x, -, rfl⟩ := List.mem_map.1 he
    exact ⟨_, rfl⟩)
  clear h hrg hb hsz hC hl
  go_enter Try.func22, Try.ntmps22
  go_wp2_with fail
  refine HO.out.mono ?_
  rintro e w' ⟨rfl, rfl⟩
  go_wp2_with fail
  go_loopw [5, 7] (fun nv sv wr => ∃ (n : Nat) (left : List (Int × Value)) (s' : Value), s' = sv ∧ nv = .int .i64 n ∧ n ≤ 1000000 ∧ Hid (n + cntS left u = C) ∧ Hid (∀ e ∈ left, ∃ y : Int, e.2 = .int .u64 y) ∧ Hid (Rg (Value.int .u64) wr mA W.heap.size (encA all) left) ∧ Hid (Below W.heap.size W wr)) (fun _ _ wr => wr.rangeLeft mA W.heap.size)
  case atStart => exact ⟨0, encA all, _, rfl, rfl, by omega, Lib.hid (by rw [Nat.zero_add]; exact HC.out), HEA, HRG, HB⟩
  case round =>
    obtain ⟨n, left, sv, rfl, rfl, hn, HN, HL, HR, HBr⟩ := hrel
    have hmeas := HR.out.left_eq
    have HME := Lib.hid hmeas
    clear hmeas
    rcases run_mnext (P := Try.prog) HR.out 0 with ⟨hl0, hrun⟩ | ⟨e, l1, l2, w', hl0, hrun, hrg, hg, hsz, hen⟩
    · subst hl0
      have hCn : (n : Int) = C := by have h := HN.out; unfold cntS at h; simp at h; omega
      have HCN := Lib.hid hCn
      clear hCn
      go_wp2_with fail
      go_ret
      exact ⟨by rw [← HCN.out]; rfl, HBr.out⟩
    · subst hl0
      obtain ⟨y, hy⟩ := HL.out e (by simp)
      obtain ⟨k, v⟩ := e
      dsimp only at hy hrun hen
      subst hy
      have HRG := Lib.hid hrg
      have HL' := Lib.hid (fun e (he : e ∈ l1 ++ l2) => HL.out e (by
        rcases List.mem_append.1 he with he | he
        · exact List.mem_append_left _ he
        · exact List.mem_append_right _ (List.mem_cons_of_mem _ he)))
      have hcs : cntS (l1 ++ (k, Value.int .u64 y) :: l2) u = cntS (l1 ++ l2) u + (if y = u then 1 else 0) := by
        rw [cntS_app, cntS_app]
        unfold cntS
        by_cases h : y = u
        · have hu : isU u (Value.int .u64 y) = true := decide_eq_true h
          rw [if_pos h, List.filter_cons_of_pos (by exact hu), List.length_cons]; omega
        · have hu : ¬ isU u (Value.int .u64 y) = true := by show ¬ decide (y = u) = true; simpa using h
          rw [if_neg h, List.filter_cons_of_neg (by exact hu)]; omega
      have HCS := Lib.hid hcs
      have HB2 := Lib.hid (Tn.below ((Tn.refl (fun k => k = W.heap.size) wr).grown hg (.inl rfl)) (base := W.heap.size) (fun k hk => Nat.le_of_eq hk.symm) HBr.out.size)
      have HB3 := Lib.hid (HBr.out.trans HB2.out)
      have HM2 := Lib.hid (show w'.rangeLeft mA W.heap.size < wr.rangeLeft mA W.heap.size by rw [hrg.left_eq, HME.out, List.length_append, List.length_append, List.length_cons]; omega)
      have HCM := Lib.hid (show n + (if y = u then 1 else 0) ≤ 1000000 by have h1 := HN.out; rw [hcs] at h1; omega)
      clear hrg hg hsz hcs
      by_cases hyu : y = u
      · subst hyu
        have hn1 : n + 1 ≤ 1000000 := by have h := HCM.out; rw [if_pos rfl] at h; exact h
        go_wp2_with fail
        go_roundw
        case rel => exact ⟨n + 1, l1 ++ l2, _, rfl, by go_num, hn1, Lib.hid (by have h1 := HN.out; rw [HCS.out, if_pos rfl] at h1; omega), HL', HRG, HB3⟩
        case measure => exact HM2.out
      · have hd : (y == u) = false := by simpa using hyu
        have HD := Lib.hid hyu
        clear hyu
        go_wp2_with fail
        go_roundw
        case rel => exact ⟨n, l1 ++ l2, _, rfl, rfl, hn, Lib.hid (by have h1 := HN.out; rw [HCS.out, if_neg HD.out] at h1; omega), HL', HRG, HB3⟩
        case measure => exact HM2.out
end
end Go.Proofs.Ytmbhicjjbgbneaa
