/- What a member list answers. -/
import Derived.Test.YtmbhicjjbgbneaaMbB
namespace Go.Proofs.Ytmbhicjjbgbneaa
open Go.RowKit Go.Shelf Go.Proofs.YtmbhicjjbgbneaaW.PrintWords Go.Proofs.YtmbhicjjbgbneaaW.PrintLast Go.Proofs.YtmbhicjjbgbneaaW.PrintMore
set_option linter.unusedVariables false
set_option linter.unusedSimpArgs false
set_option maxRecDepth 100000
theorem mb_max2 (k k' : IntKind) (x y : Int) : Builtin.max2 (.int k x) (.int k' y) = pure (.int k (max x y)) := by
  have h : max x y = if x < y then y else x := by split <;> omega
  rw [h]; simp only [Builtin.max2, gt_iff_lt]
attribute [local go_sem] mb_max2
theorem zrep (w : World) : (zeroValue 112).run Try.prog w = .ok (.pointer none) w := by kernel_rfl
/-- The time, behind a call at t. -/
def lat (now t : Int) : Int := if t ≤ 1099511627776 then max now t else now
section
variable {W : World} {p m : Nat} {now last : Int} {L : List (Int × RpV)}
theorem mbok_in (h : Mb W p m now last L) : Calls Try.prog 58 #[.pointer (some ⟨p, 0, none⟩)] W fun e w' => e = .returned (.bool true) ∧ W = w' := by
  obtain ⟨k0, k1, k2⟩ := h.at_
  have hm := run_neq_map_nil (P := Try.prog) W 93 22 112 (some m) Try.underlying93
  rw [show (!(some m).isNone) = true from rfl] at hm
  clear h
  go_enter Try.func58, Try.ntmps58
  go_wp2_with fail
  go_ret
  exact ⟨rfl, rfl⟩
def LatR (W : World) (p m : Nat) (now last : Int) (L : List (Int × RpV)) (w' : World) : Prop := Mb w' p m now last L ∧ Tn (fun k => k = p) W w'
theorem mblater_in (h : Mb W p m now last L) (t : Int) : Calls Try.prog 63 #[.pointer (some ⟨p, 0, none⟩), .int .i64 t] W fun e w' => e = .returned (.tuple #[]) ∧ LatR W p m (lat now t) last L w' := by
  obtain ⟨k0, k1, k2⟩ := h.at_
  have f0 := blk_frozen h.box 0
  have HM := Lib.hid (h.put0 (max now t))
  have HT := Lib.hid ((Tn.refl (fun k => k = p) W).put p 0 (.int .i64 (max now t)) (.inl rfl))
  have H := Lib.hid h
  unfold LatR lat
  clear h
  by_cases ht : t ≤ 1099511627776
  · rw [if_pos ht]
    by_cases hx : now < t
    · have e : max now t = t := by omega
      rw [e] at HM HT ⊢
      clear e
      go_enter Try.func63, Try.ntmps63
      go_wp2_with fail
      go_end0
      exact ⟨rfl, HM.out, HT.out⟩
    · have e : max now t = now := by omega
      rw [e] at HM HT ⊢
      clear e
      go_enter Try.func63, Try.ntmps63
      go_wp2_with fail
      go_end0
      exact ⟨rfl, HM.out, HT.out⟩
  · rw [if_neg ht]
    go_enter Try.func63, Try.ntmps63
    go_wp2_with fail
    go_end0
    exact ⟨rfl, H.out, Tn.refl _ _⟩
def FindR (W : World) (p m : Nat) (now last : Int) (L : List (Int × RpV)) (v : Value) (k : Int) (e : Ending) (w' : World) : Prop := e = .returned (.tuple #[v, .int .i64 k]) ∧ Mb w' p m now last L ∧ Tn (fun k => k = p) W w'
theorem mbfind_hit (h : Mb W p m now last L) (t id : Int) (v : RpV) (hl : mlook L id = some v) : Calls Try.prog 65 #[.pointer (some ⟨p, 0, none⟩), .int .i64 t, .int .u64 id] W (FindR W p m (lat now t) last L (rpP v) 0) := by
  have HO := Lib.hid (mbok_in h)
  have HLT := Lib.hid (mblater_in h t)
  unfold FindR
  clear h
  go_enter Try.func65, Try.ntmps65
  go_wp2_with fail
  refine HO.out.mono ?_
  rintro e w' ⟨rfl, rfl⟩
  go_wp2_with fail
  refine HLT.out.mono ?_
  rintro e w1 ⟨rfl, hM, hT⟩
  obtain ⟨k0, k1, k2⟩ := hM.at_
  have hlk := run_mlook (P := Try.prog) Try.underlying93 (key_int Try.underlying22) (zrep w1) hM.mp id false
  rw [ptrs_look, hl] at hlk
  have hlk' : (Instr.lookup 93 (.map (some m)) (.int .u64 id) false).run Try.prog w1 = .ok (.pointer (some ⟨v.1, 0, none⟩)) w1 := hlk
  have HM := Lib.hid hM
  have HT := Lib.hid hT
  clear hlk hM hT hl
  go_wp2_with fail
  go_ret2
  exact ⟨rfl, HM.out, HT.out⟩
theorem mbfind_miss (h : Mb W p m now last L) (t id : Int) (hl : mlook L id = none) : Calls Try.prog 65 #[.pointer (some ⟨p, 0, none⟩), .int .i64 t, .int .u64 id] W (FindR W p m (lat now t) last L (.pointer none) 6) := by
  have HO := Lib.hid (mbok_in h)
  have HLT := Lib.hid (mblater_in h t)
  unfold FindR
  clear h
  go_enter Try.func65, Try.ntmps65
  go_wp2_with fail
  refine HO.out.mono ?_
  rintro e w' ⟨rfl, rfl⟩
  go_wp2_with fail
  refine HLT.out.mono ?_
  rintro e w1 ⟨rfl, hM, hT⟩
  obtain ⟨k0, k1, k2⟩ := hM.at_
  have hlk := run_mlook (P := Try.prog) Try.underlying93 (key_int Try.underlying22) (zrep w1) hM.mp id false
  rw [ptrs_look, hl] at hlk
  have hlk' : (Instr.lookup 93 (.map (some m)) (.int .u64 id) false).run Try.prog w1 = .ok (.pointer none) w1 := hlk
  have HM := Lib.hid hM
  have HT := Lib.hid hT
  clear hlk hM hT hl
  go_wp2_with fail
  go_ret2
  exact ⟨rfl, HM.out, HT.out⟩
/-- Enters a state. -/
def entV (now st : Int) (v : RpV) : RpV := if v.2.1 = st then v else (v.1, st, v.2.2.1, v.2.2.2.1, now)
theorem entV_q (now st : Int) (v : RpV) : (entV now st v).1 = v.1 := by unfold entV; split <;> rfl
def EntR (W : World) (p m : Nat) (now last : Int) (L : List (Int × RpV)) (q : Nat) (L' : List (Int × RpV)) (w' : World) : Prop := Mb w' p m now last L' ∧ Tn (fun k => k = q) W w'
theorem mput_twice {K β : Type} [DecidableEq K] (L : List (K × β)) (k : K) (v u : β) : mput (mput L k v) k u = mput L k u := by
  induction L with
  | nil => simp [mput]
  | cons e l ih =>
    obtain ⟨a, w⟩ := e
    by_cases h : a = k
    · simp [mput, h]
    · simp [mput, h, ih]
theorem mput_self {K β : Type} [DecidableEq K] {L : List (K × β)} {k : K} {v : β} (hl : mlook L k = some v) : mput L k v = L := by
  induction L with
  | nil => cases hl
  | cons e l ih =>
    obtain ⟨a, w⟩ := e
    unfold mlook at hl
    unfold mput
    split at hl
    · rename_i hak; rw [if_pos hak]; injection hl with hl; subst hl hak; rfl
    · rename_i hak; rw [if_neg hak, ih hl]
theorem mput_hit {K β : Type} [DecidableEq K] (L : List (K × β)) (k : K) (v : β) : mlook (mput L k v) k = some v := by rw [mlook_put, if_pos rfl]
theorem Mb.rcell (h : Mb W p m now last L) {id : Int} {v : RpV} (hl : mlook L id = some v) : (W.cell? ⟨v.1, 0, none⟩ = some (.int .u64 id) ∧ W.cell? ⟨v.1, 1, none⟩ = some (.int .i64 v.2.1) ∧ W.cell? ⟨v.1, 2, none⟩ = some (.int .u64 v.2.2.1) ∧ W.cell? ⟨v.1, 3, none⟩ = some (.int .i64 v.2.2.2.1) ∧ W.cell? ⟨v.1, 4, none⟩ = some (.int .i64 v.2.2.2.2)) ∧ W.frozen? ⟨v.1, 0, none⟩ = false ∧ W.frozen? ⟨v.1, 1, none⟩ = false ∧ W.frozen? ⟨v.1, 2, none⟩ = false ∧ W.frozen? ⟨v.1, 3, none⟩ = false ∧ W.frozen? ⟨v.1, 4, none⟩ = false := by
  have hb := h.hit hl
  exact ⟨⟨blk_cell hb 0, blk_cell hb 1, blk_cell hb 2, blk_cell hb 3, blk_cell hb 4⟩, blk_frozen hb 0, blk_frozen hb 1, blk_frozen hb 2, blk_frozen hb 3, blk_frozen hb 4⟩
theorem mbenter_in (h : Mb W p m now last L) (id : Int) (v : RpV) (hl : mlook L id = some v) (st : Int) : Calls Try.prog 66 #[.pointer (some ⟨p, 0, none⟩), .pointer (some ⟨v.1, 0, none⟩), .int .i64 st] W fun e w' => e = .returned (.tuple #[]) ∧ EntR W p m now last L v.1 (mput L id (entV now st v)) w' := by
  obtain ⟨k0, k1, k2⟩ := h.at_
  obtain ⟨⟨c0, c1, c2, c3, c4⟩, f0, f1, f2, f3, f4⟩ := h.rcell hl
  have H := Lib.hid h
  have HL := Lib.hid hl
  unfold EntR entV
  obtain ⟨q, s, i, b, n⟩ := v
  dsimp only at *
  clear h hl
  by_cases hs : s = st
  · rw [if_pos hs, mput_self HL.out]
    go_enter Try.func66, Try.ntmps66
    go_wp2_with fail
    go_end0
    exact ⟨rfl, H.out, Tn.refl _ _⟩
  · rw [if_neg hs]
    have HE := Lib.hid (show EntR W p m now last L q (mput L id (q, st, i, b, now)) ((W.setCell ⟨q, 1, none⟩ (.int .i64 st)).setCell ⟨q, 4, none⟩ (.int .i64 now)) from by
      have h1 := H.out.putR (v' := (q, st, i, b, n)) HL.out 1 (.int .i64 st) rfl rfl
      have h2 := h1.putR (v' := (q, st, i, b, now)) (mput_hit _ _ _) 4 (.int .i64 now) rfl rfl
      rw [mput_twice] at h2
      exact ⟨h2, ((Tn.refl (fun k => k = q) W).put q 1 _ (.inl rfl)).put q 4 _ (.inl rfl)⟩)
    go_enter Try.func66, Try.ntmps66
    go_wp2_with fail
    go_end0
    exact ⟨rfl, HE.out⟩
end
end Go.Proofs.Ytmbhicjjbgbneaa
