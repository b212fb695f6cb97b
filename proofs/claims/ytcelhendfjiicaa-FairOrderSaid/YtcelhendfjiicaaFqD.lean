/- A fair queue: New, ok, Len, Of, what a flow gains; a queue that nobody made. -/
import Derived.Test.YtcelhendfjiicaaFqC
namespace Go.Proofs.Ytcelhendfjiicaa
open Go.RowKit Go.Shelf Go.Proofs.YtcelhendfjiicaaW.PrintWords Go.Proofs.YtcelhendfjiicaaW.PrintLast Go.Proofs.YtcelhendfjiicaaW.PrintMore
set_option linter.unusedVariables false
set_option linter.unusedSimpArgs false
set_option maxRecDepth 100000
attribute [local go_sem] gb_max2 gb_min2 gb_max_two gb_min_two gb_max_three gb_min_three
theorem zflow (w : World) : (zeroValue 97).run Try.prog w = .ok (.pointer none) w := by kernel_rfl
theorem zint (w : World) : (zeroValue 3).run Try.prog w = .ok (.int .i64 0) w := by kernel_rfl
/-- nil, or a queue that is all zero. -/
def NoQ (W : World) (v : Value) : Prop := v = .pointer none ∨ ∃ b, v = .pointer (some ⟨b, 0, none⟩) ∧ W.cell? ⟨b, 3, none⟩ = some (.map none)
theorem NoQ.below {W W' : World} {v : Value} (h : NoQ W v) (hb : Below W.heap.size W W') : NoQ W' v := by
  rcases h with h | ⟨b, h, hc⟩
  · exact .inl h
  · exact .inr ⟨b, h, pw_cell_below hb hc⟩
theorem fqok_no (W : World) (v : Value) (h : NoQ W v) : Calls Try.prog 47 #[v] W fun e w' => e = .returned (.bool false) ∧ W = w' := by
  rcases h with rfl | ⟨b, rfl, k0⟩
  · go_enter Try.func47, Try.ntmps47
    go_wp2_with fail
    go_ret
    exact ⟨rfl, rfl⟩
  · have hm := run_neq_map_nil (P := Try.prog) W 86 40 97 none Try.underlying86
    go_enter Try.func47, Try.ntmps47
    go_wp2_with fail
    go_ret
    exact ⟨rfl, rfl⟩
theorem fqlen_no (W : World) (v : Value) (h : NoQ W v) : Calls Try.prog 28 #[v] W fun e w' => e = .returned (.int .i64 0) ∧ W = w' := by
  go_enter Try.func28, Try.ntmps28
  go_wp2_with fail
  refine (fqok_no W v h).mono ?_
  rintro e w' ⟨rfl, rfl⟩
  go_wp2_with fail
  go_ret
  exact ⟨rfl, rfl⟩
theorem fqof_no (W : World) (v : Value) (h : NoQ W v) (n : Int) : Calls Try.prog 19 #[v, .int .u64 n] W fun e w' => e = .returned (.int .i64 0) ∧ W = w' := by
  go_enter Try.func19, Try.ntmps19
  go_wp2_with fail
  refine (fqok_no W v h).mono ?_
  rintro e w' ⟨rfl, rfl⟩
  go_wp2_with fail
  go_ret
  exact ⟨rfl, rfl⟩
theorem fqflows_no (W : World) (v : Value) (h : NoQ W v) : Calls Try.prog 29 #[v] W fun e w' => e = .returned (.slice none 0 0) ∧ W = w' := by
  go_enter Try.func29, Try.ntmps29
  go_wp2_with fail
  refine (fqok_no W v h).mono ?_
  rintro e w' ⟨rfl, rfl⟩
  go_wp2_with fail
  go_ret
  exact ⟨rfl, rfl⟩
theorem fqdrop_no (W : World) (v : Value) (h : NoQ W v) (n : Int) : Calls Try.prog 40 #[v, .int .u64 n] W fun e w' => e = .returned (.slice none 0 0) ∧ W = w' := by
  go_enter Try.func40, Try.ntmps40
  go_wp2_with fail
  refine (fqok_no W v h).mono ?_
  rintro e w' ⟨rfl, rfl⟩
  go_wp2_with fail
  go_ret
  exact ⟨rfl, rfl⟩
theorem fqweight_no (W : World) (v : Value) (h : NoQ W v) (n x : Int) : Calls Try.prog 17 #[v, .int .u64 n, .int .i64 x] W fun e w' => e = .returned (.int .i64 2) ∧ W = w' := by
  go_enter Try.func17, Try.ntmps17
  go_wp2_with fail
  refine (fqok_no W v h).mono ?_
  rintro e w' ⟨rfl, rfl⟩
  go_wp2_with fail
  go_ret
  exact ⟨rfl, rfl⟩
theorem fqpush_no (W : World) (v : Value) (h : NoQ W v) (x : ItemV) : Calls Try.prog 18 #[v, .agg #[.int .u64 x.1, .int .i64 x.2.1, .int .u64 x.2.2]] W fun e w' => e = .returned (.int .i64 2) ∧ Below W.heap.size W w' := by
  have HN := Lib.hid h
  clear h
  go_enter Try.func18, Try.ntmps18
  go_wp2_with fail
  have hb := below_alloc (Below.refl W.heap.size W) (.cells #[.int .u64 x.1, .int .i64 x.2.1, .int .u64 x.2.2] 43)
  have HB := Lib.hid hb
  refine (fqok_no _ v (HN.out.below hb)).mono ?_
  rintro e w' ⟨rfl, rfl⟩
  clear hb
  go_wp2_with fail
  go_ret
  exact ⟨rfl, HB.out⟩
theorem fqpop_no (W : World) (v : Value) (h : NoQ W v) : Calls Try.prog 20 #[v] W fun e w' => e = .returned (.tuple #[.agg #[.int .u64 0, .int .i64 0, .int .u64 0], .int .i64 2]) ∧ Below W.heap.size W w' := by
  have HN := Lib.hid h
  clear h
  go_enter Try.func20, Try.ntmps20
  go_wp2_with fail
  have hb := below_alloc (Below.refl W.heap.size W) (.cells #[.int .u64 0, .int .i64 0, .int .u64 0] 43)
  have HB := Lib.hid hb
  refine (fqok_no _ v (HN.out.below hb)).mono ?_
  rintro e w' ⟨rfl, rfl⟩
  clear hb
  go_wp2_with fail
  refine bodyPost_ret (results_ct rfl _ _ W.heap.size 43 #[.int .u64 0, .int .i64 0, .int .u64 0] (0, 0) _ rfl (heap_alloc_new _ _) Try.underlying43 rfl (by kernel_rfl)) rfl ?_
  exact ⟨rfl, HB.out⟩
section
variable {W W' : World} {base : Nat} {F F' : Nat → Prop} {p mf mw : Nat} {rv rv' : Value} {R R' : List Int} {room quant many : Int} {began : Bool} {L L' : List FlV} {M M' : List (Int × Value)} {wt : WtV} {f g : FlV}
theorem fqok_in (h : Fq W base F p mf mw rv R room quant began L M wt many) : Calls Try.prog 47 #[.pointer (some ⟨p, 0, none⟩)] W fun e w' => e = .returned (.bool true) ∧ W = w' := by
  obtain ⟨-, k0, k1, k2, k3, -⟩ := h.at_
  have hm := run_neq_map_nil (P := Try.prog) W 86 40 97 (some mf) Try.underlying86
  rw [show (!(some mf).isNone) = true from rfl] at hm
  clear h
  go_enter Try.func47, Try.ntmps47
  go_wp2_with fail
  go_ret
  exact ⟨rfl, rfl⟩
theorem fqlen_in (h : Fq W base F p mf mw rv R room quant began L M wt many) : Calls Try.prog 28 #[.pointer (some ⟨p, 0, none⟩)] W fun e w' => e = .returned (.int .i64 many) ∧ W = w' := by
  obtain ⟨-, k0, k1, k2, k3, -⟩ := h.at_
  have HO := Lib.hid (fqok_in h)
  clear h
  go_enter Try.func28, Try.ntmps28
  go_wp2_with fail
  refine HO.out.mono ?_
  rintro e w' ⟨rfl, rfl⟩
  go_wp2_with fail
  go_ret
  exact ⟨rfl, rfl⟩
theorem Fq.lookH (h : Fq W base F p mf mw rv R room quant began L M wt many) {n : Int} (hf : mlook (keyed L) n = some f) (c : Bool) : (Instr.lookup 86 (.map (some mf)) (.int .u64 n) false).run Try.prog W = .ok (.pointer (some ⟨f.b, 0, none⟩)) W := by
  have hlk := run_mlook (P := Try.prog) Try.underlying86 (key_int Try.underlying40) (zflow W) h.mp n false
  rw [h.look, hf] at hlk
  exact hlk
theorem Fq.lookM (h : Fq W base F p mf mw rv R room quant began L M wt many) {n : Int} (hf : mlook (keyed L) n = none) : (Instr.lookup 86 (.map (some mf)) (.int .u64 n) false).run Try.prog W = .ok (.pointer none) W := by
  have hlk := run_mlook (P := Try.prog) Try.underlying86 (key_int Try.underlying40) (zflow W) h.mp n false
  rw [h.look, hf] at hlk
  exact hlk
/-- How many items of a flow. -/
def ofF (L : List FlV) (n : Int) : Nat := match mlook (keyed L) n with | none => 0 | some f => f.xs.length
theorem fqof_in (h : Fq W base F p mf mw rv R room quant began L M wt many) (n : Int) (k : Nat) (hk : ofF L n = k) : Calls Try.prog 19 #[.pointer (some ⟨p, 0, none⟩), .int .u64 n] W fun e w' => e = .returned (.int .i64 k) ∧ W = w' := by
  obtain ⟨-, k0, k1, k2, k3, -⟩ := h.at_
  have HO := Lib.hid (fqok_in h)
  unfold ofF at hk
  cases hf : mlook (keyed L) n with
  | none =>
    rw [hf] at hk
    dsimp only at hk
    subst hk
    have hlk := h.lookM hf
    clear h hf
    go_enter Try.func19, Try.ntmps19
    go_wp2_with fail
    refine HO.out.mono ?_
    rintro e w' ⟨rfl, rfl⟩
    go_wp2_with fail
    go_ret
    exact ⟨rfl, rfl⟩
  | some f =>
    rw [hf] at hk
    dsimp only at hk
    have hlk := h.lookH hf false
    obtain ⟨hm, -⟩ := keyed_some hf
    obtain ⟨-, y0, y1, -⟩ := (h.fl f hm).at_
    obtain ⟨A, c, hv, hc, -⟩ := Kd.Q_reads (h.fl f hm).row
    rw [hv, hk] at y1
    obtain ⟨fb, hfb⟩ : ∃ b, f.b = b := ⟨_, rfl⟩
    rw [hfb] at y0 y1 hlk
    clear h hf hm hv hk hc hfb
    go_enter Try.func19, Try.ntmps19
    go_wp2_with fail
    refine HO.out.mono ?_
    rintro e w' ⟨rfl, rfl⟩
    go_wp2_with fail
    go_ret
    exact ⟨rfl, rfl⟩
theorem wtM_look (wt : WtV) (n : Int) : mlook (wtM wt) n = (mlook wt n).map (fun w => Value.int .i64 w) := by
  induction wt with
  | nil => rfl
  | cons e l ih =>
    obtain ⟨a, u⟩ := e
    show mlook ((a, Value.int .i64 u) :: wtM l) n = _
    unfold mlook
    split
    · rfl
    · exact ih
theorem Fq.lookW (h : Fq W base F p mf mw rv R room quant began L M wt many) (n : Int) : (Instr.lookup 87 (.map (some mw)) (.int .u64 n) false).run Try.prog W = .ok (.int .i64 ((mlook wt n).getD 0)) W := by
  have hlk := run_mlook (P := Try.prog) Try.underlying87 (key_int Try.underlying40) (zint W) h.wm n false
  rw [wtM_look] at hlk
  cases hm : mlook wt n with
  | none => rw [hm] at hlk; exact hlk
  | some v => rw [hm] at hlk; exact hlk
theorem fqgain_in (h : Fq W base F p mf mw rv R room quant began L M wt many) (hw : WtJ wt) (h1 : 1 ≤ quant) (h2 : quant ≤ 1048576) (n : Int) (g : Int) (hg : gainF wt quant n = g) : Calls Try.prog 49 #[.pointer (some ⟨p, 0, none⟩), .int .u64 n] W fun e w' => e = .returned (.int .i64 g) ∧ ∃ m, w' = W.drewN m := by
  obtain ⟨-, k0, k1, k2, k3, k4, k5, k6⟩ := h.at_
  have hlk := fun u : Nat => (h.drewN u).lookW n
  have hb := wof_bd hw n
  have hgb := gain_bd hw h1 h2 n
  unfold gainF wof at *
  obtain ⟨x, hx⟩ : ∃ x, (mlook wt n).getD 0 = x := ⟨_, rfl⟩
  rw [hx] at hlk hb hgb hg
  obtain ⟨y, hy⟩ : ∃ y, max x 1 = y := ⟨_, rfl⟩
  rw [hy] at hb hgb hg
  rw [hg] at hgb
  have hwr : IntKind.i64.wrap g = g := by unfold IntKind.wrap; simp [IntKind.bits, IntKind.signed]; omega
  clear h hx hw
  go_enter Try.func49, Try.ntmps49
  go_wp2_with fail
  go_quiet (fail)
  go_wp2_with fail
  go_ret
  exact ⟨rfl, _, rfl⟩
end
end Go.Proofs.Ytcelhendfjiicaa
