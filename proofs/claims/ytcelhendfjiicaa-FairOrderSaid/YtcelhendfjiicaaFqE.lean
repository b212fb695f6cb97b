/- A fair queue: New, Weight, Flows. -/
import Derived.Test.YtcelhendfjiicaaFqD
namespace Go.Proofs.Ytcelhendfjiicaa
open Go.RowKit Go.Shelf Go.Proofs.YtcelhendfjiicaaW.PrintWords Go.Proofs.YtcelhendfjiicaaW.PrintLast Go.Proofs.YtcelhendfjiicaaW.PrintMore
set_option linter.unusedVariables false
set_option linter.unusedSimpArgs false
set_option maxRecDepth 100000
attribute [local go_sem] gb_max2 gb_min2 gb_max_two gb_min_two gb_max_three gb_min_three
/-- A queue, whatever of it need not be told. -/
def FqV (W : World) (base : Nat) (F : Nat → Prop) (p : Nat) (room quant : Int) (began : Bool) (L : List FlV) (wt : WtV) : Prop :=
  ∃ mf mw rv M, Fq W base F p mf mw rv (L.map FlV.n) room quant began L M wt ((L.map (fun f => f.xs.length)).sum : Nat)
def FqNew (W : World) (base : Nat) (room quant : Int) (e : Ending) (w' : World) : Prop :=
  ∃ p F, e = .returned (.tuple #[.pointer (some ⟨p, 0, none⟩), .int .i64 0]) ∧ FqV w' base F p room quant false [] [] ∧ (∀ k, F k → W.heap.size ≤ k) ∧ Below W.heap.size W w'
theorem fqnew_mk (W : World) (base : Nat) (hb : base ≤ W.heap.size) (room quant : Int) : FqNew W base room quant (.returned (.tuple #[.pointer (some ⟨W.heap.size + 1 + 1, 0, none⟩), .int .i64 0])) (((W.alloc (.map #[] 0)).alloc (.map #[] 0)).alloc (.cells #[.int .i64 room, .int .i64 quant, .int .i64 0, .map (some W.heap.size), .slice none 0 0, .bool false, .map (some (W.heap.size + 1))] 89)) := by
  have hM := IsMp.made (Value.int .u64) W
  have hb1 := below_alloc (Below.refl W.heap.size W) (.map #[] 0)
  have e1 : (W.alloc (.map #[] 0)).heap.size = W.heap.size + 1 := by simp
  have hM2 := IsMp.made (Value.int .u64) (W.alloc (.map #[] 0))
  have e2 : ((W.alloc (.map #[] 0)).alloc (.map #[] 0)).heap.size = W.heap.size + 1 + 1 := by simp
  rw [e1] at hM2
  refine ⟨_, fun k => W.heap.size ≤ k ∧ k ≤ W.heap.size + 1 + 1, rfl, ⟨W.heap.size, W.heap.size + 1, .slice none 0 0, [], ?_⟩, fun k hk => hk.1, below_alloc (below_alloc hb1 _) _⟩
  exact {
    flt := fun k hk => ⟨by omega, by simp; omega⟩
    fp := ⟨by omega, Nat.le_refl _⟩
    fmf := ⟨Nat.le_refl _, by omega⟩
    fmw := ⟨by omega, by omega⟩
    box := by rw [← e2]; exact heap_alloc_new _ _
    ring := Kd.Q_nil _ _ _ _ _
    mp := (hM.below (below_alloc (Below.refl _ _) _)).below (below_alloc (Below.refl _ _) _)
    look := fun n => rfl
    mnd := by simp [mkeys]
    wm := hM2.below (below_alloc (Below.refl _ _) _)
    mne := by omega
    fl := fun f hf => absurd hf (by simp)
    nd := by simp
    ndb := by simp
    own := List.Pairwise.nil }
theorem fqnew_any (W : World) (base : Nat) (hb : base ≤ W.heap.size) (room quant : Int) (h1 : 1 ≤ room) (h2 : room ≤ 4096) (h3 : 1 ≤ quant) (h4 : quant ≤ 1048576) : Calls Try.prog 16 #[.int .i64 room, .int .i64 quant] W (FqNew W base room quant) := by
  have hmk := @run_makeMap Try.prog
  go_enter Try.func16, Try.ntmps16
  go_wp2_with fail
  go_ret2
  exact fqnew_mk W base hb room quant
theorem infU64 : (Try.prog.info? 40).map (fun i => (i.zero, i.size, i.bytes)) = some (some (.int .u64 0), 1, 8) := by kernel_rfl
theorem R_emptyU (W : World) (base : Nat) (hb : base ≤ W.heap.size) : KU.R 40 (W.alloc (.cells #[] 40)) base (fun _ => True) (.slice (some ⟨W.heap.size, 0, none⟩) 0 0) [] := by
  have h := OwnRow.lit (R := KU.M (W.alloc (.cells #[] 40)) base (fun k => True ∧ some k ≠ (Value.slice (some ⟨W.heap.size, 0, none⟩) 0 0).ownBlock)) (e := 40) (size := 1) (ps := []) (inner := []) W base (Reps.none _ _) hb (by simp)
  exact ⟨fun _ _ => trivial, h⟩
theorem u64_at {w : World} {A : Option Addr} {k : IntKind} {xs : List Int} (h : (Kd.int k).C w A xs.length xs) (i : Nat) (h1 : i < xs.length) : ∃ ad : Addr, A = some ad ∧ w.cell? (ad.add i) = some (.int k (xs.getD i 0)) := by
  obtain ⟨ad, cs, e, hl, hK, hcell⟩ := Kd.C_get h 0 (i : Int) (by omega) (by omega)
  have hi' : (i : Int).toNat = i := by omega
  rw [hi'] at hK hcell
  have hK' : cs = [.int k (xs.getD i 0)] := hK
  subst hK'
  have h2 := hcell 0 _ rfl
  rw [show (Kd.int k).sz = 1 from rfl, Nat.mul_one, Nat.add_zero] at h2
  exact ⟨ad, e, h2⟩
theorem uclone_any (A : Option Addr) (c : Nat) (xs : List Int) (w : World) (hx : KU.C w A xs.length xs) (hc : xs.length ≤ c) (hn : xs.length ≤ 1000000) :
    Calls Try.prog 51 #[.slice A xs.length c] w fun e w' => ∃ v, e = .returned v ∧ KU.R 40 w' w.heap.size (fun _ => True) v xs ∧ Below w.heap.size w w' := by
  cases A with
  | none =>
    have h0 : xs = [] := by
      cases xs with
      | nil => rfl
      | cons x l => obtain ⟨a, h, _⟩ := u64_at hx 0 (by simp); simp at h
    subst h0
    have he := fun W : World => Lib.run_eql_slice_nil (P := Try.prog) W 63 40 none 0 c 0 0 Try.underlying63
    clear hx
    go_enter Try.func51, Try.ntmps51
    go_wp2
    go_ret
    exact ⟨_, rfl, Kd.R_nil _ _ _ _ _, Below.refl _ _⟩
  | some a =>
    have HX := Lib.hid (Kd.C_below hx ((Below.refl _ w).alloc (Nat.le_refl _) (.cells #[] 40)))
    have HO := Lib.hid (R_emptyU w w.heap.size (Nat.le_refl _))
    have HB := Lib.hid ((Below.refl _ w).alloc (Nat.le_refl _) (.cells #[] 40))
    clear hx
    have he := fun W : World => Lib.run_eql_slice_nil (P := Try.prog) W 63 40 (some a) xs.length c 0 0 Try.underlying63
    go_enter Try.func51, Try.ntmps51
    go_wp2_with (at_builtin; refine Kd.R_append_row (w0 := w) (Value.int .u64) 0 (h1 := fun _ => rfl) w.heap.size rfl _ _ 63 40 (.int .u64 0) 8 rfl Try.underlying63 infU64 rfl (by decide) _ [] xs (some a) xs.length c (fun _ => True) rfl rfl (fun _ _ => trivial) HO.out HX.out HB.out (by simp) (by simp; omega) ?_; intro v1 w1 hr hb hg hat)
    go_ret
    exact ⟨_, rfl, hr, hb⟩
section
variable {W W' : World} {base : Nat} {F F' : Nat → Prop} {p mf mw : Nat} {rv rv' : Value} {R R' : List Int} {room quant many : Int} {began : Bool} {L L' : List FlV} {M M' : List (Int × Value)} {wt : WtV} {f g : FlV}
theorem fqflows_in (h : FqV W base F p room quant began L wt) (hn : L.length ≤ 1000000) : Calls Try.prog 29 #[.pointer (some ⟨p, 0, none⟩)] W fun e w' => ∃ A c, e = .returned (.slice A L.length c) ∧ Below W.heap.size W w' := by
  obtain ⟨mf, mw, rv, M, h⟩ := h
  obtain ⟨-, k0, k1, k2, k3, k4, -⟩ := h.at_
  obtain ⟨A, c, rfl, hc, hC⟩ := Kd.Q_reads h.ring
  have HO := Lib.hid (fqok_in h)
  have HCL := Lib.hid (uclone_any A c _ W hC hc (by rw [List.length_map]; exact hn))
  rw [List.length_map] at HCL k4
  clear h hC hc hn
  obtain ⟨n, hn0⟩ : ∃ n, L.length = n := ⟨_, rfl⟩
  rw [hn0] at HCL k4 ⊢
  have HN := Lib.hid hn0
  clear hn0
  go_enter Try.func29, Try.ntmps29
  go_wp2_with fail
  refine HO.out.mono ?_
  rintro e w' ⟨rfl, rfl⟩
  go_wp2_with fail
  refine HCL.out.mono ?_
  rintro e w' ⟨v, rfl, ho, hb⟩
  obtain ⟨A2, c2, hv, -, -⟩ := Kd.R_reads ho
  rw [List.length_map, HN.out] at hv
  subst hv
  have HB := Lib.hid hb
  clear hb ho
  go_wp2_with fail
  go_ret
  exact ⟨A2, c2, rfl, HB.out⟩
/-- What Weight does. -/
def WtOk (wt : WtV) (n x : Int) : Prop := 1 ≤ x ∧ x ≤ 1000 ∧ ((mlook wt n).isSome = true ∨ wt.length ≠ 4096)
theorem wtM_put (wt : WtV) (n x : Int) : mput (wtM wt) n (.int .i64 x) = wtM (mput wt n x) := by
  induction wt with
  | nil => rfl
  | cons e l ih =>
    obtain ⟨a, u⟩ := e
    show mput ((a, Value.int .i64 u) :: wtM l) n _ = _
    unfold mput
    split
    · rfl
    · rw [ih]; rfl
theorem WtJ.put (h : WtJ wt) {n x : Int} (h1 : 1 ≤ x) (h2 : x ≤ 1000) : WtJ (mput wt n x) := by
  intro e he
  induction wt with
  | nil =>
    have : e = (n, x) := by simpa [mput] using he
    subst this; exact ⟨h1, h2⟩
  | cons a l ih =>
    unfold mput at he
    split at he
    · rcases List.mem_cons.1 he with rfl | he
      · exact ⟨h1, h2⟩
      · exact h e (List.mem_cons_of_mem _ he)
    · rcases List.mem_cons.1 he with rfl | he
      · exact h _ List.mem_cons_self
      · exact ih (fun e he => h e (List.mem_cons_of_mem _ he)) he
def WtR (W : World) (base : Nat) (F : Nat → Prop) (p : Nat) (room quant : Int) (began : Bool) (L : List FlV) (wt : WtV) (w' : World) : Prop := FqV w' base F p room quant began L wt ∧ Tn F W w'
theorem fqweight_ok (h : FqV W base F p room quant began L wt) (n x : Int) (hk : WtOk wt n x) : Calls Try.prog 17 #[.pointer (some ⟨p, 0, none⟩), .int .u64 n, .int .i64 x] W fun e w' => e = .returned (.int .i64 0) ∧ WtR W base F p room quant began L (mput wt n x) w' := by
  obtain ⟨mf, mw, rv, M, h⟩ := h
  obtain ⟨-, k0, k1, k2, k3, k4, k5, k6⟩ := h.at_
  have HO := Lib.hid (fqok_in h)
  obtain ⟨h1, h2, h3⟩ := hk
  have hlk := run_mlook (P := Try.prog) Try.underlying87 (key_int Try.underlying40) (zint W) h.wm n true
  have hlen := run_mlen (P := Try.prog) Try.underlying87 h.wm 3
  rw [wtM_look] at hlk
  obtain ⟨w1, hrun, hmp, hg, -⟩ := run_mput (P := Try.prog) Try.underlying87 (key_int Try.underlying40) h.wm n (.int .i64 x)
  rw [wtM_put] at hmp
  have HF := Lib.hid (show WtR W base F p room quant began L (mput wt n x) w1 from ⟨⟨mf, mw, rv, M, h.putW hmp hg⟩, (Tn.refl F W).grown hg (.inl h.fmw)⟩)
  have hwl : (wtM wt).length = wt.length := by unfold wtM; rw [List.length_map]
  rw [hwl] at hlen
  obtain ⟨N, hN⟩ : ∃ N, wt.length = N := ⟨_, rfl⟩
  rw [hN] at hlen h3
  cases hm : mlook wt n with
  | some v =>
    rw [hm] at hlk
    simp only [Option.map_some, Option.getD_some, Option.isSome_some, if_true] at hlk
    clear h hmp hg hwl hN hm h3
    go_enter Try.func17, Try.ntmps17
    go_wp2_with fail
    refine HO.out.mono ?_
    rintro e w' ⟨rfl, rfl⟩
    go_wp2_with fail
    go_ret
    exact ⟨rfl, HF.out⟩
  | none =>
    rw [hm] at hlk h3
    have h4 : ((N : Int) == 4096) = false := by
      have : N ≠ 4096 := by simpa using h3
      simp; omega
    simp only [Option.map_none, Option.getD_none, Option.isSome_none, if_true] at hlk
    clear h hmp hg hwl hN hm h3
    go_enter Try.func17, Try.ntmps17
    go_wp2_with fail
    refine HO.out.mono ?_
    rintro e w' ⟨rfl, rfl⟩
    go_wp2_with fail
    go_ret
    exact ⟨rfl, HF.out⟩
theorem fqweight_bad (h : FqV W base F p room quant began L wt) (n x : Int) (hk : ¬ WtOk wt n x) : Calls Try.prog 17 #[.pointer (some ⟨p, 0, none⟩), .int .u64 n, .int .i64 x] W fun e w' => e = .returned (.int .i64 1) ∧ W = w' := by
  obtain ⟨mf, mw, rv, M, h⟩ := h
  obtain ⟨-, k0, k1, k2, k3, k4, k5, k6⟩ := h.at_
  have HO := Lib.hid (fqok_in h)
  have hlk := run_mlook (P := Try.prog) Try.underlying87 (key_int Try.underlying40) (zint W) h.wm n true
  have hlen := run_mlen (P := Try.prog) Try.underlying87 h.wm 3
  rw [wtM_look] at hlk
  have hwl : (wtM wt).length = wt.length := by unfold wtM; rw [List.length_map]
  rw [hwl] at hlen
  unfold WtOk at hk
  obtain ⟨N, hN⟩ : ∃ N, wt.length = N := ⟨_, rfl⟩
  rw [hN] at hlen hk
  obtain ⟨y, hy⟩ : ∃ y, ((mlook wt n).map (fun w => Value.int .i64 w)).getD (.int .i64 0) = y := ⟨_, rfl⟩
  obtain ⟨b, hb⟩ : ∃ b, (mlook wt n).isSome = b := ⟨_, rfl⟩
  rw [hy, Option.isSome_map, hb] at hlk
  rw [hb] at hk
  simp only [if_true] at hlk
  clear h hwl hN hb hy
  by_cases hx1 : x < 1
  · clear hk
    go_enter Try.func17, Try.ntmps17
    go_wp2_with fail
    refine HO.out.mono ?_
    rintro e w' ⟨rfl, rfl⟩
    go_wp2_with fail
    go_ret
    exact ⟨rfl, rfl⟩
  · by_cases hx2 : 1000 < x
    · clear hk
      go_enter Try.func17, Try.ntmps17
      go_wp2_with fail
      refine HO.out.mono ?_
      rintro e w' ⟨rfl, rfl⟩
      go_wp2_with fail
      go_ret
      exact ⟨rfl, rfl⟩
    · have hb : b = false := by
        cases b with
        | false => rfl
        | true => exact absurd ⟨by omega, by omega, .inl rfl⟩ hk
      subst hb
      have hN : N = 4096 := by
        by_cases e : N = 4096
        · exact e
        · exact absurd ⟨by omega, by omega, .inr e⟩ hk
      subst hN
      clear hk
      go_enter Try.func17, Try.ntmps17
      go_wp2_with fail
      refine HO.out.mono ?_
      rintro e w' ⟨rfl, rfl⟩
      go_wp2_with fail
      go_ret
      exact ⟨rfl, rfl⟩
end
end Go.Proofs.Ytcelhendfjiicaa
