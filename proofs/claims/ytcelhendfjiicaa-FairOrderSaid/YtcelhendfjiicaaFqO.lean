/- A fair queue: the flow at the front goes. -/
import Derived.Test.YtcelhendfjiicaaFqR
namespace Go.Proofs.Ytcelhendfjiicaa
open Go.RowKit Go.Shelf Go.Proofs.YtcelhendfjiicaaW.PrintWords Go.Proofs.YtcelhendfjiicaaW.PrintLast Go.Proofs.YtcelhendfjiicaaW.PrintMore
set_option linter.unusedVariables false
set_option linter.unusedSimpArgs false
set_option maxRecDepth 100000
attribute [local go_sem] gb_max2 gb_min2 gb_max_two gb_min_two gb_max_three gb_min_three
theorem own_cut (A : Option Addr) (n c k sz m d : Nat) : (Value.slice (if c = k then A else A.map (·.add (k * sz))) m d).ownBlock = (Value.slice A n c).ownBlock := by
  split
  · cases A <;> rfl
  · cases A with
    | none => rfl
    | some a => simp [Value.ownBlock]; unfold Addr.add; split <;> rfl
theorem cutU (A : Option Addr) (n c : Nat) (h : 1 ≤ n) (hc : n ≤ c) : ∃ A' : Option Addr, (∀ W : World, (Instr.slice 63 (.slice A n c) (some (.int .i64 1)) none none).run Try.prog W = .ok (.slice A' (n - 1) (c - 1)) W) ∧ (Value.slice A' (n - 1) (c - 1)).ownBlock = (Value.slice A n c).ownBlock ∧
    ∀ (W : World) (base : Nat) (F : Nat → Prop) (x : Int) (xs : List Int), KU.Q 40 W base F (.slice A n c) (x :: xs) → KU.Q 40 W base F (.slice A' (n - 1) (c - 1)) xs := by
  obtain ⟨i, hi, _, hs, _⟩ := info_parts infU64
  have h1 := cut_from (P := Try.prog) 63 40 .i64 Try.underlying63 hi 1 hs A n c 1 (by omega) (by omega)
  rw [show (1 : Int).toNat = 1 from rfl] at h1
  exact ⟨_, h1, own_cut A n c 1 1 _ _, fun W base F x xs hQ => Kd.Q_drop (k := 1) hQ (by simp)⟩
theorem cutI (A : Option Addr) (n c : Nat) (h : 1 ≤ n) (hc : n ≤ c) : ∃ A' : Option Addr, (∀ W : World, (Instr.slice 59 (.slice A n c) (some (.int .i64 1)) none none).run Try.prog W = .ok (.slice A' (n - 1) (c - 1)) W) ∧ (Value.slice A' (n - 1) (c - 1)).ownBlock = (Value.slice A n c).ownBlock ∧
    ∀ (W : World) (base : Nat) (F : Nat → Prop) (x : ItemV) (xs : List ItemV), KIt.Q 43 W base F (.slice A n c) (x :: xs) → KIt.Q 43 W base F (.slice A' (n - 1) (c - 1)) xs := by
  obtain ⟨i, hi, _, hs, _⟩ := info_parts infItem
  have h1 := cut_from (P := Try.prog) 59 43 .i64 Try.underlying59 hi 3 hs A n c 1 (by omega) (by omega)
  rw [show (1 : Int).toNat = 1 from rfl] at h1
  exact ⟨_, h1, own_cut A n c 1 3 _ _, fun W base F x xs hQ => Kd.Q_drop (k := 1) hQ (by simp)⟩
section
variable {W W' w1 : World} {base : Nat} {F F' : Nat → Prop} {p mf mw : Nat} {rv rv' : Value} {R R' : List Int} {room quant many : Int} {began : Bool} {L L' L2 : List FlV} {M M' : List (Int × Value)} {wt : WtV} {f g : FlV}
theorem fqout_any (h : Fq W base F p mf mw rv (f.n :: R) room quant began (f :: L2) M wt many) :
    Calls Try.prog 50 #[.pointer (some ⟨p, 0, none⟩)] W fun e w' => e = .returned (.tuple #[]) ∧ (∃ rv' M', Fq w' base F p mf mw rv' R room quant false L2 M' wt many) ∧ Tn F W w' := by
  have hd := h.drew
  obtain ⟨-, k0, k1, k2, k3, k4, k5, k6⟩ := hd.at_
  obtain ⟨A, c, hv, hc, hcell⟩ := hd.ringAt 0 (by simp)
  obtain ⟨w1, hrun, hmp, hg, -⟩ := run_mdel (P := Try.prog) Try.underlying86 (key_int Try.underlying40) hd.mp f.n 40 0
  have hq1 := hd.delF (L1 := []) (w1 := w1) hmp hg
  have hT1 : Tn F W w1 := ((Tn.refl F W).drew).grown hg (.inl h.fmf)
  obtain ⟨N, hN⟩ : ∃ N, (f.n :: R).length = N := ⟨_, rfl⟩
  rw [hN] at hv hc
  have hN1 : 1 ≤ N := by rw [← hN]; simp
  subst hv
  simp only [List.getElem_cons_zero] at hcell
  have hcell1 : w1.cell? (A.add 0) = some (.int .u64 f.n) := by
    obtain ⟨A', c', e, -, h2⟩ := hq1.ringAt 0 (by simp)
    injection e with e e2 e3
    injection e with e
    subst e
    simpa using h2
  have ha : A.add 0 = A := by simp [Addr.add]
  rw [ha] at hcell hcell1
  have hN0 : (0 : Int) < (N : Int) := by omega
  have hN2 : 0 < N := hN1
  obtain ⟨A', hcut, hown, hQ⟩ := cutU (some A) N c hN1 hc
  have HQ1 := Lib.hid hq1
  have HT1 := Lib.hid hT1
  have HOW := Lib.hid hown
  have HQC := Lib.hid hQ
  have HS0 := Lib.hid (show W.drew.cell? ⟨p, 3, none⟩ = some (.map (some mf)) ∧ W.drew.cell? ⟨p, 4, none⟩ = some (.slice (some A) N c) ∧ W.drew.cell? A = some (.int .u64 f.n) from ⟨k3, k4, hcell⟩)
  have HS1 := Lib.hid (show w1.cell? ⟨p, 3, none⟩ = some (.map (some mf)) ∧ w1.cell? ⟨p, 4, none⟩ = some (.slice (some A) N c) ∧ w1.cell? A = some (.int .u64 f.n) from ⟨hq1.at_.2.2.2.2.1, hq1.at_.2.2.2.2.2.1, hcell1⟩)
  obtain ⟨n, hn⟩ : ∃ n, f.n = n := ⟨_, rfl⟩
  rw [hn] at HS0 HS1 hrun
  have HN := Lib.hid hn
  clear h hd k0 k1 k2 k3 k4 k5 k6 hcell hcell1 hmp hg hq1 hT1 hN hown hQ hn ha
  go_enter Try.func50, Try.ntmps50
  go_wp2_with fail
  go_region_held3 (fun w' => w'.cell? ⟨p, 3, none⟩ = some (.map (some mf)) ∧ w'.cell? ⟨p, 4, none⟩ = some (.slice (some A) N c) ∧ w'.cell? A = some (.int .u64 n))
    (first | exact HS0.out | exact HS1.out)
    (fail)
  obtain ⟨-, k0, k1, k2, k3, k4, k5, k6⟩ := HQ1.out.at_
  have f4 := blk_frozen HQ1.out.box 4
  have HB := Lib.hid HQ1.out.box
  have hq2 := HQ1.out.put 4 (.slice A' (N - 1) (c - 1)) (many' := many) (began' := began) (rv' := .slice A' (N - 1) (c - 1)) (R' := R) rfl (HQC.out _ _ _ _ _ HQ1.out.ring)
  have f5 := blk_frozen hq2.box 5
  have k5' := hq2.at_.2.2.2.2.2.2.1
  have hq3 := hq2.put 5 (.bool false) (many' := many) (began' := false) (rv' := .slice A' (N - 1) (c - 1)) (R' := R) rfl hq2.ring
  have HF := Lib.hid hq3
  have HT := Lib.hid ((HT1.out.put p 4 (.slice A' (N - 1) (c - 1)) (.inl hq2.fp)).put p 5 (.bool false) (.inl hq2.fp))
  clear hq2 hq3
  go_wp2_with fail
  go_end0
  exact ⟨rfl, ⟨_, _, HF.out⟩, HT.out⟩
theorem keyed_perm {L L' : List FlV} (hnd : (L.map FlV.n).Nodup) (hp : L.Perm L') (n : Int) : mlook (keyed L') n = mlook (keyed L) n := by
  have hnd' : (L'.map FlV.n).Nodup := (hp.map FlV.n).nodup_iff.1 hnd
  cases h : mlook (keyed L) n with
  | none =>
    rw [mlook_none, keyed_keys] at h ⊢
    exact fun hm => h ((hp.map FlV.n).mem_iff.2 hm)
  | some f =>
    obtain ⟨hf, e⟩ := keyed_some h
    refine mlook_of_mem (by rw [keyed_keys]; exact hnd') (List.mem_map.2 ⟨f, hp.mem_iff.1 hf, by rw [e]⟩)
/-- The flows in another order. -/
theorem Fq.perm (h : Fq W base F p mf mw rv R room quant began L M wt many) (hp : L.Perm L') : Fq W base F p mf mw rv R room quant began L' M wt many :=
  { h with
    look := fun n => by rw [keyed_perm h.nd hp]; exact h.look n
    fl := fun f hf => h.fl f (hp.mem_iff.2 hf)
    nd := (hp.map FlV.n).nodup_iff.1 h.nd
    ndb := (hp.map FlV.b).nodup_iff.1 h.ndb
    own := (hp.pairwise_iff (fun {a b} hab => OwnNe.symm hab)).1 h.own }
end
end Go.Proofs.Ytcelhendfjiicaa
