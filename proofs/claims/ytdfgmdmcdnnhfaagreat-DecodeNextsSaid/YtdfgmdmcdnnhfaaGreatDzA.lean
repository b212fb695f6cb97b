/- The document's Place. -/
import Derived.Test.YtdfgmdmcdnnhfaaGreatMoM
namespace Go.Proofs.YtdfgmdmcdnnhfaaGreat
open Go.RowKit Go.Shelf Go.Proofs.YtdfgmdmcdnnhfaaGreatW.PrintWords Go.Proofs.YtdfgmdmcdnnhfaaGreatW.PrintLast Go.Proofs.YtdfgmdmcdnnhfaaGreatW.PrintMore
set_option linter.unusedVariables false
set_option linter.unusedSimpArgs false
set_option maxRecDepth 100000

theorem rplace_any (c : Cfg) (hok : c.ok) (p : Nat) (hp : p < 256) (w : World) :
    Calls Tryz.prog 34 #[c.v, .int .i64 p] w (RowR (mplc c p) w) := by
  have HR := Lib.hid (fun (W : World) => rrow_any c hok 1 p W (by omega) (by omega) (by omega) (by omega))
  have HBX := Lib.hid (Bx.new c w)
  have HV := Lib.hid (show c.v = .agg #[.int .u64 c.seed, .int .i64 c.vocab, .int .i64 c.dim, .int .i64 c.layers, .int .i64 c.top, .int .i64 c.heat] from rfl)
  unfold RowR
  rw [HV.out] at HR ⊢
  obtain ⟨D, hD⟩ : ∃ D : Nat, c.dim.toNat = D := ⟨_, rfl⟩
  have hD16 : D ≤ 16 := by have := hok.2.1; omega
  obtain ⟨f, hf⟩ : ∃ f : Nat → Int, (fun j : Nat => mwt (rat c.seed 1) p j) = f := ⟨_, rfl⟩
  have HMR := Lib.hid (show mrow c 1 p = mixl D (fun j => fmul (f j) 16384) f 0 by rw [mixl_zero, ← hf, ← hD]; rfl)
  have HMP := Lib.hid (show mixl D (fun j => fmul (f j) 16384) f D = mplc c p by
    rw [mixl_full _ _ _ _ (Nat.le_refl _)]
    unfold mplc
    rw [if_pos (by omega), mplace_eq, ← hf, hD])
  have HML := Lib.hid (show (mrow c 1 p).length = D by rw [mrow_len, hD])
  obtain ⟨W0, hW0⟩ : ∃ W0, w.alloc (.cells #[.int .u64 c.seed, .int .i64 c.vocab, .int .i64 c.dim, .int .i64 c.layers, .int .i64 c.top, .int .i64 c.heat] 24) = W0 := ⟨_, rfl⟩
  have HBE := Lib.hid (show Below w.heap.size w W0 by rw [← hW0]; exact below_alloc (Below.refl _ w) _)
  rw [hW0] at HBX
  have HW0 := Lib.hid hW0
  obtain ⟨x0, x1, x2, x3, x4, x5⟩ := HBX.out.at_
  clear hok hW0 hD hf
  go_enter Tryz.func34, Tryz.ntmps34
  go_wp2_with fail
  rw [HW0.out]
  go_wp2_with fail
  refine (HR.out _).mono ?_
  unfold RowR
  rintro e w2 ⟨v2, rfl, ho2, hb2⟩
  obtain ⟨A2, c2, hv2, hc2, -⟩ := ho2.reads_n HML.out
  subst hv2
  rw [HMR.out] at ho2
  have HO := Lib.hid ho2
  have HB := Lib.hid hb2
  clear ho2 hb2 x0 x1 x2 x3 x4 x5
  go_wp2_with fail
  go_loopw [6] (fun s wr => ∃ q : Nat, s = .int .i64 q ∧ q ≤ D ∧ Own wr W0.heap.size 2 (.slice A2 D c2) (mixl D (fun j => fmul (f j) 16384) f q) ∧ Below W0.heap.size W0 wr) (fun s _ => D - (intOf s).toNat)
  case atStart => exact ⟨0, rfl, by omega, HO.out, HB.out⟩
  case round =>
    obtain ⟨q, rfl, hq, ho, hb⟩ := hrel
    by_cases hqi : q < D
    · obtain ⟨g, cap, hvv, hg0, hg1⟩ := ho.form_n (mixl_len _ _ _ _) (by omega)
      simp only [Value.slice.injEq] at hvv
      obtain ⟨rfl, -, rfl⟩ := hvv
      obtain ⟨d1, f1⟩ := ho.at_n (mixl_len _ _ _ _) q hqi
      rw [mixl_get _ _ _ _ hqi] at d1
      have HS := Lib.hid (mixl_set D (fun j => fmul (f j) 16384) f q)
      obtain ⟨ex, hex⟩ : ∃ ex, f q = ex := ⟨_, rfl⟩
      rw [hex] at d1
      have HEX := Lib.hid hex
      have HO1 := Lib.hid ho
      have HB1 := Lib.hid hb
      clear ho hb hex
      go_wp2_with (go_at_call 53; refine (rmul_any _ _ _).mono ?_; rintro e w' ⟨rfl, rfl⟩)
      go_roundw
      case rel => exact ⟨q + 1, by go_num, by omega, by rw [← HS.out, HEX.out]; exact HO1.out.store_n (mixl_len _ _ _ _) q _, HB1.out.setCell (p := ⟨g, q, none⟩) hg0 _⟩
      case measure => simp [intOf]; omega
    · have HF := Lib.hid (show mixl D (fun j => fmul (f j) 16384) f q = mplc c p by rw [show q = D by omega, HMP.out])
      have HO1 := Lib.hid ho
      have HB1 := Lib.hid hb
      clear ho hb
      go_wp2_with fail
      go_ret
      exact ⟨_, rfl, by rw [← HF.out]; exact HO1.out.lower HBE.out.size, below_then HBE.out HBE.out.size HB1.out⟩

end Go.Proofs.YtdfgmdmcdnnhfaaGreat
