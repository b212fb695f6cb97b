/- (*Link).Counts. -/
import Derived.Test.YtcelhendfjiicaaLkR
namespace Go.Proofs.Ytcelhendfjiicaa
open Go.RowKit Go.Shelf Go.Proofs.YtcelhendfjiicaaW.PrintWords Go.Proofs.YtcelhendfjiicaaW.PrintLast Go.Proofs.YtcelhendfjiicaaW.PrintMore
set_option linter.unusedVariables false
set_option linter.unusedSimpArgs false
set_option maxRecDepth 100000
attribute [local go_sem] gb_max2 gb_min2 gb_max_two gb_min_two gb_max_three gb_min_three

/-- What a cell holds, whatever that is. -/
def cv (w : World) (a : Addr) : Value := (w.cell? a).getD undef
/-- Four cells of one's own at R, and a link at p, of which nothing has turned. -/
def CtS (W : World) (R p : Nat) (s c d t : Int) (w' : World) : Prop :=
  w'.cell? ⟨p, 2, none⟩ = some (.int .u32 s) ∧ w'.cell? ⟨p, 3, none⟩ = some (.int .u32 4294967295) ∧ w'.cell? ⟨p, 4, none⟩ = some (.int .u32 c) ∧ w'.cell? ⟨p, 5, none⟩ = some (.int .u32 4294967295) ∧
  w'.cell? ⟨p, 6, none⟩ = some (.int .u32 d) ∧ w'.cell? ⟨p, 7, none⟩ = some (.int .u32 4294967295) ∧ w'.cell? ⟨p, 8, none⟩ = some (.int .u32 t) ∧ w'.cell? ⟨p, 9, none⟩ = some (.int .u32 4294967295) ∧
  w'.cell? ⟨R, 0, none⟩ = some (cv w' ⟨R, 0, none⟩) ∧ w'.cell? ⟨R, 1, none⟩ = some (cv w' ⟨R, 1, none⟩) ∧ w'.cell? ⟨R, 2, none⟩ = some (cv w' ⟨R, 2, none⟩) ∧ w'.cell? ⟨R, 3, none⟩ = some (cv w' ⟨R, 3, none⟩) ∧
  w'.frozen? ⟨R, 0, none⟩ = false ∧ w'.frozen? ⟨R, 1, none⟩ = false ∧ w'.frozen? ⟨R, 2, none⟩ = false ∧ w'.frozen? ⟨R, 3, none⟩ = false ∧
  Hid (Below W.heap.size W w' ∧ p < W.heap.size ∧ W.heap.size ≤ R ∧ ∃ cs : Array Value, cs.size = 4 ∧ w'.heap[R]? = some (.cells cs 77 (0, 0)))
theorem CtS.mk_ {W w' : World} {R p : Nat} {base : Nat} {room : Int} {bss : List (List Int)} {s c d t : Int} (h : Lk W base p room bss s c d t) (hb : Below W.heap.size W w') (hR : W.heap.size ≤ R) {cs : Array Value} (hs : cs.size = 4) (hh : w'.heap[R]? = some (.cells cs 77 (0, 0))) : CtS W R p s c d t w' := by
  obtain ⟨hp, -, -, ⟨a1, a2⟩, ⟨a3, a4⟩, ⟨a5, a6⟩, ⟨a7, a8⟩⟩ := (h.below hb).at_
  have hc : ∀ j, j < 4 → w'.cell? ⟨R, j, none⟩ = some (cv w' ⟨R, j, none⟩) := fun j hj => by
    have e : w'.cell? ⟨R, j, none⟩ = some cs[j] := by rw [blk_cell hh]; exact Array.getElem?_eq_getElem (by omega)
    unfold cv; rw [e]; rfl
  exact ⟨a1, a2, a3, a4, a5, a6, a7, a8, hc 0 (by omega), hc 1 (by omega), hc 2 (by omega), hc 3 (by omega), blk_frozen hh 0, blk_frozen hh 1, blk_frozen hh 2, blk_frozen hh 3, Lib.hid ⟨hb, h.at_.1, hR, cs, hs, hh⟩⟩
theorem CtS.step {W w' w2 : World} {R p : Nat} {s c d t : Int} {base : Nat} {room : Int} {bss : List (List Int)} (h : Lk W base p room bss s c d t) (hS : CtS W R p s c d t w') (hb : Below w'.heap.size w' w2) : CtS W R p s c d t w2 := by
  obtain ⟨-, -, -, -, -, -, -, -, -, -, -, -, -, -, -, -, h5⟩ := hS
  obtain ⟨hbw, hp, hR, cs, hcs, hh⟩ := h5.out
  exact CtS.mk_ h (below_then hbw hbw.size hb) hR hcs (blk_below hh hb)
theorem CtS.set {W w' : World} {R p : Nat} {s c d t : Int} {base : Nat} {room : Int} {bss : List (List Int)} (h : Lk W base p room bss s c d t) (hS : CtS W R p s c d t w') (j : Nat) (u : Value) : CtS W R p s c d t (w'.setCell ⟨R, j, none⟩ u) := by
  obtain ⟨-, -, -, -, -, -, -, -, -, -, -, -, -, -, -, -, h5⟩ := hS
  obtain ⟨hbw, hp, hR, cs, hcs, hh⟩ := h5.out
  exact CtS.mk_ h (hbw.setCell (p := ⟨R, j, none⟩) hR u) hR (by simpa using hcs) (blk_set hh j u)

set_option maxRecDepth 100000 in
set_option maxHeartbeats 1000000 in
theorem counts_any (W : World) (base p : Nat) (room : Int) (bss : List (List Int)) (s c d t : Int) (h : Lk W base p room bss s c d t) (hr : 0 < room) :
    Calls Try.prog 39 #[.pointer (some ⟨p, 0, none⟩)] W fun e w' => e = .returned (.agg #[.int .u32 s, .int .u32 c, .int .u32 d, .int .u32 t]) ∧ Below W.heap.size W w' := by
  have HLK := Lib.hid h
  clear h
  go_enter Try.func39, Try.ntmps39
  go_wp2_with fail
  refine (lok_any _ base p room bss s c d t (HLK.out.below ((Below.refl _ W).alloc (Nat.le_refl _) _)) hr).mono ?_
  rintro e w' ⟨rfl, rfl⟩
  obtain ⟨W0, hW0⟩ : ∃ W0, W.alloc (.cells #[.int .u32 0, .int .u32 0, .int .u32 0, .int .u32 0] 77) = W0 := ⟨_, rfl⟩
  obtain ⟨R, hR⟩ : ∃ R, W.heap.size = R := ⟨_, rfl⟩
  have hS : CtS W R p s c d t W0 := by
    rw [← hW0, ← hR]
    exact CtS.mk_ HLK.out (below_alloc (Below.refl _ W) _) (Nat.le_refl _) rfl (heap_alloc_new _ _)
  rw [hW0, hR]
  have HRR := Lib.hid hR
  have HS := Lib.hid hS
  clear hW0 hR hS
  go_wp2_with fail
  go_region_held3 (fun w' => w'.cell? ⟨p, 2, none⟩ = some (.int .u32 s) ∧ w'.cell? ⟨p, 3, none⟩ = some (.int .u32 4294967295) ∧ w'.cell? ⟨p, 4, none⟩ = some (.int .u32 c) ∧ w'.cell? ⟨p, 5, none⟩ = some (.int .u32 4294967295) ∧
    w'.cell? ⟨p, 6, none⟩ = some (.int .u32 d) ∧ w'.cell? ⟨p, 7, none⟩ = some (.int .u32 4294967295) ∧ w'.cell? ⟨p, 8, none⟩ = some (.int .u32 t) ∧ w'.cell? ⟨p, 9, none⟩ = some (.int .u32 4294967295) ∧
    w'.cell? ⟨R, 0, none⟩ = some (cv w' ⟨R, 0, none⟩) ∧ w'.cell? ⟨R, 1, none⟩ = some (cv w' ⟨R, 1, none⟩) ∧ w'.cell? ⟨R, 2, none⟩ = some (cv w' ⟨R, 2, none⟩) ∧ w'.cell? ⟨R, 3, none⟩ = some (cv w' ⟨R, 3, none⟩) ∧
    w'.frozen? ⟨R, 0, none⟩ = false ∧ w'.frozen? ⟨R, 1, none⟩ = false ∧ w'.frozen? ⟨R, 2, none⟩ = false ∧ w'.frozen? ⟨R, 3, none⟩ = false ∧
    Hid (Below W.heap.size W w' ∧ p < W.heap.size ∧ W.heap.size ≤ R ∧ ∃ cs : Array Value, cs.size = 4 ∧ w'.heap[R]? = some (.cells cs 77 (0, 0))))
    (first | exact CtS.step HLK.out HS.out (below_drew (Below.refl _ _)) | exact CtS.step HLK.out (by assumption) (by assumption) | exact CtS.set HLK.out (CtS.set HLK.out (CtS.set HLK.out (CtS.set HLK.out (by assumption) 0 _) 1 _) 2 _) 3 _)
    (first
      | (go_at_call 57; refine (n_any _ _).mono ?_; rintro e w' ⟨rfl, hb⟩))
  all_goals
    rename_i u1 b1 u2 b2 u3 b3 hheld
    have hS9 : CtS W R p s c d t w' := CtS.step HLK.out (CtS.step HLK.out (CtS.step HLK.out (CtS.step HLK.out (CtS.step HLK.out HS.out (below_drew (Below.refl _ _))) b1) b2) b3) hb
    clear hheld
    obtain ⟨hbw, hp, hR, cs, hcs, hh⟩ := hS9.2.2.2.2.2.2.2.2.2.2.2.2.2.2.2.2.out
    obtain ⟨y0, y1, y2, y3, rfl⟩ : ∃ a b c d, cs = #[a, b, c, d] := ⟨cs[0], cs[1], cs[2], cs[3], by
      apply Array.ext
      · simpa using hcs
      · intro i h1 h2
        have h3 : i < 4 := by omega
        match i, h3 with
        | 0, _ => rfl
        | 1, _ => rfl
        | 2, _ => rfl
        | 3, _ => rfl⟩
    have HH := Lib.hid hh
    have HBW := Lib.hid hbw
    have HR := Lib.hid hR
    clear hbw hp hR hcs hh hS9
    go_wp2_with fail
    refine bodyPost_ret (results_cell_row rfl _ _ R 77 #[.int .u32 s, .int .u32 c, .int .u32 d, .int .u32 t] (0, 0) _ rfl (blk_set (blk_set (blk_set (blk_set HH.out 0 _) 1 _) 2 _) 3 _) Try.underlying77 rfl (by kernel_rfl)) rfl ?_
    exact ⟨rfl, (((HBW.out.setCell (p := ⟨R, 0, none⟩) HR.out _).setCell (p := ⟨R, 1, none⟩) HR.out _).setCell (p := ⟨R, 2, none⟩) HR.out _).setCell (p := ⟨R, 3, none⟩) HR.out _⟩

end Go.Proofs.Ytcelhendfjiicaa
