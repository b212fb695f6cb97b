/- What comes was sent, as it was, if nothing was turned; there are never more than room. -/
import Derived.Test.YtcelhendfjiicaaRows
import Derived.WalkKit
import Derived.ProofKit
import Derived.OpenShut
import Derived.ShutString
import Derived.ChangeOld
import Derived.Below
import Derived.Test.YtcelhendfjiicaaOpn
import Derived.SizedLaws
import Derived.Test.YtcelhendfjiicaaLnD
import Derived.Test.YtcelhendfjiicaaMpU
namespace Go.Proofs.Ytcelhendfjiicaa.linkSent
open Go.ChangeShapes Go.WideShapes Go.ChangeAt Go.RowKit
open Go.ChangeMaps (open_string shut_string)
set_option linter.unusedVariables false
set_option linter.unusedSimpArgs false
open Go.Proofs.YtcelhendfjiicaaW.PrintWords Go.Proofs.YtcelhendfjiicaaW.PrintLast Go.Proofs.YtcelhendfjiicaaW.PrintMore

theorem own : ownKnob Try.prog.godebug = none := by kernel_rfl
theorem laidOut : laidOutB Try.prog = true := by kernel_rfl

set_option maxRecDepth 100000
attribute [local go_sem] gb_max2 gb_min2 gb_max_two gb_min_two gb_max_three gb_min_three
theorem slice_came {α : Type} {e : Nat} {d : Kd α} {w : World} {a : Option Addr} {len cap : Nat} {xs : List α} (h : (Kd.slice e d).K w xs [.slice a len cap]) : len = xs.length ∧ xs.length ≤ cap ∧ d.C w a xs.length xs := by
  obtain ⟨A, c, he, hl, hC⟩ := h
  simp only [List.cons.injEq, Value.slice.injEq, and_true] at he
  obtain ⟨rfl, rfl, rfl⟩ := he
  exact ⟨rfl, hl, hC⟩
def U32 (n : Int) : Prop := 0 ≤ n ∧ n ≤ 4294967295
theorem U32.up {n : Int} (h : U32 n) : U32 (up n 1) := by unfold U32 Go.Proofs.Ytcelhendfjiicaa.up at *; omega
abbrev SMap := List (ByteArray × Value)
def AllT (S : SMap) : Prop := ∀ k v, mlook S k = some v → v = .bool true
/-- What stands: a link with texts that were sent. -/
def SentI (W : World) (base p : Nat) (room : Int) (m : Nat) (S : SMap) (g : Option Nat) (vs : List Value) (s c d t : Int) : Prop :=
  Ln W base p g room vs s c d t ∧ (U32 s ∧ U32 c ∧ U32 d) ∧ (vs.length : Int) ≤ room ∧ (∀ u ∈ vs, ∃ bs, Tx8 W base u bs ∧ bs.length ≤ 140737488351232 ∧ mlook S (strOfNums bs) = some (.bool true)) ∧ IsMp Value.string W m S ∧ AllT S
theorem mp_lg {W W' : World} {base p m : Nat} {g : Option Nat} {room : Int} {vs : List Value} {s c d t : Int} {S : SMap} (hL : Ln W base p g room vs s c d t) (hg : Lg p g W W') (h : IsMp Value.string W m S) : IsMp Value.string W' m S := by
  refine h.move (hg.block m h.lt (fun e => ?_) (fun e => ?_))
  · obtain ⟨es, cl, hb, -⟩ := h
    obtain ⟨-, -, v, -, hh, -⟩ := hL
    rw [e, hh] at hb; cases hb
  · obtain ⟨es, cl, hb, -⟩ := h
    obtain ⟨-, -, v, hv, -, hT⟩ := hL
    obtain ⟨cells, hc⟩ := own_typed hT m (by rw [hv]; exact e.symm)
    rw [hc] at hb; cases hb
theorem SentI.below {W W' : World} {base p m : Nat} {g : Option Nat} {room : Int} {vs : List Value} {s c d t : Int} {S : SMap} (h : SentI W base p room m S g vs s c d t) (hb : Below W.heap.size W W') : SentI W' base p room m S g vs s c d t :=
  ⟨h.1.below hb, h.2.1, h.2.2.1, fun u hu => by obtain ⟨bs, h1, h2⟩ := h.2.2.2.1 u hu; exact ⟨bs, h1.below hb, h2⟩, h.2.2.2.2.1.below hb, h.2.2.2.2.2⟩
theorem SentI.sub {W W' : World} {base p m : Nat} {g g' : Option Nat} {room : Int} {vs vs' : List Value} {s c d t s' c' d' t' : Int} {S : SMap} (h : SentI W base p room m S g vs s c d t) (hL : Ln W' base p g' room vs' s' c' d' t') (hg : Lg p g W W') (hu : U32 s' ∧ U32 c' ∧ U32 d') (hl : (vs'.length : Int) ≤ room) (hs : ∀ u ∈ vs', u ∈ vs) : SentI W' base p room m S g' vs' s' c' d' t' :=
  ⟨hL, hu, hl, fun u hu' => by obtain ⟨bs, h1, h2⟩ := h.2.2.2.1 u (hs u hu'); exact ⟨bs, h1.keep h.1 hg, h2⟩, mp_lg h.1 hg h.2.2.2.2.1, h.2.2.2.2.2⟩
theorem SentI.more {W W' : World} {base p m : Nat} {g g' : Option Nat} {room : Int} {vs : List Value} {s c d t s' c' d' t' : Int} {S : SMap} {x : Value} {bs : List Int} (h : SentI W base p room m S g vs s c d t) (hL : Ln W' base p g' room (vs ++ [x]) s' c' d' t') (hg : Lg p g W W') (hu : U32 s' ∧ U32 c' ∧ U32 d') (hl : (vs.length : Int) < room) (hx : Tx8 W' base x bs) (hb : bs.length ≤ 140737488351232) (hm : mlook S (strOfNums bs) = some (.bool true)) : SentI W' base p room m S g' (vs ++ [x]) s' c' d' t' :=
  ⟨hL, hu, by rw [List.length_append, List.length_singleton]; omega, fun u hu' => by
    rcases List.mem_append.1 hu' with hu' | hu'
    · obtain ⟨bs, h1, h2⟩ := h.2.2.2.1 u hu'
      exact ⟨bs, h1.keep h.1 hg, h2⟩
    · obtain rfl : u = x := by simpa using hu'
      exact ⟨bs, hx, hb, hm⟩, mp_lg h.1 hg h.2.2.2.2.1, h.2.2.2.2.2⟩
/-- A text more, and the map knows it. -/
theorem SentI.tell {W W' W'' : World} {base p m : Nat} {g g' : Option Nat} {room : Int} {vs : List Value} {s c d t s' c' d' t' : Int} {S : SMap} {x : Value} {bs : List Int} (h : SentI W base p room m S g vs s c d t) (hL : Ln W' base p g' room (vs ++ [x]) s' c' d' t') (hg : Lg p g W W') (hu : U32 s' ∧ U32 c' ∧ U32 d') (hl : (vs.length : Int) < room) (hx : Tx8 W' base x bs) (hb : bs.length ≤ 140737488351232)
    (hM : IsMp Value.string W'' m (mput S (strOfNums bs) (.bool true))) (hG : W'.grownBy W'' (some m)) : SentI W'' base p room m (mput S (strOfNums bs) (.bool true)) g' (vs ++ [x]) s' c' d' t' := by
  have hm1 := mp_lg h.1 hg h.2.2.2.2.1
  obtain ⟨es, cl, hmb, -⟩ := hm1
  have hpm : some p ≠ some m := fun e => by injection e with e; obtain ⟨-, -, v, -, hh, -⟩ := hL; rw [e, hmb] at hh; cases hh
  have hgm : g' = none ∨ g' ≠ some m := by
    rcases g' with _ | k
    · exact .inl rfl
    · refine .inr (fun e => ?_)
      obtain ⟨-, -, v, hv, -, hT⟩ := hL
      obtain ⟨cells, hc⟩ := own_typed hT k hv
      injection e with e
      rw [e, hmb] at hc; cases hc
  have hLn : Ln W'' base p g' room (vs ++ [x]) s' c' d' t' := by
    obtain ⟨hp, h1, v, hv, hh, hT⟩ := hL
    exact ⟨hp, h1, v, hv, blk_grown hh hG hpm, own_other hT hG (by rw [hv]; exact hgm)⟩
  have hT : ∀ u ys, Tx8 W' base u ys → Tx8 W'' base u ys := fun u ys hu => Kd.R_mono (Kd.R_grown (Kd.R_bound hu) hG (fun k hk e => by
    obtain ⟨-, -, -, q, -, cells, hc⟩ := hk
    injection e with e
    rw [e, hmb] at hc; cases hc)) (fun _ _ => trivial)
  refine ⟨hLn, hu, by rw [List.length_append, List.length_singleton]; omega, fun u hu' => ?_, hM, fun k v hk => ?_⟩
  · rcases List.mem_append.1 hu' with hu' | hu'
    · obtain ⟨ys, h1, h2, h3⟩ := h.2.2.2.1 u hu'
      refine ⟨ys, hT _ _ (h1.keep h.1 hg), h2, ?_⟩
      rw [mlook_put]; split
      · rfl
      · exact h3
    · obtain rfl : u = x := by simpa using hu'
      exact ⟨bs, hT _ _ hx, hb, by rw [mlook_put, if_pos rfl]⟩
  · rw [mlook_put] at hk
    split at hk
    · injection hk with hk; exact hk.symm
    · exact h.2.2.2.2.2 k v hk
theorem AllT.at_ {S : SMap} (h : AllT S) (k : ByteArray) : ∃ b, (mlook S k).getD (.bool false) = .bool b := by
  cases hl : mlook S k with
  | none => exact ⟨false, rfl⟩
  | some v => exact ⟨true, by rw [h k v hl]; rfl⟩
theorem erase_sub {vs : List Value} {i : Nat} : ∀ u ∈ eraseV vs i, u ∈ vs := fun u hu => by
  unfold eraseV at hu
  rcases List.mem_append.1 hu with hu | hu
  · exact List.mem_of_mem_take hu
  · exact List.mem_of_mem_drop hu
theorem later_sub {vs : List Value} {i : Nat} (hi : i < vs.length) : ∀ u ∈ eraseV vs i ++ [vs.getD i undef], u ∈ vs := fun u hu => by
  rcases List.mem_append.1 hu with hu | hu
  · exact erase_sub u hu
  · obtain rfl : u = vs.getD i undef := by simpa using hu
    rw [List.getD_eq_getElem?_getD, List.getElem?_eq_getElem hi]; exact List.getElem_mem hi
theorem later_len {vs : List Value} {i : Nat} (hi : i < vs.length) : (eraseV vs i ++ [vs.getD i undef]).length = vs.length := by
  rw [List.length_append, List.length_singleton, eraseV_len vs i hi]; omega
theorem zbool (w : World) : (zeroValue 4).run Try.prog w = .ok (.bool false) w := by kernel_rfl
set_option maxHeartbeats 4000000 in
theorem walk (a0 : Int) (a1 : Option Addr) (len1 cap1 : Nat) (x1 : List StepV) (w : World) (gd0 : (Lit.int .u8 a0).wf = true) (k1 : (Kd.slice 54 KStep).K w x1 [.slice a1 len1 cap1]) (gd1 : (fun xs => (∀ x ∈ xs, StepG x) ∧ xs.length ≤ maxLen ∧ xs.length * Try.prog.bytesOf 54 ≤ reachBytes) x1) :
    Calls Try.prog 5 #[.int .u8 a0, .slice a1 len1 cap1] w fun e w' => e = .returned (.bool true) ∧ Below w.heap.size w w' := by
  obtain ⟨rfl, hcx, hx⟩ := slice_came k1
  obtain ⟨hgd, hml, -⟩ := gd1
  have ha : 0 ≤ a0 ∧ a0 ≤ 255 := by
    have h := gd0
    change (decide ((0 : Int) ≤ a0) && decide (a0 ≤ (255 : Int))) = true at h
    simpa using h
  have HX := Lib.hid (fun (W' : World) (hb : Below w.heap.size w W') => Kd.C_below hx hb)
  have HGD := Lib.hid hgd
  obtain ⟨room, hroom⟩ : ∃ r, a0 % 8 + 1 = r := ⟨_, rfl⟩
  have hr1 : 1 ≤ room := by omega
  have hr8 : room ≤ 8 := by omega
  have HFAR := Lib.hid (fun (W' : World) (hb : Below w.heap.size w W') => far21_any a1 x1 cap1 W' (Kd.C_below hx hb) hcx)
  have HSHO := Lib.hid (fun (W' : World) => short21_any a1 x1.length cap1 hcx W')
  obtain ⟨N, hN⟩ : ∃ N, x1.length = N := ⟨_, rfl⟩
  rw [hN] at hcx HFAR HSHO ⊢
  have HN := Lib.hid hN
  obtain ⟨fb, hfb⟩ : ∃ b, decide (10000 < farS (x1.take 200)) = b := ⟨_, rfl⟩
  rw [hfb] at HFAR
  obtain ⟨M, hM⟩ : ∃ M, min N 200 = M := ⟨_, rfl⟩
  rw [hM] at HSHO
  have hMN : M ≤ N := by omega
  have hM2 : M ≤ 200 := by omega
  clear k1 gd0 hgd hx hN hfb hM hml
  go_enter Try.func5, Try.ntmps5
  go_wp2_with fail
  try rw [hroom]
  refine (lnnew_any room _ hr1 (by omega)).mono ?_
  unfold LnNew
  rintro e w1 ⟨p, rfl, hL, hb⟩
  have HL := Lib.hid hL
  have HB := Lib.hid hb
  clear hL hb
  go_wp2_with fail
  refine (HFAR.out w1 HB.out).mono ?_
  rintro e w2 ⟨rfl, hb⟩
  have HB2 := Lib.hid (below_then HB.out HB.out.size hb)
  have HL2 := Lib.hid (HL.out.below hb)
  clear hb
  cases fb with
  | true =>
    go_wp2_with fail
    refine (alive21_any _).mono ?_
    rintro e w3 ⟨rfl, hb⟩
    have HB3 := Lib.hid (below_then HB2.out HB2.out.size hb)
    clear hb
    go_wp2_with fail
    go_ret
    exact ⟨rfl, HB3.out⟩
  | false =>
    have hmk := @run_makeMap Try.prog
    go_wp2_with fail
    obtain ⟨w3, hw3⟩ : ∃ w3, w2.alloc (.map #[] 0) = w3 := ⟨_, rfl⟩
    obtain ⟨m, hm⟩ : ∃ m, w2.heap.size = m := ⟨_, rfl⟩
    have hMp := IsMp.made Value.string w2
    rw [hw3, hm] at hMp
    have hb3 : Below w2.heap.size w2 w3 := by rw [← hw3]; exact below_alloc (Below.refl _ _) _
    have HB3 := Lib.hid (below_then HB2.out HB2.out.size hb3)
    have HI := Lib.hid (show SentI w3 w.heap.size p room m [] none [] 0 0 0 0 from ⟨HL2.out.below hb3, ⟨⟨by omega, by omega⟩, ⟨by omega, by omega⟩, ⟨by omega, by omega⟩⟩, by simp; omega, by simp, hMp, fun k v h => by simp [mlook] at h⟩)
    rw [hw3]
    try rw [hm]
    have HMB := Lib.hid (show w.heap.size ≤ m by rw [← hm]; exact HB2.out.size)
    clear hw3 hm hMp hb3 hmk
    refine (HSHO.out w3).mono ?_
    rintro e w' ⟨rfl, rfl⟩
    go_wp2_with fail
    go_loopw [45] (fun iv wr => ∃ (i : Nat) (S : SMap) (g : Option Nat) (vs : List Value) (s c d t : Int), iv = .int .i64 i ∧ i ≤ M ∧ Hid (SentI wr w.heap.size p room m S g vs s c d t) ∧ Hid (Below w.heap.size w wr)) (fun iv _ => M - (intOf iv).toNat)
    case atStart => exact ⟨0, [], none, [], 0, 0, 0, 0, rfl, by omega, HI, HB3⟩
    case round =>
      obtain ⟨i, S, g, vs, s, c, d, t, rfl, hi, HIr, HBr⟩ := hrel
      by_cases hiM : i < M
      · obtain ⟨ad, x, A, ca, e1, -, hxm, hca, hCw, q0, q1, q2, q3, q4⟩ := steps_at (HX.out w (Below.refl _ _)) i (by rw [HN.out]; omega)
        subst e1
        have hg := HGD.out x hxm
        have hlen := hg.len
        have hk : 0 ≤ x.1 := by
          have h := hg.1
          change (decide ((0 : Int) ≤ x.1) && decide (x.1 ≤ (255 : Int))) = true at h
          simp at h; omega
        have q0 := pw_cell_below HBr.out q0
        have q1 := pw_cell_below HBr.out q1
        have q2 := pw_cell_below HBr.out q2
        have q3 := pw_cell_below HBr.out q3
        have q4 := pw_cell_below HBr.out q4
        obtain ⟨kd, bs, si, sat, sm⟩ := x
        dsimp only at hca hCw q0 q1 q2 q3 q4 hlen hk
        obtain ⟨n, hn⟩ : ∃ n, bs.length = n := ⟨_, rfl⟩
        rw [hn] at hca q1 hlen hCw
        have HNB := Lib.hid hn
        have HC := Lib.hid hCw
        obtain ⟨W0, hW0⟩ : ∃ W0, wr.alloc (.cells #[.int .u8 kd, .slice A n ca, .int .i64 si, .int .i64 sat, .int .u32 sm] 54) = W0 := ⟨_, rfl⟩
        have hb0 : Below wr.heap.size wr W0 := by rw [← hW0]; exact below_alloc (Below.refl _ _) _
        have HI0 := Lib.hid (HIr.out.below hb0)
        have HB0 := Lib.hid (below_then HBr.out HBr.out.size hb0)
        have hbx := heap_alloc_new wr (.cells #[.int .u8 kd, .slice A n ca, .int .i64 si, .int .i64 sat, .int .u32 sm] 54)
        rw [hW0] at hbx
        obtain ⟨b0, hb0'⟩ : ∃ b, wr.heap.size = b := ⟨_, rfl⟩
        rw [hb0'] at hbx
        have HBX := Lib.hid hbx
        have HW0 := Lib.hid hW0
        have HB0' := Lib.hid hb0'
        obtain ⟨K, hK⟩ : ∃ K, kd % 8 = K := ⟨_, rfl⟩
        have hK0 : K = 0 ∨ K = 1 ∨ K = 2 ∨ K = 3 ∨ K = 4 ∨ K = 5 ∨ K = 6 ∨ K = 7 := by omega
        have z1 := blk_cell hbx 1
        have z2 := blk_cell hbx 2
        clear hn hCw hW0 hb0 hb0' hbx hg hxm
        rcases hK0 with rfl | rfl | rfl | rfl | rfl | rfl | rfl | rfl

        · go_wp2_with fail
          try rw [HW0.out, HB0'.out]
          by_cases hf : (vs.length : Int) = room
          · have HS := Lib.hid (lnsend_full W0 w.heap.size p g room vs s c d t HI0.out.1 (by omega) hf (by have := HI0.out.2.2.1; omega) HI0.out.2.1.1.1 HI0.out.2.1.1.2 HI0.out.2.1.2.2.1 HI0.out.2.1.2.2.2 A ca bs (fun W' hk => by rw [HNB.out]; exact C_kb HC.out HB0.out HI0.out.1.1 hk) (by rw [HNB.out]; exact hca) (by rw [HNB.out]; exact hlen))
            rw [HNB.out] at HS
            clear hf
            refine HS.out.mono ?_
            rintro e W9 ⟨rfl, hL, hg⟩
            have HI9 := Lib.hid (HI0.out.sub hL hg ⟨HI0.out.2.1.1.up, HI0.out.2.1.2.1, HI0.out.2.1.2.2.up⟩ HI0.out.2.2.1 (fun u hu => hu))
            have HB9 := Lib.hid (HB0.out.trans (hg.below HI0.out.1.1 (fun k hk => (HI0.out.1.gb k hk).1) (Nat.le_trans HI0.out.1.1 (Nat.le_of_lt HI0.out.1.at_.1))))
            clear hL hg HS z1 z2
            go_wp2_with fail
            obtain ⟨q9, hq9⟩ : ∃ q, (vs).length = q := ⟨_, rfl⟩
            have hq8 : (q9 : Int) ≤ room := by have h := HI9.out.2.2.1; rw [hq9] at h; exact h
            have HLN := Lib.hid (lnlen_any W9 w.heap.size p g room (vs) (up s 1) c (up d 1) t HI9.out.1 (by omega) q9 hq9)
            clear hq9
            go_wp2_with fail
            refine HLN.out.mono ?_
            rintro e w' ⟨rfl, rfl⟩
            go_wp2_with fail
            go_roundw
            case rel => exact ⟨i + 1, S, g, _, (up s 1), c, (up d 1), t, by go_num, by omega, HI9, HB9⟩
            case measure => simp [intOf]; omega
          · have HS := Lib.hid (lnsend_ok W0 w.heap.size p g room vs s c d t HI0.out.1 (by omega) hf (by have := HI0.out.2.2.1; omega) HI0.out.2.1.1.1 HI0.out.2.1.1.2 HI0.out.2.1.2.2.1 HI0.out.2.1.2.2.2 A ca bs (fun W' hk => by rw [HNB.out]; exact C_kb HC.out HB0.out HI0.out.1.1 hk) (by rw [HNB.out]; exact hca) (by rw [HNB.out]; exact hlen))
            rw [HNB.out] at HS
            have hlt : (vs.length : Int) < room := by have := HI0.out.2.2.1; omega
            have HLT := Lib.hid hlt
            clear hf hlt
            refine HS.out.mono ?_
            rintro e W9 ⟨y, hT, rfl, g9, hgn, hL, hg⟩
            have HB9 := Lib.hid (HB0.out.trans (hg.below HI0.out.1.1 (fun k hk => (HI0.out.1.gb k hk).1) (Nat.le_trans HI0.out.1.1 (Nat.le_of_lt HI0.out.1.at_.1))))
            have hb9 : W9.heap[b0]? = some (.cells #[.int .u8 kd, .slice A n ca, .int .i64 si, .int .i64 sat, .int .u32 sm] 54 (0, 0)) := (hg.block b0 (blk_lt HBX.out) (fun e => by have h1 := HIr.out.1.at_.1; have h2 := HB0'.out; omega) (fun e => by have h1 := (HIr.out.1.gb b0 e.symm).2.1; have h2 := HB0'.out; omega)).trans HBX.out
            have z19 := blk_cell hb9 1
            have hC9 := Kd.C_below HC.out HB9.out
            obtain ⟨T9, hT9⟩ : ∃ T9, strOfNums bs = T9 := ⟨_, rfl⟩
            have ks := Kd.C_string (P := Try.prog) (w := W9) (c := ca) Try.underlying28 Try.underlying5 Try.underlying9 hC9
            rw [hT9] at ks
            have hM9 := mp_lg HI0.out.1 hg HI0.out.2.2.2.2.1
            obtain ⟨W10, hrun, hM10, hG10, -⟩ := run_mput (P := Try.prog) Try.underlying50 (key_str Try.underlying9) hM9 T9 (.bool true)
            have HI9 := Lib.hid (HI0.out.tell hL hg ⟨HI0.out.2.1.1.up, HI0.out.2.1.2.1, HI0.out.2.1.2.2⟩ HLT.out (hT.lower (Nat.le_trans HI0.out.1.1 (Nat.le_of_lt HI0.out.1.at_.1))) (by rw [HNB.out]; exact hlen) (by rw [hT9]; exact hM10) hG10)
            have HB10 := Lib.hid (pw_below_grown HB9.out (some m) (Nat.le_trans HB0.out.size (by have := hg.size; exact this)) hG10 (fun k hk => by injection hk with hk; have := HMB.out; omega))
            clear hL hg HS z1 z2 hb9 hC9 hM9 hM10 hG10 hT hgn hT9
            go_wp2_with fail
            obtain ⟨q9, hq9⟩ : ∃ q, (vs ++ [y]).length = q := ⟨_, rfl⟩
            have hq8 : (q9 : Int) ≤ room := by have h := HI9.out.2.2.1; rw [hq9] at h; exact h
            have HLN := Lib.hid (lnlen_any W10 w.heap.size p g9 room (vs ++ [y]) (up s 1) c d t HI9.out.1 (by omega) q9 hq9)
            clear hq9
            go_wp2_with fail
            refine HLN.out.mono ?_
            rintro e w' ⟨rfl, rfl⟩
            go_wp2_with fail
            go_roundw
            case rel => exact ⟨i + 1, _, g9, _, (up s 1), c, d, t, by go_num, by omega, HI9, HB10⟩
            case measure => simp [intOf]; omega
        · go_wp2_with fail
          try rw [HW0.out, HB0'.out]
          by_cases hf : (vs.length : Int) = room
          · have HS := Lib.hid (lnsend_full W0 w.heap.size p g room vs s c d t HI0.out.1 (by omega) hf (by have := HI0.out.2.2.1; omega) HI0.out.2.1.1.1 HI0.out.2.1.1.2 HI0.out.2.1.2.2.1 HI0.out.2.1.2.2.2 A ca bs (fun W' hk => by rw [HNB.out]; exact C_kb HC.out HB0.out HI0.out.1.1 hk) (by rw [HNB.out]; exact hca) (by rw [HNB.out]; exact hlen))
            rw [HNB.out] at HS
            clear hf
            refine HS.out.mono ?_
            rintro e W9 ⟨rfl, hL, hg⟩
            have HI9 := Lib.hid (HI0.out.sub hL hg ⟨HI0.out.2.1.1.up, HI0.out.2.1.2.1, HI0.out.2.1.2.2.up⟩ HI0.out.2.2.1 (fun u hu => hu))
            have HB9 := Lib.hid (HB0.out.trans (hg.below HI0.out.1.1 (fun k hk => (HI0.out.1.gb k hk).1) (Nat.le_trans HI0.out.1.1 (Nat.le_of_lt HI0.out.1.at_.1))))
            clear hL hg HS z1 z2
            go_wp2_with fail
            obtain ⟨q9, hq9⟩ : ∃ q, (vs).length = q := ⟨_, rfl⟩
            have hq8 : (q9 : Int) ≤ room := by have h := HI9.out.2.2.1; rw [hq9] at h; exact h
            have HLN := Lib.hid (lnlen_any W9 w.heap.size p g room (vs) (up s 1) c (up d 1) t HI9.out.1 (by omega) q9 hq9)
            clear hq9
            go_wp2_with fail
            refine HLN.out.mono ?_
            rintro e w' ⟨rfl, rfl⟩
            go_wp2_with fail
            go_roundw
            case rel => exact ⟨i + 1, S, g, _, (up s 1), c, (up d 1), t, by go_num, by omega, HI9, HB9⟩
            case measure => simp [intOf]; omega
          · have HS := Lib.hid (lnsend_ok W0 w.heap.size p g room vs s c d t HI0.out.1 (by omega) hf (by have := HI0.out.2.2.1; omega) HI0.out.2.1.1.1 HI0.out.2.1.1.2 HI0.out.2.1.2.2.1 HI0.out.2.1.2.2.2 A ca bs (fun W' hk => by rw [HNB.out]; exact C_kb HC.out HB0.out HI0.out.1.1 hk) (by rw [HNB.out]; exact hca) (by rw [HNB.out]; exact hlen))
            rw [HNB.out] at HS
            have hlt : (vs.length : Int) < room := by have := HI0.out.2.2.1; omega
            have HLT := Lib.hid hlt
            clear hf hlt
            refine HS.out.mono ?_
            rintro e W9 ⟨y, hT, rfl, g9, hgn, hL, hg⟩
            have HB9 := Lib.hid (HB0.out.trans (hg.below HI0.out.1.1 (fun k hk => (HI0.out.1.gb k hk).1) (Nat.le_trans HI0.out.1.1 (Nat.le_of_lt HI0.out.1.at_.1))))
            have hb9 : W9.heap[b0]? = some (.cells #[.int .u8 kd, .slice A n ca, .int .i64 si, .int .i64 sat, .int .u32 sm] 54 (0, 0)) := (hg.block b0 (blk_lt HBX.out) (fun e => by have h1 := HIr.out.1.at_.1; have h2 := HB0'.out; omega) (fun e => by have h1 := (HIr.out.1.gb b0 e.symm).2.1; have h2 := HB0'.out; omega)).trans HBX.out
            have z19 := blk_cell hb9 1
            have hC9 := Kd.C_below HC.out HB9.out
            obtain ⟨T9, hT9⟩ : ∃ T9, strOfNums bs = T9 := ⟨_, rfl⟩
            have ks := Kd.C_string (P := Try.prog) (w := W9) (c := ca) Try.underlying28 Try.underlying5 Try.underlying9 hC9
            rw [hT9] at ks
            have hM9 := mp_lg HI0.out.1 hg HI0.out.2.2.2.2.1
            obtain ⟨W10, hrun, hM10, hG10, -⟩ := run_mput (P := Try.prog) Try.underlying50 (key_str Try.underlying9) hM9 T9 (.bool true)
            have HI9 := Lib.hid (HI0.out.tell hL hg ⟨HI0.out.2.1.1.up, HI0.out.2.1.2.1, HI0.out.2.1.2.2⟩ HLT.out (hT.lower (Nat.le_trans HI0.out.1.1 (Nat.le_of_lt HI0.out.1.at_.1))) (by rw [HNB.out]; exact hlen) (by rw [hT9]; exact hM10) hG10)
            have HB10 := Lib.hid (pw_below_grown HB9.out (some m) (Nat.le_trans HB0.out.size (by have := hg.size; exact this)) hG10 (fun k hk => by injection hk with hk; have := HMB.out; omega))
            clear hL hg HS z1 z2 hb9 hC9 hM9 hM10 hG10 hT hgn hT9
            go_wp2_with fail
            obtain ⟨q9, hq9⟩ : ∃ q, (vs ++ [y]).length = q := ⟨_, rfl⟩
            have hq8 : (q9 : Int) ≤ room := by have h := HI9.out.2.2.1; rw [hq9] at h; exact h
            have HLN := Lib.hid (lnlen_any W10 w.heap.size p g9 room (vs ++ [y]) (up s 1) c d t HI9.out.1 (by omega) q9 hq9)
            clear hq9
            go_wp2_with fail
            refine HLN.out.mono ?_
            rintro e w' ⟨rfl, rfl⟩
            go_wp2_with fail
            go_roundw
            case rel => exact ⟨i + 1, _, g9, _, (up s 1), c, d, t, by go_num, by omega, HI9, HB10⟩
            case measure => simp [intOf]; omega
        · go_wp2_with fail
          try rw [HW0.out, HB0'.out]
          by_cases hin : 0 ≤ si ∧ si < (vs.length : Int)
          · obtain ⟨k, rfl⟩ := Int.eq_ofNat_of_zero_le hin.1
            have hk : k < vs.length := by omega
            obtain ⟨ys, hT0, hy, hm9⟩ := HI0.out.2.2.2.1 (vs.getD k undef) (by rw [List.getD_eq_getElem?_getD, List.getElem?_eq_getElem hk]; exact List.getElem_mem hk)
            obtain ⟨Au, cu, hu, -, -⟩ := hT0.reads
            have HS := Lib.hid (lndeliver_in W0 w.heap.size p g room vs s c d t HI0.out.1 (by omega) k hk (by have := HI0.out.2.2.1; omega) HI0.out.2.1.2.1.1 HI0.out.2.1.2.1.2)
            unfold DelV at HS
            rw [hu] at HS hT0
            obtain ⟨q, hq⟩ : ∃ q, ys.length = q := ⟨_, rfl⟩
            rw [hq] at HS hT0
            have hle := eraseV_len vs k hk
            have HT0 := Lib.hid hT0
            have HM9 := Lib.hid hm9
            have HQ := Lib.hid hq
            clear hin z1 z2 hT0 hu hm9 hq hy
            refine HS.out.mono ?_
            rintro e W9 ⟨rfl, hL, hg⟩
            have HI9 := Lib.hid (HI0.out.sub hL hg ⟨HI0.out.2.1.1, HI0.out.2.1.2.1.up, HI0.out.2.1.2.2⟩ (by have := HI0.out.2.2.1; omega) erase_sub)
            have HB9 := Lib.hid (HB0.out.trans (hg.below HI0.out.1.1 (fun k hk => (HI0.out.1.gb k hk).1) (Nat.le_trans HI0.out.1.1 (Nat.le_of_lt HI0.out.1.at_.1))))
            have hT9 := (HT0.out.keep HI0.out.1 hg).C.2.2
            clear hL hg HS hle hk
            obtain ⟨T9, hT9e⟩ : ∃ T9, strOfNums ys = T9 := ⟨_, rfl⟩
            have ks := Kd.C_string (P := Try.prog) (w := W9) (c := cu) Try.underlying28 Try.underlying5 Try.underlying9 hT9
            rw [hT9e] at ks HM9
            have hl2 := run_mlook (P := Try.prog) Try.underlying50 (key_str Try.underlying9) (zbool W9) HI9.out.2.2.2.2.1 T9 false
            rw [HM9.out] at hl2
            have hl2' : (Instr.lookup 50 (.map (some m)) (.string T9) false).run Try.prog W9 = .ok (.bool true) W9 := hl2
            by_cases hq0 : 0 < q
            · clear hT9 hT9e hl2
              go_wp2_with fail
              obtain ⟨q9, hq9⟩ : ∃ q, (eraseV vs k).length = q := ⟨_, rfl⟩
              have hq8 : (q9 : Int) ≤ room := by have h := HI9.out.2.2.1; rw [hq9] at h; exact h
              have HLN := Lib.hid (lnlen_any W9 w.heap.size p g room (eraseV vs k) s (up c 1) d t HI9.out.1 (by omega) q9 hq9)
              clear hq9
              go_wp2_with fail
              refine HLN.out.mono ?_
              rintro e w' ⟨rfl, rfl⟩
              go_wp2_with fail
              go_roundw
              case rel => exact ⟨i + 1, S, g, _, s, (up c 1), d, t, by go_num, by omega, HI9, HB9⟩
              case measure => simp [intOf]; omega
            · have hys : ys = [] := List.eq_nil_of_length_eq_zero (by rw [HQ.out]; omega)
              subst hys
              have hTe : T9 = ⟨#[]⟩ := hT9e.symm
              subst hTe
              have hq1 : q = 0 := by omega
              subst hq1
              clear hT9 hT9e hl2 hq0
              go_wp2_with fail
              obtain ⟨q9, hq9⟩ : ∃ q, (eraseV vs k).length = q := ⟨_, rfl⟩
              have hq8 : (q9 : Int) ≤ room := by have h := HI9.out.2.2.1; rw [hq9] at h; exact h
              have HLN := Lib.hid (lnlen_any W9 w.heap.size p g room (eraseV vs k) s (up c 1) d t HI9.out.1 (by omega) q9 hq9)
              clear hq9
              go_wp2_with fail
              refine HLN.out.mono ?_
              rintro e w' ⟨rfl, rfl⟩
              go_wp2_with fail
              go_roundw
              case rel => exact ⟨i + 1, S, g, _, s, (up c 1), d, t, by go_num, by omega, HI9, HB9⟩
              case measure => simp [intOf]; omega
          · have ho : si < 0 ∨ (vs.length : Int) ≤ si := by omega
            have HS := Lib.hid (lndeliver_out W0 w.heap.size p g room vs s c d t HI0.out.1 (by omega) si ho)
            obtain ⟨b9, hb9⟩ := HI0.out.2.2.2.2.2.at_ ⟨#[]⟩
            have hl2 := run_mlook (P := Try.prog) Try.underlying50 (key_str Try.underlying9) (zbool W0) HI0.out.2.2.2.2.1 ⟨#[]⟩ false
            rw [hb9] at hl2
            have hl2' : (Instr.lookup 50 (.map (some m)) (.string ⟨#[]⟩) false).run Try.prog W0 = .ok (.bool b9) W0 := hl2
            clear hin ho z1 z2 hb9 hl2
            refine HS.out.mono ?_
            rintro e w' ⟨rfl, rfl⟩
            cases b9
            all_goals
              go_wp2_with fail
              obtain ⟨q9, hq9⟩ : ∃ q, (vs).length = q := ⟨_, rfl⟩
              have hq8 : (q9 : Int) ≤ room := by have h := HI0.out.2.2.1; rw [hq9] at h; exact h
              have HLN := Lib.hid (lnlen_any W0 w.heap.size p g room (vs) s c d t HI0.out.1 (by omega) q9 hq9)
              clear hq9
              go_wp2_with fail
              refine HLN.out.mono ?_
              rintro e w' ⟨rfl, rfl⟩
              go_wp2_with fail
              go_roundw
              case rel => exact ⟨i + 1, S, g, _, s, c, d, t, by go_num, by omega, HI0, HB0⟩
              case measure => simp [intOf]; omega
        · go_wp2_with fail
          try rw [HW0.out, HB0'.out]
          by_cases hin : 0 ≤ si ∧ si < (vs.length : Int)
          · obtain ⟨k, rfl⟩ := Int.eq_ofNat_of_zero_le hin.1
            have hk : k < vs.length := by omega
            have HS := Lib.hid (lndrop_in W0 w.heap.size p g room vs s c d t HI0.out.1 (by omega) k hk (by have := HI0.out.2.2.1; omega) HI0.out.2.1.2.2.1 HI0.out.2.1.2.2.2)
            have hle := eraseV_len vs k hk
            clear hin z1 z2
            refine HS.out.mono ?_
            rintro e W9 ⟨rfl, hL, hg⟩
            have HI9 := Lib.hid (HI0.out.sub hL hg ⟨HI0.out.2.1.1, HI0.out.2.1.2.1, HI0.out.2.1.2.2.up⟩ (by have := HI0.out.2.2.1; omega) erase_sub)
            have HB9 := Lib.hid (HB0.out.trans (hg.below HI0.out.1.1 (fun k hk => (HI0.out.1.gb k hk).1) (Nat.le_trans HI0.out.1.1 (Nat.le_of_lt HI0.out.1.at_.1))))
            clear hL hg HS hle hk
            go_wp2_with fail
            obtain ⟨q9, hq9⟩ : ∃ q, (eraseV vs k).length = q := ⟨_, rfl⟩
            have hq8 : (q9 : Int) ≤ room := by have h := HI9.out.2.2.1; rw [hq9] at h; exact h
            have HLN := Lib.hid (lnlen_any W9 w.heap.size p g room (eraseV vs k) s c (up d 1) t HI9.out.1 (by omega) q9 hq9)
            clear hq9
            go_wp2_with fail
            refine HLN.out.mono ?_
            rintro e w' ⟨rfl, rfl⟩
            go_wp2_with fail
            go_roundw
            case rel => exact ⟨i + 1, S, g, _, s, c, (up d 1), t, by go_num, by omega, HI9, HB9⟩
            case measure => simp [intOf]; omega
          · have ho : si < 0 ∨ (vs.length : Int) ≤ si := by omega
            have HS := Lib.hid (lndrop_out W0 w.heap.size p g room vs s c d t HI0.out.1 (by omega) si ho)
            clear hin ho z1 z2
            refine HS.out.mono ?_
            rintro e w' ⟨rfl, rfl⟩
            go_wp2_with fail
            obtain ⟨q9, hq9⟩ : ∃ q, (vs).length = q := ⟨_, rfl⟩
            have hq8 : (q9 : Int) ≤ room := by have h := HI0.out.2.2.1; rw [hq9] at h; exact h
            have HLN := Lib.hid (lnlen_any W0 w.heap.size p g room (vs) s c d t HI0.out.1 (by omega) q9 hq9)
            clear hq9
            go_wp2_with fail
            refine HLN.out.mono ?_
            rintro e w' ⟨rfl, rfl⟩
            go_wp2_with fail
            go_roundw
            case rel => exact ⟨i + 1, S, g, _, s, c, d, t, by go_num, by omega, HI0, HB0⟩
            case measure => simp [intOf]; omega
        · go_wp2_with fail
          try rw [HW0.out, HB0'.out]
          by_cases hin : 0 ≤ si ∧ si < (vs.length : Int)
          · obtain ⟨k, rfl⟩ := Int.eq_ofNat_of_zero_le hin.1
            have hk : k < vs.length := by omega
            by_cases hf : (vs.length : Int) = room
            · have HS := Lib.hid (lntwice_full W0 w.heap.size p g room vs s c d t HI0.out.1 (by omega) hf k hk)
              clear hin z1 z2 hk hf
              refine HS.out.mono ?_
              rintro e W9 ⟨rfl, hb⟩
              have HI9 := Lib.hid (HI0.out.below hb)
              have HB9 := Lib.hid (below_then HB0.out HB0.out.size hb)
              clear hb HS
              go_wp2_with fail
              obtain ⟨q9, hq9⟩ : ∃ q, (vs).length = q := ⟨_, rfl⟩
              have hq8 : (q9 : Int) ≤ room := by have h := HI9.out.2.2.1; rw [hq9] at h; exact h
              have HLN := Lib.hid (lnlen_any W9 w.heap.size p g room (vs) s c d t HI9.out.1 (by omega) q9 hq9)
              clear hq9
              go_wp2_with fail
              refine HLN.out.mono ?_
              rintro e w' ⟨rfl, rfl⟩
              go_wp2_with fail
              go_roundw
              case rel => exact ⟨i + 1, S, g, _, s, c, d, t, by go_num, by omega, HI9, HB9⟩
              case measure => simp [intOf]; omega
            · obtain ⟨ys, hT0, hy, hm9⟩ := HI0.out.2.2.2.1 (vs.getD k undef) (by rw [List.getD_eq_getElem?_getD, List.getElem?_eq_getElem hk]; exact List.getElem_mem hk)
              have HS := Lib.hid (lntwice_ok W0 w.heap.size p g room vs s c d t HI0.out.1 (by omega) hf k hk (by have := HI0.out.2.2.1; omega) ys hT0 hy)
              have HLT := Lib.hid (show (vs.length : Int) < room by have := HI0.out.2.2.1; omega)
              have HY := Lib.hid (And.intro hy hm9)
              clear hin z1 z2 hk hf hT0 hy hm9
              refine HS.out.mono ?_
              rintro e W9 ⟨y, hT, rfl, g9, hgn, hL, hg⟩
              have HI9 := Lib.hid (HI0.out.more hL hg HI0.out.2.1 HLT.out (hT.lower (Nat.le_trans HI0.out.1.1 (Nat.le_of_lt HI0.out.1.at_.1))) HY.out.1 HY.out.2)
              have HB9 := Lib.hid (HB0.out.trans (hg.below HI0.out.1.1 (fun k hk => (HI0.out.1.gb k hk).1) (Nat.le_trans HI0.out.1.1 (Nat.le_of_lt HI0.out.1.at_.1))))
              clear hL hg HS hgn hT
              go_wp2_with fail
              obtain ⟨q9, hq9⟩ : ∃ q, (vs ++ [y]).length = q := ⟨_, rfl⟩
              have hq8 : (q9 : Int) ≤ room := by have h := HI9.out.2.2.1; rw [hq9] at h; exact h
              have HLN := Lib.hid (lnlen_any W9 w.heap.size p g9 room (vs ++ [y]) s c d t HI9.out.1 (by omega) q9 hq9)
              clear hq9
              go_wp2_with fail
              refine HLN.out.mono ?_
              rintro e w' ⟨rfl, rfl⟩
              go_wp2_with fail
              go_roundw
              case rel => exact ⟨i + 1, S, g9, _, s, c, d, t, by go_num, by omega, HI9, HB9⟩
              case measure => simp [intOf]; omega
          · have ho : si < 0 ∨ (vs.length : Int) ≤ si := by omega
            have HS := Lib.hid (lntwice_out W0 w.heap.size p g room vs s c d t HI0.out.1 (by omega) si ho)
            clear hin ho z1 z2
            refine HS.out.mono ?_
            rintro e w' ⟨rfl, rfl⟩
            go_wp2_with fail
            obtain ⟨q9, hq9⟩ : ∃ q, (vs).length = q := ⟨_, rfl⟩
            have hq8 : (q9 : Int) ≤ room := by have h := HI0.out.2.2.1; rw [hq9] at h; exact h
            have HLN := Lib.hid (lnlen_any W0 w.heap.size p g room (vs) s c d t HI0.out.1 (by omega) q9 hq9)
            clear hq9
            go_wp2_with fail
            refine HLN.out.mono ?_
            rintro e w' ⟨rfl, rfl⟩
            go_wp2_with fail
            go_roundw
            case rel => exact ⟨i + 1, S, g, _, s, c, d, t, by go_num, by omega, HI0, HB0⟩
            case measure => simp [intOf]; omega
        · go_wp2_with fail
          try rw [HW0.out, HB0'.out]
          by_cases hin : 0 ≤ si ∧ si < (vs.length : Int)
          · obtain ⟨k, rfl⟩ := Int.eq_ofNat_of_zero_le hin.1
            have hk : k < vs.length := by omega
            have HS := Lib.hid (lnlater_in W0 w.heap.size p g room vs s c d t HI0.out.1 (by omega) k hk (by have := HI0.out.2.2.1; omega))
            have HK := Lib.hid hk
            clear hin z1 z2 hk
            refine HS.out.mono ?_
            rintro e W9 ⟨rfl, g9, hgn, hL, hg⟩
            have HI9 := Lib.hid (HI0.out.sub hL hg HI0.out.2.1 (by rw [later_len HK.out]; exact HI0.out.2.2.1) (later_sub HK.out))
            have HB9 := Lib.hid (HB0.out.trans (hg.below HI0.out.1.1 (fun k hk => (HI0.out.1.gb k hk).1) (Nat.le_trans HI0.out.1.1 (Nat.le_of_lt HI0.out.1.at_.1))))
            clear hL hg HS hgn
            go_wp2_with fail
            obtain ⟨q9, hq9⟩ : ∃ q, (eraseV vs k ++ [vs.getD k undef]).length = q := ⟨_, rfl⟩
            have hq8 : (q9 : Int) ≤ room := by have h := HI9.out.2.2.1; rw [hq9] at h; exact h
            have HLN := Lib.hid (lnlen_any W9 w.heap.size p g9 room (eraseV vs k ++ [vs.getD k undef]) s c d t HI9.out.1 (by omega) q9 hq9)
            clear hq9
            go_wp2_with fail
            refine HLN.out.mono ?_
            rintro e w' ⟨rfl, rfl⟩
            go_wp2_with fail
            go_roundw
            case rel => exact ⟨i + 1, S, g9, _, s, c, d, t, by go_num, by omega, HI9, HB9⟩
            case measure => simp [intOf]; omega
          · have ho : si < 0 ∨ (vs.length : Int) ≤ si := by omega
            have HS := Lib.hid (lnlater_out W0 w.heap.size p g room vs s c d t HI0.out.1 (by omega) si ho)
            clear hin ho z1 z2
            refine HS.out.mono ?_
            rintro e w' ⟨rfl, rfl⟩
            go_wp2_with fail
            obtain ⟨q9, hq9⟩ : ∃ q, (vs).length = q := ⟨_, rfl⟩
            have hq8 : (q9 : Int) ≤ room := by have h := HI0.out.2.2.1; rw [hq9] at h; exact h
            have HLN := Lib.hid (lnlen_any W0 w.heap.size p g room (vs) s c d t HI0.out.1 (by omega) q9 hq9)
            clear hq9
            go_wp2_with fail
            refine HLN.out.mono ?_
            rintro e w' ⟨rfl, rfl⟩
            go_wp2_with fail
            go_roundw
            case rel => exact ⟨i + 1, S, g, _, s, c, d, t, by go_num, by omega, HI0, HB0⟩
            case measure => simp [intOf]; omega
        · go_wp2_with fail
          try rw [HW0.out, HB0'.out]
          clear z1 z2
          obtain ⟨q9, hq9⟩ : ∃ q, (vs).length = q := ⟨_, rfl⟩
          have hq8 : (q9 : Int) ≤ room := by have h := HI0.out.2.2.1; rw [hq9] at h; exact h
          have HLN := Lib.hid (lnlen_any W0 w.heap.size p g room (vs) s c d t HI0.out.1 (by omega) q9 hq9)
          clear hq9
          go_wp2_with fail
          refine HLN.out.mono ?_
          rintro e w' ⟨rfl, rfl⟩
          go_wp2_with fail
          go_roundw
          case rel => exact ⟨i + 1, S, g, _, s, c, d, t, by go_num, by omega, HI0, HB0⟩
          case measure => simp [intOf]; omega
        · go_wp2_with fail
          try rw [HW0.out, HB0'.out]
          clear z1 z2
          obtain ⟨q9, hq9⟩ : ∃ q, (vs).length = q := ⟨_, rfl⟩
          have hq8 : (q9 : Int) ≤ room := by have h := HI0.out.2.2.1; rw [hq9] at h; exact h
          have HLN := Lib.hid (lnlen_any W0 w.heap.size p g room (vs) s c d t HI0.out.1 (by omega) q9 hq9)
          clear hq9
          go_wp2_with fail
          refine HLN.out.mono ?_
          rintro e w' ⟨rfl, rfl⟩
          go_wp2_with fail
          go_roundw
          case rel => exact ⟨i + 1, S, g, _, s, c, d, t, by go_num, by omega, HI0, HB0⟩
          case measure => simp [intOf]; omega
      · go_wp2_with fail
        refine (alive21_any _).mono ?_
        rintro e w3 ⟨rfl, hb⟩
        have HB9 := Lib.hid (below_then HBr.out HBr.out.size hb)
        clear hb
        go_wp2_with fail
        go_ret
        exact ⟨rfl, HB9.out⟩

set_option maxRecDepth 100000 in
theorem lifted (os : Os) (started : os.Started) (H : Type) (enc : TypeId × Value → H) :
    ReturnsInHanded {} Try.checked os 5 .any (Rows.linkSentSpec.pre6 enc Try.prog Try.f5 Rows.linkSentRow.domain false) (Rows.linkSentSpec.post enc Try.prog Try.f5 false true false false) := by
  refine returnsInHanded_of_change_sized (C := Try.checked) own started (by kernel_rfl) Try.func5
    (ChangeSpec.witness6 (enc := enc) (C := Try.checked) false ⟨#[], #[.int .u8 0, .slice none 0 0], []⟩ 8 (by kernel_rfl) (by kernel_rfl) (by kernel_rfl) (by kernel_rfl)) ?_
  intro W base args ds gs before hval0 hW hcnd hsz0 _
  have hval : ∀ (j : Nat) t v, Try.f5.params[j]? = some t → args[j]? = some v → Value.okWide Try.prog W .any base t v := hval0
  have hW' := hW
  obtain ⟨p, q, hA0, hV, rfl, hfz, hnd⟩ := hW
  have hA : DataW.TrodAll enc Try.prog W 0 (fun _ => true) true Try.f5.params.toList args.toList ds p := hA0
  rw [Try.params5] at hA hval
  have hsz : (DataW.weightsEach Try.prog (Try.f5.params.toList ++ Rows.linkSentSpec.plain.varTypes Try.prog) (ds ++ gs)).all (· ≤ reachBytes) = true := hsz0
  rw [Try.params5] at hsz
  obtain ⟨v0, vs0, d0, ds0, p0, q0, hargs, rfl, rfl, h0, r0⟩ := trodAll_cons hA
  obtain ⟨v1, vs1, d1, ds1, p1, q1, rfl, rfl, rfl, h1, r1⟩ := trodAll_cons r0
  obtain ⟨rfl, rfl, rfl⟩ := trodAll_nil r1
  obtain rfl : args = #[v0, v1] := by cases args; simp_all
  obtain ⟨rfl, rfl⟩ := trodVars_none hV
  have k0 := h0
  have lt0 : ∀ x ∈ p0, x.block < W.heap.size := by obtain ⟨m, hm⟩ := k0; exact DataW.trod_lt m _ _ _ hm
  obtain ⟨a0, rfl, rfl, rfl, g0⟩ := open_int Try.underlying5 (hval 0 5 v0 rfl rfl) h0
  have k1 := h1
  have lt1 : ∀ x ∈ p1, x.block < W.heap.size := by obtain ⟨m, hm⟩ := k1; exact DataW.trod_lt m _ _ _ hm
  obtain ⟨a1, len1, cap1, rfl⟩ := okWide_slice Try.underlying48 (hval 1 48 v1 rfl rfl)
  obtain ⟨x1, y1, g1⟩ : ∃ x, (Kd.slice 54 KStep).K W x [.slice a1 len1 cap1] ∧ (fun xs => (∀ x ∈ xs, StepG x) ∧ xs.length ≤ maxLen ∧ xs.length * Try.prog.bytesOf 54 ≤ reachBytes) x := by obtain ⟨m, hm⟩ := k1; exact op_steps _ _ _ m _ _ hm (fun q hq => by have := List.all_eq_true.1 hsz q (DataW.weights_mem_each (j := 1) (t := 48) (d := d1) rfl rfl q hq); simpa using this)
  clear hA0 hval0
  refine (walk a0 a1 len1 cap1 x1 W g0 y1 g1).mono fun e W' ⟨he, bel⟩ => ?_
  subst he
  exact ⟨_, rfl, _, _, _, [], _, [], hW', trodAll_mk1 (shut_bool Try.underlying4 _), (trodAll_cons_mk (Below.trod laidOut (by kernel_rfl) (of_decide_eq_true (by kernel_rfl)) k0 bel lt0) (trodAll_cons_mk (Below.trod laidOut (by kernel_rfl) (of_decide_eq_true (by kernel_rfl)) k1 bel lt1) trodAll_mk0)), rfl, bel.frame _, fun h => by cases h⟩

theorem over : Rows.linkSentRow.holds Try.pinned (OpenSpec.ofChange Rows.linkSentSpec) :=
  OpenClaim.holds_of_wide 5 Try.f5 rfl rfl rfl rfl rfl rfl rfl ⟨rfl, rfl, rfl, rfl, rfl⟩ rfl rfl rfl rfl rfl (by kernel_rfl) Try.func5 (by kernel_rfl)
    (of_decide_eq_true (by kernel_rfl)) (by unfold Func.isWrapper; first | (rw [if_pos (by decide +kernel)]; kernel_rfl) | (rw [if_neg (by decide +kernel)]; exact ⟨rfl, rfl⟩))
    (fun os started H enc _ => lifted os started H enc)

theorem proved : Rows.LinkSentSaid := over
end Go.Proofs.Ytcelhendfjiicaa.linkSent
