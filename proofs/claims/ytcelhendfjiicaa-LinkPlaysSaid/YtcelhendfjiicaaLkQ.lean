/- (*Link).take, Deliver. -/
import Derived.Test.YtcelhendfjiicaaLkP
namespace Go.Proofs.Ytcelhendfjiicaa
open Go.RowKit Go.Shelf Go.Proofs.YtcelhendfjiicaaW.PrintWords Go.Proofs.YtcelhendfjiicaaW.PrintLast Go.Proofs.YtcelhendfjiicaaW.PrintMore
set_option linter.unusedVariables false
set_option linter.unusedSimpArgs false
set_option maxRecDepth 100000
attribute [local go_sem] gb_max2 gb_min2 gb_max_two gb_min_two gb_max_three gb_min_three

theorem reps_del {α : Type} {R : α → List Value → Prop} {xs : List α} {inner : List Value} (h : Reps R 1 xs inner) (i : Nat) (hi : i < xs.length) : Reps R 1 (xs.take i ++ xs.drop (i + 1)) (inner.take i ++ inner.drop (i + 1)) := by
  have hl : inner.length = xs.length := by have := h.1; omega
  refine ⟨by simp; omega, fun j p hj => ?_⟩
  rw [Nat.mul_one]
  have hg : ∀ q, ((inner.take i ++ inner.drop (i + 1)).drop j).take 1 = (inner.drop q).take 1 ↔ ((inner.take i ++ inner.drop (i + 1))[j]?).toList = (inner[q]?).toList := by
    intro q
    rw [List.take_one, List.take_one, List.head?_drop, List.head?_drop]
  by_cases hji : j < i
  · rw [List.getElem?_append_left (by simp; omega), List.getElem?_take, if_pos hji] at hj
    have h2 := h.2 j p hj
    rw [Nat.mul_one] at h2
    rw [(hg j).2 (by rw [List.getElem?_append_left (by simp; omega), List.getElem?_take, if_pos hji])]
    exact h2
  · rw [List.getElem?_append_right (by simp; omega), List.getElem?_drop] at hj
    have e1 : i + 1 + (j - (xs.take i).length) = j + 1 := by simp; omega
    rw [e1] at hj
    have h2 := h.2 (j + 1) p hj
    rw [Nat.mul_one] at h2
    rw [(hg (j + 1)).2 (by
      rw [List.getElem?_append_right (by simp; omega), List.getElem?_drop]
      congr 2; simp; omega)]
    exact h2

/-- A list of texts, one of which is taken out. -/
theorem tx_del {W : World} {base : Nat} {v : Value} {bss : List (List Int)} (h : Tx W base v bss) (i : Nat) (hi : i < bss.length) :
    ∃ g cap inner, v = .slice (some ⟨g, 0, none⟩) bss.length cap ∧ base ≤ g ∧ W.ownsRow base 28 1 (.slice (some ⟨g, 0, none⟩) bss.length cap) bss.length inner ∧ (∀ u ∈ inner, u.oneCell' = true) ∧
      (∃ A' c', W.cell? ⟨g, i, none⟩ = some (.slice A' (bss.getD i []).length c') ∧ (bss.getD i []).length ≤ c' ∧ (Kd.int .u8).R 5 W base (fun k => k ≠ g) (.slice A' (bss.getD i []).length c') (bss.getD i [])) ∧
      ∀ w' v', v'.ownBlock = some g → w'.ownsRow base 28 1 v' (bss.length - 1) (inner.take i ++ inner.drop (i + 1)) → W.grownBy w' (some g) → Tx w' base v' (bss.take i ++ bss.drop (i + 1)) := by
  obtain ⟨h0, inner, ho, hr⟩ := h
  rcases ho.2 with ⟨-, h2⟩ | ⟨g, cap, cur, rfl, hbg, hh, hnc, hcm, hcs, htk⟩
  · omega
  · have hob : (Value.slice (some ⟨g, 0, none⟩) bss.length cap).ownBlock = some g := rfl
    rw [hob] at hr
    have hsz : (Kd.slice 5 (Kd.int .u8)).sz = 1 := rfl
    have hg := hr.2 i (bss.getD i []) (by rw [List.getD_eq_getElem?_getD, List.getElem?_eq_getElem hi]; rfl)
    rw [hsz, Nat.mul_one] at hg
    obtain ⟨u, hu, hR⟩ := hg
    obtain ⟨A', c', rfl, hc', -⟩ := Kd.R_reads hR
    rw [hsz, Nat.mul_one] at htk
    have hil : i < inner.length := by have := hr.1; rw [hsz] at this; omega
    have hcell : inner[i]? = some (.slice A' (bss.getD i []).length c') := by
      have e := congrArg List.head? hu
      rw [List.head?_take, if_neg (by omega), List.head?_drop] at e
      exact e
    refine ⟨g, cap, inner, rfl, hbg, ho, fun u hu' => ?_, ⟨A', c', ?_, hc', Kd.R_mono hR (fun k hk => fun e => hk.2 (by rw [e]))⟩, fun w' v' hv' how hgr => ?_⟩
    · obtain ⟨j, hj, rfl⟩ := List.mem_iff_getElem.1 hu'
      have hjb : j < bss.length := by have := hr.1; rw [hsz] at this; omega
      have hm := hr.2 j _ (List.getElem?_eq_getElem hjb)
      exact (Kd.slice 5 (Kd.int .u8)).K_one ((Kd.slice 5 (Kd.int .u8)).K_of_M hm) _ (by rw [hsz, Nat.mul_one, List.drop_eq_getElem_cons hj, List.take_succ_cons]; exact List.mem_cons_self)
    · rw [blk_cell hh, ← Array.getElem?_toList, ← hcell, ← htk, List.getElem?_take, if_pos hi]
    · refine ⟨fun _ _ => trivial, inner.take i ++ inner.drop (i + 1), ?_, ?_⟩
      · have : (bss.take i ++ bss.drop (i + 1)).length = bss.length - 1 := by simp; omega
        rw [this]; exact how
      · rw [hv']
        exact reps_del (hr.imp_ (fun _ _ hp => Kd.M_grown hp hgr (fun k hk => hk.2))) i hi

def erase (bss : List (List Int)) (i : Nat) : List (List Int) := bss.take i ++ bss.drop (i + 1)
/-- take: the text that stood there, readable from then on; the link without it. -/
def TakeR (W : World) (base p : Nat) (room : Int) (bss : List (List Int)) (s c d t : Int) (i : Nat) (e : Ending) (w' : World) : Prop :=
  ∃ A m, e = .returned (.slice A (bss.getD i []).length m) ∧ (bss.getD i []).length ≤ m ∧ (Kd.int .u8).R 5 w' base (fun _ => True) (.slice A (bss.getD i []).length m) (bss.getD i []) ∧ Lk w' base p room (erase bss i) s c d t ∧ Below base W w'

set_option maxRecDepth 100000 in
set_option maxHeartbeats 1000000 in
theorem take_any (W : World) (base p : Nat) (room : Int) (bss : List (List Int)) (s c d t : Int) (h : Lk W base p room bss s c d t) (i : Nat) (hi : i < bss.length) (hn : bss.length ≤ 1000000) :
    Calls Try.prog 46 #[.pointer (some ⟨p, 0, none⟩), .int .i64 i] W (TakeR W base p room bss s c d t i) := by
  obtain ⟨hbp, v, hh, hT⟩ := h
  obtain ⟨g, cap, inner, rfl, hbg, ho, h1c, ⟨A', c', q1, hc', hR⟩, hdel⟩ := tx_del hT i hi
  have hne : some p ≠ (Value.slice (some ⟨g, 0, none⟩) bss.length cap).ownBlock := Kd.R_ne hT hh (by decide)
  have hd := fun W' (hW : W'.heap[g]? = W.heap[g]?) => delete_any (W := W') (own_move ho (fun k hk => by
    have : k = g := by simpa [Value.ownBlock] using hk.symm
    subst this; exact hW)) h1c i (i + 1) (by omega) hi
  have e1 : ((i + 1 : Nat) : Int) = (i : Int) + 1 := by omega
  have e2 : i + (bss.length - (i + 1)) = bss.length - 1 := by omega
  rw [e1, e2] at hd
  have k1 : W.cell? ⟨p, 1, none⟩ = some (.slice (some ⟨g, 0, none⟩) bss.length cap) := by rw [blk_cell hh]; rfl
  obtain ⟨bs, hbs⟩ : ∃ bs, bss.getD i [] = bs := ⟨_, rfl⟩
  unfold TakeR
  rw [hbs] at q1 hc' hR ⊢
  obtain ⟨n, hnn⟩ : ∃ n, bss.length = n := ⟨_, rfl⟩
  rw [hnn] at hi hn hd k1 hne ho
  have HN := Lib.hid hnn
  obtain ⟨m, hmm⟩ : ∃ m, bs.length = m := ⟨_, rfl⟩
  have hm9 : m ≤ 9223372036854775807 := by
    obtain ⟨A, c, e, -, hC⟩ := Kd.R_reads hR
    rw [← hmm]; exact hC.2.1
  rw [hmm] at q1 hc' hR ⊢
  have HD := Lib.hid (hd W rfl)
  have HDEL := Lib.hid hdel
  have HR := Lib.hid hR
  have HH := Lib.hid hh
  have HT := Lib.hid hT
  have hpg : p ≠ g := fun e => hne (by rw [e]; rfl)
  clear hd hdel hR hh hT e1 e2 hnn hmm hbs h1c ho hne
  go_enter Try.func46, Try.ntmps46
  go_wp2_with fail
  refine HD.out.mono ?_
  rintro e w1 ⟨rfl, ho1, hg1⟩
  have hh1 := blk_grown HH.out hg1 (fun e => hpg (by simpa using e))
  have q2 : w1.cell? ⟨p, 1, none⟩ = some (.slice (some ⟨g, 0, none⟩) n cap) := by rw [blk_cell hh1, ← HN.out]; rfl
  have f2 := blk_frozen hh1 1
  have HT1 := Lib.hid (HDEL.out w1 (.slice (some ⟨g, 0, none⟩) (n - 1) cap) rfl (by rw [HN.out]; exact ho1) hg1)
  have HR1 := Lib.hid (Kd.R_grown HR.out hg1 (fun k hk e => hk (by simpa using e)))
  have HH1 := Lib.hid hh1
  have HB1 := Lib.hid (pw_below_grown (Below.refl base W) (some g) (by have := blk_lt HH.out; omega) hg1 (fun k hk => by have : g = k := (by simpa using hk); omega))
  clear ho1 hg1 hh1 q1 k1
  go_wp2_with fail
  go_ret
  exact ⟨A', c', rfl, hc', Kd.R_mono (Kd.R_set HR1.out HH1.out (by decide) 1 _) (fun _ _ => trivial), ⟨hbp, _, blk_set HH1.out 1 _, HT1.out.set HH1.out 1 _⟩, HB1.out.setCell (p := ⟨p, 1, none⟩) hbp _⟩

end Go.Proofs.Ytcelhendfjiicaa
