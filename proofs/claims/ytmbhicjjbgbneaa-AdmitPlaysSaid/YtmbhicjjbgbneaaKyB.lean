/- The keys of a map, sorted: slices.Sorted at uint64. -/
import Derived.Test.YtmbhicjjbgbneaaKyA
import Derived.Test.YtmbhicjjbgbneaaSuL
namespace Go.Proofs.Ytmbhicjjbgbneaa
open Go.RowKit Go.Shelf Go.Proofs.YtmbhicjjbgbneaaW.PrintWords Go.Proofs.YtmbhicjjbgbneaaW.PrintLast Go.Proofs.YtmbhicjjbgbneaaW.PrintMore
set_option linter.unusedVariables false
set_option linter.unusedSimpArgs false
set_option maxRecDepth 100000
theorem su_ins_nil (W : World) : Calls Try.prog 87 #[.slice none 0 0, .int .i64 0, .int .i64 0] W fun e w' => e = .returned (.tuple #[]) ∧ w' = W := by
  go_enter Try.func87, Try.ntmps87
  go_wp2
  refine wp_loop_rounds 1 ?_
  rw [rounds_succ]
  go_wp2
  go_end0
  exact ⟨rfl, rfl⟩
theorem su_pdq_nil (l : Int) (W : World) : Calls Try.prog 83 #[.slice none 0 0, .int .i64 0, .int .i64 0, .int .i64 l] W fun e w' => e = .returned (.tuple #[]) ∧ w' = W := by
  have HI := Lib.hid (su_ins_nil W)
  go_enter Try.func83, Try.ntmps83
  go_wp2
  refine wp_loop_rounds 1 ?_
  rw [rounds_succ]
  go_wp2_with fail
  refine HI.out.mono ?_
  rintro e w' ⟨rfl, rfl⟩
  go_wp2_with fail
  (try simp only [Exit.inBlock, Exit.then]); refine bodyPost_ret (results_none rfl _ _ _) rfl ?_
  exact ⟨rfl, rfl⟩
theorem su_sort_nil (W : World) : Calls Try.prog 75 #[.slice none 0 0] W fun e w' => e = .returned (.tuple #[]) ∧ w' = W := by
  have HB := Lib.hid (su_len 0 (by omega) W)
  have HP := Lib.hid (fun l => su_pdq_nil l W)
  obtain ⟨m, hm⟩ : ∃ m, Sort.bitsLen 0 = m := ⟨_, rfl⟩
  rw [hm] at HB
  have HB := Lib.hid (show Calls Try.prog 84 #[.int .u64 0] W _ from HB.out)
  clear hm
  go_enter Try.func75, Try.ntmps75
  go_wp2_with fail
  refine HB.out.mono ?_
  rintro e w' ⟨rfl, rfl⟩
  go_wp2_with fail
  refine (HP.out m).mono ?_
  rintro e w' ⟨rfl, rfl⟩
  go_wp2_with fail
  go_end0
  exact ⟨rfl, rfl⟩
theorem sort_list (xs : List Int) : (Sort.sort ltZ xs.toArray).toList.Perm xs ∧ (Sort.sort ltZ xs.toArray).toList.Pairwise (fun a b => a ≤ b) ∧ (Sort.sort ltZ xs.toArray).size = xs.length := by
  have h := Sort.sort_holds (Sort.pdq_holds Sort.insertionSort_holds Sort.heapSort_holds Sort.partialInsertionSort_holds (Sort.partition_holds ltZ) (Sort.partitionEqual_holds ltZ) Sort.reverseRange_holds) swoZ xs.toArray
  obtain ⟨⟨hsz, -, hp⟩, hs⟩ := h
  have e1 : (Sort.sort ltZ xs.toArray).extract 0 xs.toArray.size = Sort.sort ltZ xs.toArray := by rw [← hsz]; exact Array.extract_size
  have e2 : xs.toArray.extract 0 xs.toArray.size = xs.toArray := Array.extract_size
  rw [e1, e2] at hp
  refine ⟨by simpa using hp, ?_, by simpa using hsz⟩
  rw [List.pairwise_iff_getElem]
  intro i j hi hj hij
  rw [Array.length_toList] at hi hj
  have h := hs i j (Nat.zero_le _) hij (by omega)
  rw [getElem!_pos _ j hj, getElem!_pos _ i hi] at h
  unfold ltZ at h
  simp at h
  rw [Array.getElem_toList, Array.getElem_toList]
  exact h
def SrtK (W : World) (ks : List Int) (e : Ending) (w' : World) : Prop := ∃ (ys : List Int) (v : Value), e = .returned v ∧ ys.Perm ks ∧ ys.Pairwise (fun a b => a ≤ b) ∧ w'.ownsRow W.heap.size 22 1 v ys.length (nums .u64 ys) ∧ Below W.heap.size W w'
theorem mksorted_any (Bm b : Nat) (L : List (Int × Value)) (w : World) (hBm : Bm < w.heap.size) (hm : w.cell? ⟨Bm, 0, none⟩ = some (.map (some b))) (hmp : IsMp (Value.int .u64) w b L) (hL : L.length ≤ 255) :
    Calls Try.prog 56 #[.func (.func 76) #[] #[.pointer (some ⟨Bm, 0, none⟩)]] w (SrtK w (L.map Prod.fst)) := by
  have HA := Lib.hid (mkcollect_any Bm b L w hBm hm hmp (by omega))
  unfold SrtK
  have HL := Lib.hid hL
  clear hBm hm hmp hL
  go_enter Try.func56, Try.ntmps56
  go_wp2_with fail
  refine HA.out.mono ?_
  rintro e w1 ⟨xs, v, rfl, hp, hr, hn, hb⟩
  by_cases hx : xs = []
  · subst hx
    have hv := hn.2 rfl
    subst hv
    have HN := Lib.hid (su_sort_nil w1)
    have HH := Lib.hid (And.intro hp (And.intro hr hb))
    clear hp hr hn hb HA
    go_wp2_with fail
    refine HN.out.mono ?_
    rintro e w' ⟨rfl, rfl⟩
    go_wp2_with fail
    go_ret
    exact ⟨[], _, rfl, HH.out.1, .nil, HH.out.2.1, HH.out.2.2⟩
  · have hlen : xs.length ≤ 255 := by
      have h := hp.length_eq
      rw [List.length_map] at h
      have := HL.out
      omega
    have hr0 := hr
    obtain ⟨hr1, hr2⟩ := hr
    rcases hr2 with ⟨rfl, h0⟩ | ⟨g, cap, cur, rfl, hbase, hgb, h1, h2, h3, h4⟩
    · exact absurd (hn.1 rfl) hx
    · obtain ⟨n, hnn⟩ : ∃ n, xs.length = n := ⟨_, rfl⟩
      rw [hnn] at hr0 hlen ⊢
      obtain ⟨hsp, hss, hsz⟩ := sort_list xs
      rw [hnn] at hsz
      have hSR : SR w1 g n cap xs.toArray := ⟨own_less hr0 (Nat.zero_le _), by simpa using hnn⟩
      have HS := Lib.hid (su_sort hSR hlen)
      obtain ⟨ys, hys⟩ : ∃ ys, Sort.sort ltZ xs.toArray = ys := ⟨_, rfl⟩
      rw [hys] at HS hsp hss hsz
      have HH := Lib.hid (And.intro (hsp.trans hp) (And.intro hss (And.intro hsz (And.intro hb hbase))))
      clear hr0 hr1 h1 h2 h3 h4 hgb hsp hss hsz hSR hys hp hn hb hbase hx hnn HA hlen
      go_wp2_with fail
      refine HS.out.mono ?_
      rintro e w2 ⟨rfl, hr, ht⟩
      have HR := Lib.hid (And.intro hr ht)
      clear hr ht
      go_wp2_with fail
      go_ret
      obtain ⟨h1, h2, h3, h4, h5⟩ := HH.out
      refine ⟨ys.toList, _, rfl, h1, h2, ?_, h4.trans (HR.out.2.below (fun k hk => by rw [hk]; exact h5) h4.size)⟩
      rw [Array.length_toList, h3]
      exact Kd.own_raise HR.out.1.row (fun k hk => by injection hk with hk; rw [← hk]; exact h5)
end Go.Proofs.Ytmbhicjjbgbneaa
