/- The values of a map of pointers, sorted by the keys that their boxes hold: slices.SortedFunc. -/
import Derived.Test.YtmbhicjjbgbneaaItS
namespace Go.Proofs.Ytmbhicjjbgbneaa
open Go.RowKit Go.Shelf Go.Sort Go.Proofs.YtmbhicjjbgbneaaW.PrintWords Go.Proofs.YtmbhicjjbgbneaaW.PrintLast Go.Proofs.YtmbhicjjbgbneaaW.PrintMore
set_option linter.unusedVariables false
set_option linter.unusedSimpArgs false
set_option maxRecDepth 100000
theorem mins_nil (fv : Value) (W : World) : Calls Try.prog 98 #[.slice none 0 0, .int .i64 0, .int .i64 0, fv] W fun e w' => e = .returned (.tuple #[]) ∧ w' = W := by
  go_enter Try.func98, Try.ntmps98
  go_wp2
  refine wp_loop_rounds 1 ?_
  rw [rounds_succ]
  go_wp2
  go_end0
  exact ⟨rfl, rfl⟩
theorem mpdq_nil (l : Int) (fv : Value) (W : World) : Calls Try.prog 86 #[.slice none 0 0, .int .i64 0, .int .i64 0, .int .i64 l, fv] W fun e w' => e = .returned (.tuple #[]) ∧ w' = W := by
  have HI := Lib.hid (mins_nil fv W)
  go_enter Try.func86, Try.ntmps86
  go_wp2
  refine wp_loop_rounds 1 ?_
  rw [rounds_succ]
  go_wp2_with fail
  refine HI.out.mono ?_
  rintro e w' ⟨rfl, rfl⟩
  go_wp2_with fail
  (try simp only [Exit.inBlock, Exit.then]); refine bodyPost_ret (results_none rfl _ _ _) rfl ?_
  exact ⟨rfl, rfl⟩
theorem msort_nil (fv : Value) (W : World) : Calls Try.prog 78 #[.slice none 0 0, fv] W fun e w' => e = .returned (.tuple #[]) ∧ w' = W := by
  have HB := Lib.hid (blen_any 0 W (by omega))
  have HP := Lib.hid (fun l => mpdq_nil l fv W)
  go_enter Try.func78, Try.ntmps78
  go_wp2_with fail
  refine HB.out.mono ?_
  rintro e w' ⟨⟨l, rfl⟩, rfl⟩
  go_wp2_with fail
  refine (HP.out l).mono ?_
  rintro e w' ⟨rfl, rfl⟩
  go_wp2_with fail
  go_end0
  exact ⟨rfl, rfl⟩
def SrtR (W : World) (L : List (Int × Nat)) (e : Ending) (w' : World) : Prop := ∃ v, e = .returned v ∧ w'.ownsRow W.heap.size 112 1 v L.length (L.map (fun e => ptV e.2)) ∧ Below W.heap.size W w'
theorem msorted_any (Bm b : Nat) (L : List (Int × Nat)) (w : World) (hBm : Bm < w.heap.size) (hm : w.cell? ⟨Bm, 0, none⟩ = some (.map (some b))) (hmp : IsMp (Value.int .u64) w b (ptL L)) (h12 : L.length ≤ 12) (hs : L.Pairwise (fun a b => a.1 < b.1)) (hk : ∀ e ∈ L, w.cell? ⟨e.2, 0, none⟩ = some (.int .u64 e.1) ∧ e.2 < w.heap.size) :
    Calls Try.prog 59 #[.func (.func 79) #[] #[.pointer (some ⟨Bm, 0, none⟩)], .func (.func 61) #[] #[]] w (SrtR w L) := by
  have HA := Lib.hid (mcollect_any Bm b L w hBm hm hmp (by omega))
  have HK := Lib.hid hk
  have HS := Lib.hid hs
  have H12 := Lib.hid h12
  unfold SrtR
  clear hBm hm hmp h12 hs hk
  go_enter Try.func59, Try.ntmps59
  go_wp2_with fail
  refine HA.out.mono ?_
  rintro e w1 ⟨xs, v, rfl, hp, hr, hn, hb⟩
  by_cases hL : L = []
  · subst hL
    have hx : xs = [] := by simpa using hp
    subst hx
    have hv := hn.2 rfl
    subst hv
    have HH := Lib.hid (And.intro hr hb)
    have HN := Lib.hid (msort_nil (.func (.func 61) #[] #[]) w1)
    clear hp hr hn hb HA
    go_wp2_with fail
    refine HN.out.mono ?_
    rintro e w' ⟨rfl, rfl⟩
    go_wp2_with fail
    go_ret
    exact ⟨_, rfl, HH.out.1, HH.out.2⟩
  · obtain ⟨zs, hz, rfl⟩ := perm_map_inv Prod.snd hp L rfl
    have hzl := hz.length_eq
    have hpos : 0 < L.length := List.length_pos_iff.2 hL
    obtain ⟨hr1, hr2⟩ := hr
    rcases hr2 with ⟨rfl, h0⟩ | ⟨g, cap, cur, rfl, hbase, hgb, h1, h2, h3, h4⟩
    · exfalso
      rw [List.length_map] at h0
      omega
    · obtain ⟨n, hnn⟩ : ∃ n, (zs.map Prod.snd).length = n := ⟨_, rfl⟩
      rw [hnn] at h1 h4 ⊢
      have hzn : zs.length = n := by rw [← hnn, List.length_map]
      have HN := Lib.hid (msort_row L zs hz hL H12.out HS.out w1 w.heap.size g cap n hbase hzn cur hgb h1 h2 h3 (by rw [Nat.mul_one] at h4; rw [h4, List.map_map]; rfl) (fun e he => by
        have h5 := HK.out e he
        exact ⟨(hb.cell (p := ⟨e.2, 0, none⟩) h5.2).trans h5.1, by omega, Nat.lt_of_lt_of_le h5.2 hb.size⟩))
      have HLn := Lib.hid (show n = L.length by omega)
      have HB := Lib.hid (And.intro hb hbase)
      clear hp hr1 hn hb hz hzl hpos hbase hgb h1 h2 h3 h4 hnn hzn HA hL
      go_wp2_with fail
      refine HN.out.mono ?_
      rintro e w' ⟨rfl, hr, hg⟩
      have HH := Lib.hid (And.intro hr hg)
      clear hr hg
      go_wp2_with fail
      go_ret
      refine ⟨_, rfl, by rw [← HLn.out]; exact HH.out.1, ?_⟩
      exact HB.out.1.grown HH.out.2 HB.out.1.size (fun k e => by cases e; exact HB.out.2)
end Go.Proofs.Ytmbhicjjbgbneaa
