/- The values of a map of pointers, sorted by the keys that their boxes hold: slices.SortedFunc. -/
import Derived.Test.YtmbhicjjbgbneaaItC
import Derived.Test.YtmbhicjjbgbneaaSrL
import Derived.Sort.OwnSorted
namespace Go.Proofs.Ytmbhicjjbgbneaa
open Go.RowKit Go.Shelf Go.Sort Go.Proofs.YtmbhicjjbgbneaaW.PrintWords Go.Proofs.YtmbhicjjbgbneaaW.PrintLast Go.Proofs.YtmbhicjjbgbneaaW.PrintMore
set_option linter.unusedVariables false
set_option linter.unusedSimpArgs false
set_option maxRecDepth 100000
def cmpZ (x y : Int) : Int := if x < y then -1 else if y < x then 1 else 0
theorem cmpu_any (x y : Int) (W : World) : Calls Try.prog 62 #[.int .u64 x, .int .u64 y] W fun e w' => e = .returned (.int .i64 (cmpZ x y)) ∧ w' = W := by
  unfold cmpZ
  by_cases h1 : x < y
  · rw [if_pos h1]
    go_enter Try.func62, Try.ntmps62
    go_wp2
    all_goals (go_ret; exact ⟨rfl, rfl⟩)
  · rw [if_neg h1]
    by_cases h2 : y < x
    · rw [if_pos h2]
      go_enter Try.func62, Try.ntmps62
      go_wp2
      all_goals (go_ret; exact ⟨rfl, rfl⟩)
    · rw [if_neg h2]
      go_enter Try.func62, Try.ntmps62
      go_wp2
      all_goals (go_ret; exact ⟨rfl, rfl⟩)
theorem cmpcl_any (p q : Nat) (x y : Int) (W : World) (h1 : W.cell? ⟨p, 0, none⟩ = some (.int .u64 x)) (h2 : W.cell? ⟨q, 0, none⟩ = some (.int .u64 y)) : Calls Try.prog 61 #[ptV p, ptV q] W fun e w' => e = .returned (.int .i64 (cmpZ x y)) ∧ ∃ n, w' = W.drewN n := by
  have HC := Lib.hid (fun u : Nat => cmpu_any x y (W.drewN u))
  unfold ptV
  obtain ⟨r, hr⟩ : ∃ r, cmpZ x y = r := ⟨_, rfl⟩
  rw [hr] at HC ⊢
  clear hr
  go_enter Try.func61, Try.ntmps61
  go_wp2_with fail
  go_quiet ((go_at_call 62; exact Calls.quiet_of_same (HC.out _)))
  go_wp2_with fail
  go_ret
  exact ⟨rfl, _, rfl⟩
theorem blen_any (n : Nat) (W : World) (h : n ≤ 12) : Calls Try.prog 84 #[.int .u64 n] W fun e w' => (∃ l : Int, e = .returned (.int .i64 l)) ∧ w' = W := by
  have h1 : n = 0 ∨ n = 1 ∨ n = 2 ∨ n = 3 ∨ n = 4 ∨ n = 5 ∨ n = 6 ∨ n = 7 ∨ n = 8 ∨ n = 9 ∨ n = 10 ∨ n = 11 ∨ n = 12 := by omega
  clear h
  rcases h1 with rfl | rfl | rfl | rfl | rfl | rfl | rfl | rfl | rfl | rfl | rfl | rfl | rfl <;>
  · go_enter Try.func84, Try.ntmps84
    go_wp2
    go_ret
    exact ⟨⟨_, rfl⟩, rfl⟩
theorem perm_map_inv {α β : Type} (f : α → β) {xs ys : List β} (h : xs.Perm ys) : ∀ L : List α, ys = L.map f → ∃ zs : List α, zs.Perm L ∧ xs = zs.map f := by
  induction h with
  | nil => intro L hL; exact ⟨[], by rw [List.map_eq_nil_iff.1 hL.symm], rfl⟩
  | cons x h ih =>
    intro L hL
    obtain ⟨a, M, rfl, rfl, hM⟩ := List.map_eq_cons_iff.1 hL.symm
    obtain ⟨zs, hz, rfl⟩ := ih M hM.symm
    exact ⟨a :: zs, hz.cons a, rfl⟩
  | swap x y l =>
    intro L hL
    obtain ⟨a, M, rfl, rfl, hM⟩ := List.map_eq_cons_iff.1 hL.symm
    obtain ⟨b, M2, rfl, rfl, hM2⟩ := List.map_eq_cons_iff.1 hM
    subst hM2
    exact ⟨b :: a :: M2, List.Perm.swap _ _ _, rfl⟩
  | trans h1 h2 ih1 ih2 =>
    intro L hL
    obtain ⟨zs, hz, rfl⟩ := ih2 L hL
    obtain ⟨ws, hw, rfl⟩ := ih1 zs rfl
    exact ⟨ws, hw.trans hz, rfl⟩
theorem cmpZ_lt (x y : Int) : decide (cmpZ x y < 0) = decide (x < y) := by
  unfold cmpZ
  by_cases h1 : x < y
  · simp [h1]
  · rw [if_neg h1]
    by_cases h2 : y < x
    · rw [if_pos h2]; simp [h1]
    · rw [if_neg h2]; simp [h1]
/-- What a list of keys with boxes is sorted to. -/
abbrev ElL (L : List (Int × Nat)) : Type := {e : Int × Nat // e ∈ L}
def encE {L : List (Int × Nat)} (e : ElL L) : Value := ptV e.1.2
def cfE {L : List (Int × Nat)} (x y : ElL L) : Int := cmpZ x.1.1 y.1.1
theorem swoE (L : List (Int × Nat)) : SWO (ltOf (cfE (L := L))) := by
  have h : ∀ x y : ElL L, ltOf cfE x y = decide (x.1.1 < y.1.1) := fun x y => cmpZ_lt _ _
  refine ⟨fun x => ?_, fun x y z h1 h2 => ?_, fun x y z h1 h2 => ?_⟩
  · rw [h]; simp
  · rw [h] at *; simp at *; omega
  · rw [h] at *; simp at *; omega
theorem putB {α : Type} [Inhabited α] (enc : α → Value) {w : World} {g n : Nat} {cur : Array Value} {e : TypeId} {fr : Nat × Nat} (d : Array α) (hb : w.heap[g]? = some (.cells cur e fr)) :
    ((putRow enc w g 0 d).drewN n).heap[g]? = some (.cells (putCells enc 0 d cur) e fr) := by
  simp [World.drewN, putRow, mapBlock, Array.getElem?_modify, hb, onCells]
theorem putG {α : Type} [Inhabited α] (enc : α → Value) (w : World) (g n : Nat) (d : Array α) : w.grownBy ((putRow enc w g 0 d).drewN n) (some g) := by
  refine ⟨rfl, rfl, rfl, by simp [World.drewN], fun k hk hne => ?_⟩
  have : g ≠ k := fun e => hne (by rw [e])
  simp [World.drewN, putRow, mapBlock, Array.getElem?_modify, this]
theorem putT {α : Type} [Inhabited α] (enc : α → Value) (cur : Array Value) (d : Array α) (h : d.size ≤ cur.size) : (putCells enc 0 d cur).toList.take d.size = d.toList.map enc := by
  apply List.ext_getElem?
  intro j
  by_cases hj : j < d.size
  · rw [List.getElem?_take_of_lt hj, Array.getElem?_toList]
    simp [putCells, hj, show j < cur.size by omega]
  · rw [List.getElem?_take_eq_none (by omega), List.getElem?_eq_none (by simp; omega)]
theorem holdsB {α : Type} [Inhabited α] (enc : α → Value) {w : World} {g : Nat} {cur : Array Value} {e : TypeId} {d : Array α} (hb : w.heap[g]? = some (.cells cur e (0, 0))) (ht : cur.toList.take d.size = d.toList.map enc) : Holds enc w g 0 d := by
  intro j hj
  refine ⟨?_, by simp [World.frozen?, hb]⟩
  have h1 : (cur.toList.take d.size)[j]? = (d.toList.map enc)[j]? := by rw [ht]
  rw [List.getElem?_take_of_lt hj] at h1
  simp only [World.cell?, hb, Nat.zero_add]
  simp only [Option.isSome_none, Bool.false_eq_true, if_false]
  rw [← Array.getElem?_toList, h1]
  simp [hj]
theorem sorted_eq {L : List (Int × Nat)} [Inhabited (ElL L)] (hs : L.Pairwise (fun a b => a.1 < b.1)) (d d' : Array (ElL L)) (hp : (d.toList.map Subtype.val).Perm L) (h1 : PermIn 0 d.size d d') (h2 : SortedIn (ltOf cfE) 0 d.size d') : d'.toList.map Subtype.val = L := by
  have hsz := h1.1
  have hP : (d'.toList.map Subtype.val).Perm L := by
    refine List.Perm.trans (List.Perm.map _ ?_) hp
    have := h1.2.2
    rw [Array.extract_size] at this
    rw [show d'.extract 0 d.size = d' from by rw [← hsz]; exact Array.extract_size] at this
    exact this
  refine List.Perm.eq_of_pairwise (le := fun a b => a.1 ≤ b.1) (fun a b ha hb h3 h4 => ?_) ?_ (hs.imp (fun h => by omega)) hP
  · have ha' : a ∈ L := hP.subset ha
    have hinj : ∀ (M : List (Int × Nat)), M.Pairwise (fun a b => a.1 < b.1) → ∀ a ∈ M, ∀ b ∈ M, a.1 = b.1 → a = b := by
      intro M hM
      induction hM with
      | nil => intro a ha; cases ha
      | cons hx _ ih =>
        intro a ha b hb e
        rcases List.mem_cons.1 ha with h8 | h8
        · rcases List.mem_cons.1 hb with h9 | h9
          · rw [h8, h9]
          · have := hx b h9; rw [← h8] at this; omega
        · rcases List.mem_cons.1 hb with h9 | h9
          · have := hx a h8; rw [← h9] at this; omega
          · exact ih a h8 b h9 e
    exact hinj L hs a ha' b hb (by omega)
  · rw [List.pairwise_map, List.pairwise_iff_getElem]
    intro i j hi hj hij
    have hj' : j < d.size := by rw [← hsz]; simpa using hj
    have := h2 i j (Nat.zero_le _) hij hj'
    rw [getElem!_pos d' j (by omega), getElem!_pos d' i (by omega)] at this
    have h5 : ltOf cfE d'[j] d'[i] = decide (d'[j].1.1 < d'[i].1.1) := cmpZ_lt _ _
    rw [h5] at this
    simp at this
    simpa using this
theorem msort_row (L zs : List (Int × Nat)) (hz : zs.Perm L) (hne : L ≠ []) (h12 : L.length ≤ 12) (hs : L.Pairwise (fun a b => a.1 < b.1)) (w : World) (base g cap n : Nat) (hb0 : base ≤ g) (hn : zs.length = n) (cur : Array Value) (hb : w.heap[g]? = some (.cells cur 112 (0, 0))) (h1 : n ≤ cap) (h2 : cap ≤ maxLen) (h3 : cur.size = cap * 1) (ht : cur.toList.take n = zs.map (fun e => ptV e.2))
    (hk : ∀ e ∈ L, w.cell? ⟨e.2, 0, none⟩ = some (.int .u64 e.1) ∧ e.2 ≠ g ∧ e.2 < w.heap.size) :
    Calls Try.prog 78 #[.slice (some ⟨g, 0, none⟩) n cap, .func (.func 61) #[] #[]] w fun e w' => e = .returned (.tuple #[]) ∧ w'.ownsRow base 112 1 (.slice (some ⟨g, 0, none⟩) n cap) n (L.map (fun e => ptV e.2)) ∧ w.grownBy w' (some g) := by
  have hI : ∃ e, e ∈ L := by
    cases L with
    | nil => exact absurd rfl hne
    | cons a l => exact ⟨a, List.mem_cons_self⟩
  obtain ⟨e0, he0⟩ := hI
  letI : Inhabited (ElL L) := ⟨⟨e0, he0⟩⟩
  have hzl : zs.length = L.length := hz.length_eq
  obtain ⟨d, hd⟩ : ∃ d : Array (ElL L), d.toList = zs.pmap (fun e h => (⟨e, h⟩ : ElL L)) (fun e he => hz.subset he) := ⟨_, List.toList_toArray⟩
  have hdv : d.toList.map Subtype.val = zs := by rw [hd, List.map_pmap]; simp
  have hdn : d.size = n := by rw [← Array.length_toList, hd, List.length_pmap, hn]
  have hde : d.toList.map encE = zs.map (fun e => ptV e.2) := by
    have h := congrArg (List.map (fun e : Int × Nat => ptV e.2)) hdv
    rw [List.map_map] at h
    exact h
  have hH : Holds (encE (L := L)) w g 0 d := holdsB encE hb (by rw [hdn, hde]; exact ht)
  have hcmp : CmpReads Try.prog 61 #[] (encE (L := L)) cfE g 0 d.size w := by
    intro m os dk hdk x y
    have hx := hk x.1 x.2
    have hy := hk y.1 y.2
    have hcell : ∀ z : ElL L, (Go.Proofs.sortWorld encE w g 0 m dk os).cell? ⟨z.1.2, 0, none⟩ = some (.int .u64 z.1.1) := fun z => by
      have h := hk z.1 z.2
      unfold Go.Proofs.sortWorld
      rw [cell?_grow _ _ _ (by simp [Sort.ahead]; exact h.2.2), cell?_putRow_other _ _ _ _ _ _ (.inl h.2.1)]
      exact h.1
    exact cmpcl_any x.1.2 y.1.2 x.1.1 y.1.1 _ (hcell x) (hcell y)
  have hS := Any.slices_SortFunc_small_sorted sortR (encE (L := L)) (fun _ => rfl) cfE (swoE L) 61 #[] g 0 cap d w (enters_of Try.func61 (by kernel_rfl) rfl) hcmp hH (by rw [hdn, ← hn, hzl]; exact h12) (fun n W h => blen_any n W h)
  rw [hdn] at hS
  refine Calls.mono hS ?_
  rintro e w' ⟨rfl, d', q, hp, hsd, rfl⟩
  have hd' := sorted_eq hs d d' (by rw [hdv]; exact hz) (by rw [hdn]; exact hp) (by rw [hdn]; exact hsd)
  have hdn' : d'.size = n := by rw [hp.1, hdn]
  have hde' : d'.toList.map encE = L.map (fun e => ptV e.2) := by
    have h := congrArg (List.map (fun e : Int × Nat => ptV e.2)) hd'
    rw [List.map_map] at h
    exact h
  refine ⟨rfl, ⟨by simp; omega, .inr ⟨g, cap, _, rfl, hb0, putB encE d' hb, h1, h2, by simp [putCells, h3], ?_⟩⟩, putG encE w g q d'⟩
  rw [Nat.mul_one, ← hdn', ← hde']
  exact putT encE cur d' (by rw [hdn']; omega)
end Go.Proofs.Ytmbhicjjbgbneaa
