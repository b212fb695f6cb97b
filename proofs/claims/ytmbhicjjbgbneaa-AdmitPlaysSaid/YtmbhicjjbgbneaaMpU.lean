/- Maps, whatever they hold: entry by entry. -/
import Derived.Maps.RangeWalk
import Derived.Maps.OwnSet
import Derived.Maps.OwnOps
import Derived.WalkKit
import Derived.Lib.Hide
namespace Go.Proofs.Ytmbhicjjbgbneaa
open Go.RowKit Go.ChangeMaps
set_option linter.unusedVariables false
set_option linter.unusedSimpArgs false
set_option maxRecDepth 100000

section
variable {K β : Type} [DecidableEq K]
def mlook : List (K × β) → K → Option β
  | [], _ => none
  | (a, u) :: l, k => if a = k then some u else mlook l k
def mput : List (K × β) → K → β → List (K × β)
  | [], k, v => [(k, v)]
  | (a, u) :: l, k, v => if a = k then (k, v) :: l else (a, u) :: mput l k v
def mdel : List (K × β) → K → List (K × β)
  | [], _ => []
  | (a, u) :: l, k => if a = k then l else (a, u) :: mdel l k
theorem mput_none (L : List (K × β)) (k : K) (v : β) (h : mlook L k = none) : mput L k v = L ++ [(k, v)] := by
  induction L with
  | nil => rfl
  | cons p l ih =>
    obtain ⟨a, u⟩ := p
    unfold mlook at h
    split at h
    · cases h
    · rename_i hne
      show mput ((a, u) :: l) k v = _
      unfold mput
      rw [if_neg hne, ih h]; rfl
theorem mdel_none (L : List (K × β)) (k : K) (h : mlook L k = none) : mdel L k = L := by
  induction L with
  | nil => rfl
  | cons p l ih =>
    obtain ⟨a, u⟩ := p
    unfold mlook at h
    split at h
    · cases h
    · rename_i hne
      unfold mdel
      rw [if_neg hne, ih h]
theorem mput_len (L : List (K × β)) (k : K) (v : β) : (mput L k v).length = if (mlook L k).isSome then L.length else L.length + 1 := by
  induction L with
  | nil => rfl
  | cons p l ih =>
    obtain ⟨a, u⟩ := p
    unfold mput mlook
    split
    · rfl
    · rw [List.length_cons, ih]; split <;> simp
theorem mlook_put (L : List (K × β)) (k j : K) (v : β) : mlook (mput L k v) j = if k = j then some v else mlook L j := by
  induction L with
  | nil => rfl
  | cons p l ih =>
    obtain ⟨a, u⟩ := p
    unfold mput
    split
    · rename_i h
      subst h
      unfold mlook
      split <;> rfl
    · rename_i h
      unfold mlook
      rw [ih]
      split
      · rename_i h2
        subst h2
        rw [if_neg (fun e => h e.symm)]
      · rfl
def mkeys (L : List (K × β)) : List K := L.map Prod.fst
theorem mlook_none {L : List (K × β)} {k : K} : mlook L k = none ↔ k ∉ mkeys L := by
  induction L with
  | nil => simp [mlook, mkeys]
  | cons p l ih =>
    obtain ⟨a, u⟩ := p
    unfold mlook
    split
    · rename_i h; subst h; simp [mkeys]
    · rename_i h
      rw [ih]
      constructor
      · intro hn hm
        rcases List.mem_cons.1 (show k ∈ a :: mkeys l from hm) with h1 | h1
        · exact h h1.symm
        · exact hn h1
      · intro hn hm
        exact hn (List.mem_cons_of_mem _ hm)
theorem mput_keys (L : List (K × β)) (k : K) (v : β) : mkeys (mput L k v) = if (mlook L k).isSome then mkeys L else mkeys L ++ [k] := by
  induction L with
  | nil => rfl
  | cons p l ih =>
    obtain ⟨a, u⟩ := p
    unfold mput mlook
    split
    · rename_i h; subst h; rfl
    · show a :: mkeys (mput l k v) = _
      rw [ih]; split <;> rfl
theorem mput_nodup {L : List (K × β)} (h : (mkeys L).Nodup) (k : K) (v : β) : (mkeys (mput L k v)).Nodup := by
  rw [mput_keys]
  split
  · exact h
  · rename_i hn
    have hk : k ∉ mkeys L := mlook_none.1 (by simpa using hn)
    refine List.nodup_append.2 ⟨h, by simp, fun a ha b hb => ?_⟩
    have : b = k := by simpa using hb
    subst this
    intro e; subst e; exact hk ha
theorem mdel_keys (L : List (K × β)) (k : K) : mkeys (mdel L k) = (mkeys L).erase k := by
  induction L with
  | nil => rfl
  | cons p l ih =>
    obtain ⟨a, u⟩ := p
    unfold mdel
    show _ = (a :: mkeys l).erase k
    rw [List.erase_cons]
    split
    · rename_i h; subst h; simp
    · rename_i h
      rw [if_neg (by simpa using h)]
      show a :: mkeys (mdel l k) = _
      rw [ih]
theorem mdel_nodup {L : List (K × β)} (h : (mkeys L).Nodup) (k : K) : (mkeys (mdel L k)).Nodup := by
  rw [mdel_keys]; exact h.erase k
theorem mlook_del {L : List (K × β)} (h : (mkeys L).Nodup) (k j : K) : mlook (mdel L k) j = if k = j then none else mlook L j := by
  induction L with
  | nil => simp [mdel, mlook]
  | cons p l ih =>
    obtain ⟨a, u⟩ := p
    have h' : a ∉ mkeys l ∧ (mkeys l).Nodup := List.nodup_cons.1 h
    unfold mdel
    split
    · rename_i e
      subst e
      split
      · rename_i e2; subst e2; exact mlook_none.2 h'.1
      · rename_i e2
        show _ = mlook ((a, u) :: l) j
        unfold mlook
        rw [if_neg e2]
        split <;> rfl
    · rename_i e
      unfold mlook
      rw [ih h'.2]
      split
      · rename_i e2; subst e2; rw [if_neg (fun e3 => e e3.symm)]
      · rfl
theorem mdel_len (L : List (K × β)) (k : K) : (mdel L k).length = if (mlook L k).isSome then L.length - 1 else L.length := by
  induction L with
  | nil => rfl
  | cons p l ih =>
    obtain ⟨a, u⟩ := p
    unfold mdel mlook
    split
    · simp
    · rw [List.length_cons, ih]
      split
      · rename_i h
        cases l with
        | nil => simp [mlook] at h
        | cons q l => simp
      · rfl
theorem mlook_mem {L : List (K × β)} {k : K} {v : β} (h : mlook L k = some v) : (k, v) ∈ L := by
  induction L with
  | nil => simp [mlook] at h
  | cons p l ih =>
    obtain ⟨a, u⟩ := p
    unfold mlook at h
    split at h
    · rename_i e; subst e; injection h with h; subst h; exact List.mem_cons_self
    · exact List.mem_cons_of_mem _ (ih h)
theorem mlook_of_mem {L : List (K × β)} (hn : (mkeys L).Nodup) {k : K} {v : β} (h : (k, v) ∈ L) : mlook L k = some v := by
  induction L with
  | nil => cases h
  | cons p l ih =>
    obtain ⟨a, u⟩ := p
    have h' : a ∉ mkeys l ∧ (mkeys l).Nodup := List.nodup_cons.1 hn
    unfold mlook
    rcases List.mem_cons.1 h with e | h
    · injection e with e1 e2; subst e1 e2; rw [if_pos rfl]
    · rw [if_neg (fun e => h'.1 (by subst e; exact List.mem_map.2 ⟨_, h, rfl⟩))]
      exact ih h'.2 h
end

section
variable {K : Type} [DecidableEq K]
/-- What serves as keys. -/
structure KeyK (P : Program) (kt : TypeId) (κ : K → Value) : Prop where
  desc : ∃ d, P.underlying kt = some d ∧ ∀ a b, Instr.sameNow d (κ a) (κ b) = some (decide (a = b))
  chk : ∀ (e : Bool) (k : K) (w : World), (Instr.checkKey e 10000 kt (κ k)).run P w = .ok () w
  bits : ∀ (n : Nat) (k : K), Instr.sameBits n (κ k) (κ k) = true
/-- What an entry is. -/
def entOf (κ : K → Value) (p : K × Value) : Value × Value := (κ p.1, p.2)
def Ents (κ : K → Value) (es : List MapEntry) (L : List (K × Value)) : Prop := es.map (fun e => (e.key, e.val)) = L.map (entOf κ)
/-- A map at b. -/
def IsMp (κ : K → Value) (w : World) (b : Nat) (L : List (K × Value)) : Prop :=
  ∃ es clock, w.heap[b]? = some (.map es clock) ∧ Ents κ es.toList L ∧ (∀ e ∈ es.toList, e.born < clock) ∧ (es.toList.map MapEntry.born).Nodup
omit [DecidableEq K] in
theorem ents_cons {κ : K → Value} {es : List MapEntry} {a : K} {u : Value} {l : List (K × Value)} (h : Ents κ es ((a, u) :: l)) : ∃ e es', es = e :: es' ∧ e.key = κ a ∧ e.val = u ∧ Ents κ es' l := by
  cases es with
  | nil => simp [Ents] at h
  | cons e es' =>
    simp only [Ents, List.map_cons, List.cons.injEq, entOf, Prod.mk.injEq] at h
    exact ⟨e, es', rfl, h.1.1, h.1.2, h.2⟩
omit [DecidableEq K] in
theorem ents_nil {κ : K → Value} {es : List MapEntry} (h : Ents κ es []) : es = [] := by simpa [Ents] using h
theorem find_none {d : TypeDesc} (κ : K → Value) (hd : ∀ a b, Instr.sameNow d (κ a) (κ b) = some (decide (a = b))) (k : K) : ∀ (L : List (K × Value)) (es : List MapEntry) (i : Nat), Ents κ es L → mlook L k = none → Instr.findNow d (κ k) es i = some none := by
  intro L
  induction L with
  | nil => intro es i h _; rw [ents_nil h]; rfl
  | cons p l ih =>
    intro es i h hl
    obtain ⟨a, u⟩ := p
    obtain ⟨e, es', rfl, hk, hv, hr⟩ := ents_cons h
    unfold mlook at hl
    split at hl
    · cases hl
    · rename_i hne
      have hb : decide (k = a) = false := decide_eq_false (fun e : k = a => hne e.symm)
      unfold Instr.findNow
      rw [hk, hd, hb]
      exact ih es' (i + 1) hr hl
theorem find_some {d : TypeDesc} (κ : K → Value) (hd : ∀ a b, Instr.sameNow d (κ a) (κ b) = some (decide (a = b))) (k : K) (u : Value) : ∀ (L : List (K × Value)) (es : List MapEntry) (i : Nat), Ents κ es L → mlook L k = some u →
    ∃ j e, Instr.findNow d (κ k) es i = some (some (i + j, u)) ∧ es[j]? = some e ∧ e.key = κ k ∧ Ents κ (es.eraseIdx j) (mdel L k) ∧ ∀ v, Ents κ (es.modify j (fun e => { e with key := κ k, val := v })) (mput L k v) := by
  intro L
  induction L with
  | nil => intro es i _ hl; cases hl
  | cons p l ih =>
    intro es i h hl
    obtain ⟨a, u0⟩ := p
    obtain ⟨e, es', rfl, hk, hv, hr⟩ := ents_cons h
    unfold mlook at hl
    split at hl
    · rename_i he
      subst he
      injection hl with hl
      subst hl
      refine ⟨0, e, ?_, rfl, hk, ?_, fun v => ?_⟩
      · unfold Instr.findNow
        rw [hk, hd, decide_eq_true rfl, hv]
        simp
      · show Ents κ es' (mdel ((a, u0) :: l) a)
        unfold mdel
        rw [if_pos rfl]; exact hr
      · unfold mput
        rw [if_pos rfl]
        show Ents κ ({ e with key := κ a, val := v } :: es') ((a, v) :: l)
        unfold Ents at hr ⊢
        simp only [List.map_cons, entOf]
        rw [hr]
    · rename_i hne
      obtain ⟨j, e', h1, h2, h3, h4, h5⟩ := ih es' (i + 1) hr hl
      have hb : decide (k = a) = false := decide_eq_false (fun e : k = a => hne e.symm)
      refine ⟨j + 1, e', ?_, by simpa using h2, h3, ?_, fun v => ?_⟩
      · unfold Instr.findNow
        rw [hk, hd, hb]
        show Instr.findNow d (κ k) es' (i + 1) = _
        rw [h1, show i + 1 + j = i + (j + 1) by omega]
      · show Ents κ (e :: es'.eraseIdx j) (mdel ((a, u0) :: l) k)
        unfold mdel
        rw [if_neg hne]
        unfold Ents at h4 ⊢
        simp only [List.map_cons, entOf, hk, hv]
        rw [h4]
      · unfold mput
        rw [if_neg hne]
        show Ents κ (e :: es'.modify j _) _
        have h6 := h5 v
        unfold Ents at h6 ⊢
        simp only [List.map_cons, entOf, hk, hv]
        rw [h6]

section
variable {P : Program} {κ : K → Value} {t kt et : TypeId} {w : World} {b : Nat} {L : List (K × Value)}

theorem run_mlook (ht : P.underlying t = some (.map kt et)) (hk : KeyK P kt κ) {z : Value} (hz : (zeroValue et).run P w = .ok z w) (h : IsMp κ w b L) (k : K) (c : Bool) :
    (Instr.lookup t (.map (some b)) (κ k) c).run P w = .ok (if c then .tuple #[(mlook L k).getD z, .bool (mlook L k).isSome] else (mlook L k).getD z) w := by
  obtain ⟨es, clock, hb, hE, hc, hn⟩ := h
  obtain ⟨d, hd, hs⟩ := hk.desc
  unfold Instr.lookup
  cases hl : mlook L k with
  | none =>
    have hf := find_none κ hs k L es.toList 0 hE hl
    simp [run_underlying ht, getObj, Sem.run, hb, hk.chk, Instr.findKey, run_underlying hd, hf, hz]
  | some u =>
    obtain ⟨j, e, hf, -⟩ := find_some κ hs k u L es.toList 0 hE hl
    simp [run_underlying ht, getObj, Sem.run, hb, hk.chk, Instr.findKey, run_underlying hd, hf]
theorem run_mlook_nil (ht : P.underlying t = some (.map kt et)) (hk : KeyK P kt κ) {z : Value} (hz : (zeroValue et).run P w = .ok z w) (k : K) (c : Bool) :
    (Instr.lookup t (.map none) (κ k) c).run P w = .ok (if c then .tuple #[z, .bool false] else z) w := by
  obtain ⟨d, hd, hs⟩ := hk.desc
  unfold Instr.lookup
  simp [run_underlying ht, hk.chk, Instr.findKey, run_underlying hd, Instr.findNow, hz]
omit [DecidableEq K] in
theorem run_mlen (ht : P.underlying t = some (.map kt et)) (h : IsMp κ w b L) (ty : TypeId) : (Builtin.len_ #[t] ty #[.map (some b)]).run P w = .ok (.int .i64 L.length) w := by
  obtain ⟨es, clock, hb, hE, hc, hn⟩ := h
  have hl : es.size = L.length := by
    have := congrArg List.length hE
    simpa [Ents] using this
  unfold Builtin.len_
  simp [run_underlying ht, getObj, Sem.run, hb, hl, goInt]
theorem mp_turn {w : World} {b : Nat} {es : Array MapEntry} {clock : Nat} (hb : w.heap[b]? = some (.map es clock)) (es' : Array MapEntry) (clock' : Nat) : w.grownBy (setBlock w b (.map es' clock')) (some b) :=
  ⟨rfl, rfl, rfl, by simp [setBlock], fun i hi hne => heap_setBlock_other hb _ (fun e => hne (by rw [e]))⟩
theorem run_mput (ht : P.underlying t = some (.map kt et)) (hk : KeyK P kt κ) (h : IsMp κ w b L) (k : K) (v : Value) :
    ∃ w', (Instr.mapUpdate t (.map (some b)) (κ k) v).run P w = .ok () w' ∧ IsMp κ w' b (mput L k v) ∧ w.grownBy w' (some b) ∧ w'.heap.size = w.heap.size := by
  obtain ⟨es, clock, hb, hE, hc, hn⟩ := h
  obtain ⟨d, hd, hs⟩ := hk.desc
  cases hl : mlook L k with
  | none =>
    have hf := find_none κ hs k L es.toList 0 hE hl
    refine ⟨setBlock w b (.map (es.push { key := κ k, val := v, born := clock }) (clock + 1)), ?_, ⟨_, _, heap_setBlock_same hb _, ?_, ?_, ?_⟩, mp_turn hb _ _, by simp [setBlock]⟩
    · unfold Instr.mapUpdate
      simp [run_underlying ht, getObj, setObj, Sem.run, hb, hk.chk, Instr.findKey, run_underlying hd, hf, setBlock]
    · rw [mput_none L k v hl]
      unfold Ents at hE ⊢
      rw [Array.toList_push, List.map_append, List.map_append, hE]; rfl
    · intro e he
      rw [Array.toList_push] at he
      rcases List.mem_append.1 he with he | he
      · exact Nat.lt_succ_of_lt (hc e he)
      · have : e = { key := κ k, val := v, born := clock } := by simpa using he
        rw [this]; exact Nat.lt_succ_self _
    · rw [Array.toList_push, List.map_append]
      refine List.nodup_append.2 ⟨hn, by simp, fun x hx y hy => ?_⟩
      have : y = clock := by simpa using hy
      obtain ⟨e, he, rfl⟩ := List.mem_map.1 hx
      have := hc e he
      omega
  | some u =>
    obtain ⟨j, e, hf, hj, hkey, hdl, hp⟩ := find_some κ hs k u L es.toList 0 hE hl
    rw [Nat.zero_add] at hf
    have hj2 : es[j]? = some e := by simpa using hj
    refine ⟨setBlock w b (.map (es.modify j fun e => { e with key := κ k, val := v }) clock), ?_, ⟨_, _, heap_setBlock_same hb _, ?_, ?_, ?_⟩, mp_turn hb _ _, by simp [setBlock]⟩
    · unfold Instr.mapUpdate
      simp [run_underlying ht, getObj, setObj, Sem.run, hb, hk.chk, Instr.findKey, run_underlying hd, hf, setBlock, hj2, hkey, Instr.keyThatStays, hk.bits]
    · rw [Array.toList_modify]; exact hp v
    · intro e' he
      rw [Array.toList_modify] at he
      obtain ⟨i, hi, rfl⟩ := List.mem_iff_getElem.1 he
      rw [List.getElem_modify]
      have hi' : i < es.toList.length := by simpa using hi
      have h9 := hc (es.toList[i]'hi') (List.getElem_mem hi')
      split
      · exact h9
      · exact h9
    · rw [Array.toList_modify]
      have : (es.toList.modify j fun e => { e with key := κ k, val := v }).map MapEntry.born = es.toList.map MapEntry.born := by
        apply List.ext_getElem
        · simp
        · intro i h1 h2
          rw [List.getElem_map, List.getElem_map, List.getElem_modify]
          split <;> rfl
      rw [this]; exact hn
theorem run_mdel (ht : P.underlying t = some (.map kt et)) (hk : KeyK P kt κ) (h : IsMp κ w b L) (k : K) (t2 : TypeId) (ty : TypeId) :
    ∃ w', (Builtin.delete_ #[t, t2] ty #[.map (some b), κ k]).run P w = .ok (.tuple #[]) w' ∧ IsMp κ w' b (mdel L k) ∧ w.grownBy w' (some b) ∧ w'.heap.size = w.heap.size := by
  obtain ⟨es, clock, hb, hE, hc, hn⟩ := h
  obtain ⟨d, hd, hs⟩ := hk.desc
  cases hl : mlook L k with
  | none =>
    have hf := find_none κ hs k L es.toList 0 hE hl
    refine ⟨setBlock w b (.map es clock), ?_, ⟨_, _, heap_setBlock_same hb _, ?_, hc, hn⟩, mp_turn hb _ _, by simp [setBlock]⟩
    · unfold Builtin.delete_
      simp [run_underlying ht, getObj, setObj, Sem.run, hb, hk.chk, Instr.findKey, run_underlying hd, hf, setBlock]
    · rw [mdel_none L k hl]; exact hE
  | some u =>
    obtain ⟨j, e, hf, hj, hkey, hdl, hp⟩ := find_some κ hs k u L es.toList 0 hE hl
    rw [Nat.zero_add] at hf
    have hjs : j < es.size := by have := (List.getElem?_eq_some_iff.1 hj).1; simpa using this
    refine ⟨setBlock w b (.map (es.eraseIdxIfInBounds j) clock), ?_, ⟨_, _, heap_setBlock_same hb _, ?_, ?_, ?_⟩, mp_turn hb _ _, by simp [setBlock]⟩
    · unfold Builtin.delete_
      simp [run_underlying ht, getObj, setObj, Sem.run, hb, hk.chk, Instr.findKey, run_underlying hd, hf, setBlock]
    · have : (es.eraseIdxIfInBounds j).toList = es.toList.eraseIdx j := by simp [Array.eraseIdxIfInBounds, hjs]
      rw [this]; exact hdl
    · intro e' he
      have : (es.eraseIdxIfInBounds j).toList = es.toList.eraseIdx j := by simp [Array.eraseIdxIfInBounds, hjs]
      rw [this] at he
      exact hc e' (List.mem_of_mem_eraseIdx he)
    · have : (es.eraseIdxIfInBounds j).toList = es.toList.eraseIdx j := by simp [Array.eraseIdxIfInBounds, hjs]
      rw [this]
      exact hn.sublist ((List.eraseIdx_sublist _ _).map _)
omit [DecidableEq K] in
theorem IsMp.made (κ : K → Value) (w : World) : IsMp κ (w.alloc (.map #[] 0)) w.heap.size [] := ⟨#[], 0, heap_alloc_new w _, rfl, by simp, by simp⟩
omit [DecidableEq K] in
theorem IsMp.move {w' : World} (h : IsMp κ w b L) (hw : w'.heap[b]? = w.heap[b]?) : IsMp κ w' b L := by
  obtain ⟨es, clock, hb, hr⟩ := h
  exact ⟨es, clock, hw.trans hb, hr⟩
omit [DecidableEq K] in
theorem IsMp.lt (h : IsMp κ w b L) : b < w.heap.size := by
  obtain ⟨es, clock, hb, hr⟩ := h
  exact (Array.getElem?_eq_some_iff.1 hb).1
omit [DecidableEq K] in
theorem IsMp.below {w' : World} (h : IsMp κ w b L) (hb : Below w.heap.size w w') : IsMp κ w' b L := h.move (hb.block b h.lt)
omit [DecidableEq K] in
theorem IsMp.grown {w' : World} {row : Option Nat} (h : IsMp κ w b L) (hg : w.grownBy w' row) (hne : some b ≠ row) : IsMp κ w' b L := h.move (hg.block b h.lt hne)
omit [DecidableEq K] in
theorem IsMp.set {a : Addr} (h : IsMp κ w b L) (hne : b ≠ a.block) (v : Value) : IsMp κ (w.setCell a v) b L := h.move (Below.heap_setCell w a v b hne)
end
theorem key_int {P : Program} {kt : TypeId} {q : IntKind} (hk : P.underlying kt = some (.int q)) : KeyK P kt (Value.int q) where
  desc := ⟨_, hk, fun a b => by simp [Instr.sameNow]; rfl⟩
  chk := fun e k w => by
    have h : ∀ n : Nat, (Instr.checkKey e (n + 1) kt (.int q k)).run P w = .ok () w := fun n => by simp [Instr.checkKey, run_underlying hk]
    exact h 9999
  bits := fun n k => by cases n <;> simp [Instr.sameBits]
theorem beq_bytes (a b : ByteArray) : (a == b) = decide (a = b) := by
  obtain ⟨x⟩ := a
  obtain ⟨y⟩ := b
  show (x == y) = _
  rw [Bool.eq_iff_iff]
  simp
theorem key_str {P : Program} {kt : TypeId} (hk : P.underlying kt = some .string) : KeyK P kt Value.string where
  desc := ⟨_, hk, fun a b => by simp [Instr.sameNow, beq_bytes]⟩
  chk := fun e k w => by
    have h : ∀ n : Nat, (Instr.checkKey e (n + 1) kt (.string k)).run P w = .ok () w := fun n => by simp [Instr.checkKey, run_underlying hk]
    exact h 9999
  bits := fun n k => by cases n <;> simp [Instr.sameBits, beq_bytes]
end

end Go.Proofs.Ytmbhicjjbgbneaa
