/- One step of LinkPlays: what the two links' calls leave. -/
import Derived.Test.YtcelhendfjiicaaLnT
namespace Go.Proofs.Ytcelhendfjiicaa
open Go.RowKit Go.Shelf Go.Proofs.YtcelhendfjiicaaW.PrintWords Go.Proofs.YtcelhendfjiicaaW.PrintLast Go.Proofs.YtcelhendfjiicaaW.PrintMore
set_option linter.unusedVariables false
set_option linter.unusedSimpArgs false
set_option maxRecDepth 100000
section
variable {w W W1 W2 W' : World} {base p q b : Nat} {g g' : Option Nat} {room : Int} {vs vs' : List Value} {ts ts' : List SlT} {s c d t s' c' d' t' : Int} {cs : Array Value}
/-- The box of a step stays while the link turns. -/
theorem PlI.boxL (h : PlI W base p q room g vs ts s c d t) (hx : W.heap[b]? = some (.cells cs 54 (0, 0))) (hg : Lg p g W W1) : W1.heap[b]? = some (.cells cs 54 (0, 0)) := by
  obtain ⟨pc, hp⟩ := h.lk.boxP
  refine (hg.block b (blk_lt hx) (ne_typed hx hp (by decide)) (fun e => ?_)).trans hx
  obtain ⟨cells, hc⟩ := h.lk.typedG b e.symm
  exact ne_typed hx hc (by decide) rfl
theorem RF.boxR (h : RF W base q room ts s c d t) (hx : W.heap[b]? = some (.cells cs 54 (0, 0))) (hg : Lg q none W W1) : W1.heap[b]? = some (.cells cs 54 (0, 0)) := by
  obtain ⟨A, k, hR, -⟩ := h.parts
  exact (hg.block b (blk_lt hx) (ne_typed hx hR (by decide)) (fun e => by cases e)).trans hx
theorem PlI.mid (h : PlI W base p q room g vs ts s c d t) (hg : Lg p g W W1) : RF W1 base q room ts s c d t := h.rf.keep h.lk h.ap hg
theorem PlI.mout (h : PlI W base p q room g vs ts s c d t) (hg : Lg p g W W1) : Below base W W1 :=
  hg.below h.lk.1 (fun k hk => (h.lk.gb k hk).1) (Nat.le_trans h.lk.1 (Nat.le_of_lt h.lk.at_.1))
theorem PlI.refL (h : PlI W base p q room g vs ts s c d t) {lv : Value} (hR : Rf W q room lv s c d t) (hg : Lg p g W W1) : Rf W1 q room lv s c d t := by
  obtain ⟨pc, hp⟩ := h.lk.boxP
  refine (hg.block q hR.at_.1 (ne_typed hR hp (by decide)) (fun e => ?_)).trans hR
  obtain ⟨cells, hc⟩ := h.lk.typedG q e.symm
  exact ne_typed hR hc (by decide) rfl
theorem u8_lt {A : Option Addr} {n : Nat} {xs : List Int} (hC : (Kd.int .u8).C W A n xs) {ad : Addr} (e : A = some ad) (hn : 0 < n) : ad.block < W.heap.size := by
  obtain ⟨hl, -, -⟩ := id hC
  subst hl
  obtain ⟨ad', cs, e', hl, hK, hcell⟩ := Kd.C_get hC 0 (0 : Int) (by omega) (by omega)
  rw [e] at e'
  injection e' with e'
  subst e'
  have hK' : cs = [.int .u8 (xs.getD 0 0)] := hK
  subst hK'
  have h2 := hcell 0 _ rfl
  have h3 := World.block_lt_of_cell? W _ h2
  have h4 : (ad.add 0).block = ad.block := by cases ad with | mk a b c => cases c <;> rfl
  simp only [Nat.mul_zero, Nat.zero_mul, Int.toNat_zero, Nat.add_zero, Nat.zero_add] at h3
  first | exact h3 | (rw [← h4]; exact h3) | simpa [h4] using h3
/-- The bytes of a place, as the contracts ask for them. -/
theorem SameB.parts {B : Nat} {v : Value} {x : SlT} (h : SameB W B v x) : ∃ (bs : List Int) (A : Option Addr) (m k : Nat) (A2 : Option Addr) (m2 k2 : Nat), v = .slice A m k ∧ x = (A2, m2, k2) ∧ bs.length = m ∧ m2 = m ∧ m ≤ k ∧ m ≤ k2 ∧ m ≤ 140737488351232 ∧ By8 bs ∧ Tx8 W B v bs ∧ Tx8 W B (encT x) bs ∧ (Kd.int .u8).C W A m bs ∧ (Kd.int .u8).C W A2 m bs := by
  obtain ⟨bs, h1, h2, h3, h4⟩ := h
  obtain ⟨A, c, e1, hc, hC⟩ := h1.reads
  obtain ⟨A2, m2, k2⟩ := x
  obtain ⟨A3, c3, e3, hc3, hC3⟩ := h2.reads
  unfold encT at e3
  simp only [Value.slice.injEq] at e3
  obtain ⟨rfl, rfl, rfl⟩ := e3
  exact ⟨bs, A, _, c, _, _, _, e1, rfl, rfl, rfl, hc, hc3, h4, h3, h1, h2, hC, hC3⟩
def Cn (i : Nat) (s c d t : Int) : Prop := (0 ≤ s ∧ s ≤ 256 * i) ∧ (0 ≤ c ∧ c ≤ 256 * i) ∧ (0 ≤ d ∧ d ≤ 256 * i) ∧ (0 ≤ t ∧ t ≤ 256 * i)
theorem Cn.more {i : Nat} (h : Cn i s c d t) : Cn (i + 1) s c d t := by unfold Cn at *; omega
theorem Cn.sent {i : Nat} (h : Cn i s c d t) (hi : i ≤ 200) : Cn (i + 1) (up s 1) c d t := by unfold Cn up at *; omega
theorem Cn.full {i : Nat} (h : Cn i s c d t) (hi : i ≤ 200) : Cn (i + 1) (up s 1) c (up d 1) t := by unfold Cn up at *; omega
theorem Cn.came {i : Nat} (h : Cn i s c d t) (hi : i ≤ 200) : Cn (i + 1) s (up c 1) d t := by unfold Cn up at *; omega
theorem Cn.dropped {i : Nat} (h : Cn i s c d t) (hi : i ≤ 200) : Cn (i + 1) s c (up d 1) t := by unfold Cn up at *; omega
theorem Cn.turned {i : Nat} (h : Cn i s c d t) (hi : i ≤ 200) : Cn (i + 1) s c d (up t 1) := by unfold Cn up at *; omega
theorem Cn.cleared {i : Nat} (h : Cn i s c d t) {n : Nat} (hn : n ≤ 256) : Cn (i + 1) s c (d + n) t := by unfold Cn at *; omega
theorem Cn.lt {i : Nat} (h : Cn i s c d t) (hi : i ≤ 200) : (0 ≤ s ∧ s ≤ 4294967295) ∧ (0 ≤ c ∧ c ≤ 4294967295) ∧ (0 ≤ d ∧ d ≤ 60000) ∧ (0 ≤ t ∧ t ≤ 4294967295) := by unfold Cn at *; omega
/-- What stands behind step i. -/
def Rd (w : World) (i p q : Nat) (room : Int) (wx : World) : Prop := ∃ (g : Option Nat) (vs : List Value) (ts : List SlT) (s c d t : Int), Cn i s c d t ∧ PlI wx w.heap.size p q room g vs ts s c d t ∧ Below w.heap.size w wx
theorem Rd.same {i : Nat} (h : PlI W w.heap.size p q room g vs ts s c d t) (hb : Below w.heap.size w W) (hc : Cn i s c d t) : Rd w (i + 1) p q room W := ⟨g, vs, ts, s, c, d, t, hc.more, h, hb⟩
theorem Rd.of {i : Nat} (h : PlI W w.heap.size p q room g vs ts s c d t) (hb : Below w.heap.size w W) (hL : Ln W1 w.heap.size p g' room vs' s' c' d' t') (hg : Lg p g W W1) (hn : GN W g g') (hR : RfP W1 w.heap.size q room ts' s' c' d' t' W2) (hl : (vs'.length : Int) ≤ room) (ht : TT W2 w.heap.size vs' ts') (hc : Cn i s' c' d' t') : Rd w i p q room W2 :=
  ⟨g', vs', ts', s', c', d', t', hc, h.next hL hg hn hR.1 hR.2.1 hR.2.2 hl ht, hb.trans (h.out hg hR.2.1 (Nat.le_refl _))⟩
/-- Behind a call of both the texts that stay stay. -/
theorem PlI.tt2 (h : PlI W base p q room g vs ts s c d t) (hg : Lg p g W W1) (hR : RfP W1 base q room ts' s' c' d' t' W2) : TT W2 base vs ts := by
  have h1 : TT W1 base vs ts := h.tt.keepL h.lk hg
  exact h1.keepR (h.mid hg) hR.2.1
theorem RF.cleared (h : RF W base q room ts s c d t) : RF (W.setCell ⟨q, 1, none⟩ (.slice none 0 0)) base q room [] s c d t := by
  obtain ⟨hq, A, k, hR, hO⟩ := h
  exact ⟨hq, none, 0, hR.putL _, Kd.R_nil _ _ _ _ _⟩
theorem up_clear (n : Nat) (h0 : 0 ≤ d) (h1 : d ≤ 60000) (hn : n ≤ 256) : (if n = 0 then d else up d n) = d + n := by
  split
  · omega
  · unfold up; omega
/-- Both lists are dropped. -/
theorem Rd.clear {i : Nat} (h : PlI W w.heap.size p q room g vs ts s c d t) (hb : Below w.heap.size w W) (hg' : g' = none ∨ g' = g) (hL : Ln W1 w.heap.size p g' room [] s c d' t) (hg : Lg p g W W1) (hc : Cn i s c d' t) (hr : 0 ≤ room) : Rd w i p q room ((W1.setCell ⟨q, 4, none⟩ (.int .u32 d')).setCell ⟨q, 1, none⟩ (.slice none 0 0)) := by
  have hR1 := h.mid hg
  have hR2 := (hR1.dropped d').cleared
  have hg2 : Lg q none W1 ((W1.setCell ⟨q, 4, none⟩ (.int .u32 d')).setCell ⟨q, 1, none⟩ (.slice none 0 0)) := ((Lg.refl _ _ _).put _ _).put _ _
  refine ⟨g', [], [], s, c, d', t, hc, ⟨hL.keepR hR1 hg2, hR2, ?_, TT.nil, by simpa using hr⟩, hb.trans (h.out hg hg2 (Nat.le_refl _))⟩
  intro v hv kk hkk e
  obtain ⟨-, A, k, hR, -⟩ := hR1.dropped d'
  rw [(hR.putL (.slice none 0 0)).at_.2.2.1] at hv
  injection hv with hv
  rw [← hv] at hkk
  cases hkk
end
end Go.Proofs.Ytcelhendfjiicaa
