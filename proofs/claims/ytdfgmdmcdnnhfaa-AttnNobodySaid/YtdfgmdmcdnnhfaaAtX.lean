/- attn.Through from an empty memory. -/
import Derived.Test.YtdfgmdmcdnnhfaaAtW
namespace Go.Proofs.Ytdfgmdmcdnnhfaa
open Go.RowKit Go.Shelf Go.Proofs.YtdfgmdmcdnnhfaaW.PrintWords Go.Proofs.YtdfgmdmcdnnhfaaW.PrintLast Go.Proofs.YtdfgmdmcdnnhfaaW.PrintMore
set_option linter.unusedVariables false
set_option linter.unusedSimpArgs false
set_option maxRecDepth 100000

def ty (c : Cfg) (P : List Pl) (xs : List Int) : List Int := (aThru c P xs c.layers.toNat).1
def tp (c : Cfg) (P : List Pl) (xs : List Int) : Pl := (aThru c P xs c.layers.toNat).2
theorem ty_le (c : Cfg) (P : List Pl) (xs : List Int) : (ty c P xs).length ≤ xs.length := aThru_le c P xs _
theorem thru_at (W : World) (p : Nat) (c : Cfg) (hok : c.ok) (hMo : Mo W p c) (q : Nat) (P : List Pl) (hm : MemP W q c.layers P) (hP : PlOk c.layers.toNat P) (hlP : P.length ≤ 900) (A : Option Addr) (px : Nat) (xs : List Int) (hx : (Kd.int .i64).C W A xs.length xs) (hcx : xs.length ≤ px) (hnx : xs.length ≤ 4096) :
    Calls Try.prog 25 #[.pointer (some ⟨p, 0, none⟩), .pointer (some ⟨q, 0, none⟩), .slice A xs.length px] W (ThruR (ty c P xs) c.layers (P ++ [tp c P xs]) W) :=
  thru_same W p c hok hMo q P hm hP hlP A px xs hx hcx hnx
theorem thru_none (W : World) (p : Nat) (c : Cfg) (hok : c.ok) (hMo : Mo W p c) (A : Option Addr) (px : Nat) (xs : List Int) (hx : (Kd.int .i64).C W A xs.length xs) (hcx : xs.length ≤ px) (hnx : xs.length ≤ 4096) :
    Calls Try.prog 25 #[.pointer (some ⟨p, 0, none⟩), .pointer none, .slice A xs.length px] W (ThruR (ty c [] xs) c.layers [tp c [] xs] W) :=
  thru_other W p c hok hMo [] rfl _ 0 (fun W' _ => alay_nil W') (by have := hok.2.2.1; omega) A px xs hx hcx hnx
theorem thru_new (W : World) (p : Nat) (c : Cfg) (hok : c.ok) (hMo : Mo W p c) (q : Nat) (L : Int) (hm : MemP W q L []) (A : Option Addr) (px : Nat) (xs : List Int) (hx : (Kd.int .i64).C W A xs.length xs) (hcx : xs.length ≤ px) (hnx : xs.length ≤ 4096) :
    Calls Try.prog 25 #[.pointer (some ⟨p, 0, none⟩), .pointer (some ⟨q, 0, none⟩), .slice A xs.length px] W (ThruR (ty c [] xs) c.layers [tp c [] xs] W) := by
  by_cases h : L = c.layers
  · subst h
    exact thru_same W p c hok hMo q [] hm (plok_nil _) (by simp) A px xs hx hcx hnx
  · exact thru_other W p c hok hMo [] rfl _ L (fun W' hb => alay_any W' q L [] (hm.below hb)) h A px xs hx hcx hnx
theorem plok_tp (c : Cfg) (hok : c.ok) (P Q : List Pl) (xs : List Int) (h : PlOk c.layers.toNat Q) : PlOk c.layers.toNat (Q ++ [tp c P xs]) := plok_snoc c hok P Q xs h

end Go.Proofs.Ytdfgmdmcdnnhfaa
