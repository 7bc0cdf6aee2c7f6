/- Trees as the laws use them: compared, marked, held, counted, copied. -/
import Derived.Test.YtifjihpnhmemgaaTreeOf
import Derived.Test.YtifjihpnhmemgaaNest
namespace Go.Proofs.Ytifjihpnhmemgaa
open Go.RowKit
set_option linter.unusedVariables false
/-- the three rows of a tree of one's own, all blocks from base to C -/
structure TreeRC (w : World) (base C : Nat) (tI tB : TypeId) (AK : Option Addr) (nK cK : Nat) (AD : Option Addr) (nD cD : Nat) (AL : Option Addr) (nL cL : Nat) (ks : List Int) (ds : List Bool) (ls : List Int) : Prop where
  k : w.ownsRow base tI 1 (.slice AK nK cK) nK (ints ks)
  d : w.ownsRow base tB 1 (.slice AD nD cD) nD (bools ds)
  l : w.ownsRow base tI 1 (.slice AL nL cL) nL (ints ls)
  ne : (Value.slice AK nK cK).ownBlock = none ∨ (Value.slice AK nK cK).ownBlock ≠ (Value.slice AL nL cL).ownBlock
  kC : ∀ q, (Value.slice AK nK cK).ownBlock = some q → q < C
  dC : ∀ q, (Value.slice AD nD cD).ownBlock = some q → q < C
  lC : ∀ q, (Value.slice AL nL cL).ownBlock = some q → q < C
/-- a tree that reads -/
def ReadsT (w : World) (B : Nat) (AK : Option Addr) (nK : Nat) (AD : Option Addr) (nD : Nat) (AL : Option Addr) (nL : Nat) (ks : List Int) (ds : List Bool) (ls : List Int) : Prop :=
  Reads w B 1 AK nK (ints ks) ∧ Reads w B 1 AD nD (bools ds) ∧ Reads w B 1 AL nL (ints ls)
section
variable {w w' w1 : World} {base base' B C D : Nat} {tI tB e : TypeId} {AK AD AL : Option Addr} {nK cK nD cD nL cL : Nat} {ks ls : List Int} {ds : List Bool}
theorem TreeRC.below (h : TreeRC w base C tI tB AK nK cK AD nD cD AL nL cL ks ds ls) (hb : Below B w w') (hB : w.heap.size ≤ B) : TreeRC w' base C tI tB AK nK cK AD nD cD AL nL cL ks ds ls :=
  ⟨own_below h.k hb hB, own_below h.d hb hB, own_below h.l hb hB, h.ne, h.kC, h.dC, h.lC⟩
theorem TreeRC.kept {row : Option Nat} (h : TreeRC w base C tI tB AK nK cK AD nD cD AL nL cL ks ds ls) (hg : w.grownBy w' row) (hr : ∀ k, row = some k → k < base ∨ C ≤ k) : TreeRC w' base C tI tB AK nK cK AD nD cD AL nL cL ks ds ls := by
  have key : ∀ x : Value, (∀ k, x.ownBlock = some k → base ≤ k ∧ k < C) → x.ownBlock = none ∨ x.ownBlock ≠ row := by
    intro x hx
    cases hk : x.ownBlock with
    | none => exact .inl rfl
    | some k => exact .inr fun e => by have := hr k e.symm; have := hx k hk; omega
  exact ⟨h.k.kept hg (key _ fun q hq => ⟨(own_lt h.k q hq).1, h.kC q hq⟩), h.d.kept hg (key _ fun q hq => ⟨(own_lt h.d q hq).1, h.dC q hq⟩), h.l.kept hg (key _ fun q hq => ⟨(own_lt h.l q hq).1, h.lC q hq⟩), h.ne, h.kC, h.dC, h.lC⟩
theorem TreeRC.kept_old {size n base1 : Nat} {x : Value} {xs : List Value} (h : TreeRC w base C tI tB AK nK cK AD nD cD AL nL cL ks ds ls) (h1 : w1.ownsRow base1 e size x n xs) (hg : w.grownBy w' x.ownBlock) (hb : w1.heap.size ≤ base) :
    TreeRC w' base C tI tB AK nK cK AD nD cD AL nL cL ks ds ls := h.kept hg fun k hk => .inl (Nat.lt_of_lt_of_le (own_lt h1 k hk).2 hb)
theorem TreeRC.kept_new {size n base1 : Nat} {x : Value} {xs : List Value} (h : TreeRC w base C tI tB AK nK cK AD nD cD AL nL cL ks ds ls) (h1 : w1.ownsRow base1 e size x n xs) (hg : w.grownBy w' x.ownBlock) (hb : C ≤ base1) :
    TreeRC w' base C tI tB AK nK cK AD nD cD AL nL cL ks ds ls := h.kept hg fun k hk => .inr (Nat.le_trans hb (own_lt h1 k hk).1)
theorem TreeRC.mid (h : TreeRC w base C tI tB AK nK cK AD nD cD AL nL cL ks ds ls) (hm : Mid B D w w') (hv : C ≤ B ∨ D ≤ base) : TreeRC w' base C tI tB AK nK cK AD nD cD AL nL cL ks ds ls := by
  have key : ∀ k, base ≤ k → k < C → k < B ∨ D ≤ k := fun k h5 h6 => by omega
  exact ⟨hm.own h.k fun q hq => key q (own_lt h.k q hq).1 (h.kC q hq), hm.own h.d fun q hq => key q (own_lt h.d q hq).1 (h.dC q hq), hm.own h.l fun q hq => key q (own_lt h.l q hq).1 (h.lC q hq), h.ne, h.kC, h.dC, h.lC⟩
theorem ReadsT.of_rc (h : TreeRC w base C tI tB AK nK cK AD nD cD AL nL cL ks ds ls) : ReadsT w w.heap.size AK nK AD nD AL nL ks ds ls := ⟨Reads.of_own h.k, Reads.of_own h.d, Reads.of_own h.l⟩
theorem ReadsT.below (h : ReadsT w B AK nK AD nD AL nL ks ds ls) (hb : Below B w w') : ReadsT w' B AK nK AD nD AL nL ks ds ls := ⟨h.1.below hb, h.2.1.below hb, h.2.2.below hb⟩
theorem ReadsT.more (h : ReadsT w B AK nK AD nD AL nL ks ds ls) (hB : B ≤ C) : ReadsT w C AK nK AD nD AL nL ks ds ls := ⟨h.1.more hB, h.2.1.more hB, h.2.2.more hB⟩
theorem TreeRC.born {k : Nat} {gL : Option Addr} {cLL : Nat} (h : TreeOwn w base tI tB k AK cK AD cD gL cLL ks ds ls) (hb : base' ≤ base) : TreeRC w base' w.heap.size tI tB AK k cK AD k cD gL k cLL ks ds ls :=
  ⟨own_base h.1 hb, own_base h.2.1 hb, own_base h.2.2.1 hb, h.2.2.2, fun q hq => (own_lt h.1 q hq).2, fun q hq => (own_lt h.2.1 q hq).2, fun q hq => (own_lt h.2.2.1 q hq).2⟩
end
end Go.Proofs.Ytifjihpnhmemgaa
