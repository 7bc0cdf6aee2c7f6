/- Lists of lists of integers, as the walks of the laws use them. -/
import Derived.Test.YtifjihpnhmemgaaNest
namespace Go.Proofs.Ytifjihpnhmemgaa
open Go.RowKit
set_option linter.unusedVariables false
/-- a list of lists of one's own, all its blocks from base to C -/
def OwnsRC (w : World) (base C : Nat) (to t : TypeId) (v : Value) (zss : List (List Int)) : Prop :=
  ∃ vals, w.ownsRow base to 1 v zss.length vals ∧ Inner w base t vals zss ∧ (∀ k, v.ownBlock = some k → k < C) ∧ ∀ u ∈ vals, ∀ k, u.ownBlock = some k → k < C
section
variable {w w' w1 : World} {base base' B C D : Nat} {t to e : TypeId} {zss : List (List Int)} {v : Value}
theorem OwnsRC.born (h : OwnsRR w base to t v zss) (hb : base' ≤ base) : OwnsRC w base' w.heap.size to t v zss := by
  obtain ⟨vals, h1, h2⟩ := h
  exact ⟨vals, own_base h1 hb, h2.base' hb, fun k hk => (own_lt h1 k hk).2, fun u hu k hk => (h2.lt hu k hk).2⟩
theorem OwnsRC.below (h : OwnsRC w base C to t v zss) (hb : Below B w w') (hB : w.heap.size ≤ B) : OwnsRC w' base C to t v zss := by
  obtain ⟨vals, h1, h2, h3, h4⟩ := h
  exact ⟨vals, own_below h1 hb hB, h2.below hb hB, h3, h4⟩
theorem ReadsRR.of_rc {A : Option Addr} {n c : Nat} (h : OwnsRC w base C to t (.slice A n c) zss) : ReadsRR w w.heap.size A zss := by
  obtain ⟨vals, h1, h2, _, _⟩ := h
  obtain ⟨A', c', hv⟩ := own_slice h1
  simp only [Value.slice.injEq] at hv
  obtain ⟨rfl, rfl, rfl⟩ := hv
  exact ReadsRR.of_own ⟨vals, h1, h2⟩
theorem OwnsRC.kept {row : Option Nat} (h : OwnsRC w base C to t v zss) (hg : w.grownBy w' row) (hr : ∀ k, row = some k → k < base ∨ C ≤ k) : OwnsRC w' base C to t v zss := by
  obtain ⟨vals, h1, h2, h3, h4⟩ := h
  have key : ∀ x : Value, (∀ k, x.ownBlock = some k → base ≤ k ∧ k < C) → x.ownBlock = none ∨ x.ownBlock ≠ row := by
    intro x hx
    cases hk : x.ownBlock with
    | none => exact .inl rfl
    | some k => exact .inr fun e => by have := hr k e.symm; have := hx k hk; omega
  exact ⟨vals, h1.kept hg (key v fun k hk => ⟨(own_lt h1 k hk).1, h3 k hk⟩), h2.kept hg (fun u hu => key u fun k hk => ⟨(h2.lt hu k hk).1, h4 u hu k hk⟩), h3, h4⟩
/-- kept while an older row turns -/
theorem OwnsRC.kept_old {size n base1 : Nat} {x : Value} {xs : List Value} (h : OwnsRC w base C to t v zss) (h1 : w1.ownsRow base1 e size x n xs) (hg : w.grownBy w' x.ownBlock) (hb : w1.heap.size ≤ base) : OwnsRC w' base C to t v zss :=
  h.kept hg fun k hk => .inl (Nat.lt_of_lt_of_le (own_lt h1 k hk).2 hb)
theorem OwnsRC.kept_new {size n base1 : Nat} {x : Value} {xs : List Value} (h : OwnsRC w base C to t v zss) (h1 : w1.ownsRow base1 e size x n xs) (hg : w.grownBy w' x.ownBlock) (hb : C ≤ base1) : OwnsRC w' base C to t v zss :=
  h.kept hg fun k hk => .inr (Nat.le_trans hb (own_lt h1 k hk).1)
theorem OwnsRC.mid (h : OwnsRC w base C to t v zss) (hm : Mid B D w w') (hv : C ≤ B ∨ D ≤ base) : OwnsRC w' base C to t v zss := by
  obtain ⟨vals, h1, h2, h3, h4⟩ := h
  have key : ∀ k, base ≤ k → k < C → k < B ∨ D ≤ k := fun k h5 h6 => by omega
  exact ⟨vals, hm.own h1 fun k hk => key k (own_lt h1 k hk).1 (h3 k hk), h2.map fun u zs hu ho => hm.own ho fun k hk => key k (own_lt ho k hk).1 (h4 u hu k hk), h3, h4⟩
end
theorem Mid.below' {B C D : Nat} {w w' : World} (h : Mid B C w w') (hB : D ≤ B) (hw : D ≤ w.heap.size) : Below D w w' := ⟨h.os, h.tape, h.output, h.size, fun k hk => h.block k (by omega) (.inl (by omega))⟩
end Go.Proofs.Ytifjihpnhmemgaa
