/- The matches of a tree: the program's side. -/
import Derived.Test.YtmeaipickolhfaaTree
namespace Go.Proofs.Ytmeaipickolhfaa
open Go.RowKit
set_option linter.unusedVariables false
theorem grown_step {w w1 w2 : World} {row row2 : Option Nat} (h : w.grownBy w1 row) (h2 : w1.grownBy w2 row2) (hr : ∀ k, row2 = some k → some k = row ∨ w.heap.size ≤ k) : w.grownBy w2 row :=
  ⟨h2.os.trans h.os, h2.tape.trans h.tape, h2.output.trans h.output, Nat.le_trans h.size h2.size, fun k hk hne =>
    (h2.block k (Nat.lt_of_lt_of_le hk h.size) (fun e => by rcases hr k e.symm with h3 | h3; exact hne h3; omega)).trans (h.block k hk hne)⟩
theorem grown_set {w w1 : World} {p : Nat} (h : w.grownBy w1 (some p)) (i : Nat) (u : Value) : w.grownBy (w1.setCell ⟨p, i, none⟩ u) (some p) :=
  grown_step h (row2 := some p) ⟨rfl, rfl, rfl, by simp [World.setCell], fun k hk hne => Below.heap_setCell w1 _ u k (by rintro rfl; exact hne rfl)⟩ (fun k hk => .inl hk.symm)
theorem play_carry {w wr w6 : World} {n0 p B1 B2 k1 k2 : Nat} {T t : TypeId} {cs : Array Value} {v1 v2 : Value} {xs ys : List Value} {row : Option Nat} (h6 : ∃ n, w6 = (wr.drewN n0).drewN n) (hblk : Blk wr p T cs)
    (h1 : wr.ownsRow B1 t 1 v1 k1 xs) (h2 : wr.ownsRow B2 t 1 v2 k2 ys) (hg : w.grownBy wr row) : Blk w6 p T cs ∧ w6.ownsRow B1 t 1 v1 k1 xs ∧ w6.ownsRow B2 t 1 v2 k2 ys ∧ w.grownBy w6 row := by
  obtain ⟨n, rfl⟩ := h6
  exact ⟨hblk, h1, h2, ⟨hg.os, hg.tape, hg.output, hg.size, hg.block⟩⟩
end Go.Proofs.Ytmeaipickolhfaa
