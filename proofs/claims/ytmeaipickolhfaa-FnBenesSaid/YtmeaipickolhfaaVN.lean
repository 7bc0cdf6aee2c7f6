/- Two equal networks compared by the laws. -/
import Derived.Test.YtmeaipickolhfaaNet
import Derived.Test.YtmeaipickolhfaaPush
import Derived.Test.YtmeaipickolhfaaVL
import Derived.BigQuiet
import Derived.Deep.QuietTactic
namespace Go.Proofs.Ytmeaipickolhfaa
open Go.RowKit
set_option linter.unusedVariables false
theorem own_dn {w : World} {base : Nat} {e : TypeId} {size n : Nat} {v : Value} {xs : List Value} (h : w.ownsRow base e size v n xs) (k : Nat) : (w.drewN k).ownsRow base e size v n xs := h
theorem vInts_n (A B : Option Addr) (xs : List Int) (n c d : Nat) (w : World) (hn : xs.length = n) (hl : n ≤ 65536) (hx : Reads w w.heap.size 1 A n (ints xs)) (hy : Reads w w.heap.size 1 B n (ints xs)) :
    Calls Try.prog 23 #[.slice A n c, .slice B n d] w fun e w' => e = .returned (.bool true) ∧ ∃ n, w' = w.drewN n := by
  subst hn
  refine (vInts_any A B xs xs c d w hx hy (by omega) (by omega)).mono ?_
  rintro e w' ⟨rfl, h⟩
  exact ⟨by simp, h⟩
end Go.Proofs.Ytmeaipickolhfaa
