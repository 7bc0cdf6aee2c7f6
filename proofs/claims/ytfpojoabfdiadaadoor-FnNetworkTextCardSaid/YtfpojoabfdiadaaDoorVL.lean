/- The helpers of the laws: lists out of a code, and the comparing of lists. -/
import Derived.Test.YtfpojoabfdiadaaDoorDrawI
import Derived.Test.YtfpojoabfdiadaaDoorSort
namespace Go.Proofs.YtfpojoabfdiadaaDoor
open Go.RowKit
set_option linter.unusedVariables false
theorem cur_box {w : World} {A : Option Addr} {bs : List Nat} {c : Nat} (hr : Reads w w.heap.size 1 A bs.length (byts bs)) (hb : ∀ b ∈ bs, b ≤ 255) (hl : bs.length ≤ 65536) :
    Cur (w.alloc (.cells #[.slice A bs.length c, .int .i64 0, .int .u64 0] 61)) w.heap.size A bs c 0 :=
  ⟨⟨0, 0, Blk.new _ _ _, Nat.le_refl _, by omega, by omega⟩, hr.alloc (Nat.le_refl _) _, hb, hl⟩
/-- a call has returned a list of integers of its own -/
def GotL (tI : TypeId) (w : World) (p : List Int → Prop) (e : Ending) (w' : World) : Prop := ∃ v zs, e = .returned v ∧ w'.ownsRow w.heap.size tI 1 v zs.length (ints zs) ∧ p zs ∧ Below w.heap.size w w'
theorem GotL.mk {tI : TypeId} {w : World} {p : List Int → Prop} {e : Ending} {w' : World} (h : ∃ v zs, e = .returned v ∧ w'.ownsRow w.heap.size tI 1 v zs.length (ints zs) ∧ p zs ∧ Below w.heap.size w w') : GotL tI w p e w' := h
theorem vBig_any (A : Option Addr) (n c : Nat) (w : World) (hn : n ≤ maxLen) :
    Calls Tryd.prog 15 #[.slice A n c] w fun e w' => e = .returned (.bool (decide (65536 < n))) ∧ w = w' := by
  unfold maxLen at hn
  by_cases h : 65536 < n
  · have h2 : (65536 : Int) < n := by omega
    have HD := Lib.hid (show decide (65536 < n) = true by simpa using h)
    go_enter Tryd.func15, Tryd.ntmps15
    go_wp2
    go_ret
    exact ⟨retb HD.out.symm, rfl⟩
  · have h2 : ¬ (65536 : Int) < n := by omega
    have HD := Lib.hid (show decide (65536 < n) = false by simpa using h)
    go_enter Tryd.func15, Tryd.ntmps15
    go_wp2
    go_ret
    first | exact ⟨retb HD.out.symm, rfl⟩ | exact ⟨rfl, rfl⟩
end Go.Proofs.YtfpojoabfdiadaaDoor
