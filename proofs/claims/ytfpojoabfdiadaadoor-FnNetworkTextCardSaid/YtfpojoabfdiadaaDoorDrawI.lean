/- Lists of integers out of the cursor. -/
import Derived.Test.YtfpojoabfdiadaaDoorCur
import Derived.Deep.DeepCutAuto
namespace Go.Proofs.YtfpojoabfdiadaaDoor
open Go.RowKit
set_option linter.unusedVariables false
theorem lit_hold {w w' : World} {T : TypeId} {zs : List Int} {p : Nat} (hp : p < w.heap.size) (hg : (w.alloc (.cells (ints zs).toArray T)).grownBy w' (some p)) :
    Reads w' (w.alloc (.cells (ints zs).toArray T)).heap.size 1 (some ⟨w.heap.size, 0, none⟩) zs.length (ints zs) := by
  have hb := (Blk.new w T (ints zs).toArray).grown hg (by intro e; have := Option.some.inj e; omega)
  refine ⟨by simp, fun _ => ⟨_, rfl, by simp, fun j u hu => ?_⟩⟩
  have hadd : (⟨w.heap.size, 0, none⟩ : Addr).add j = ⟨w.heap.size, j, none⟩ := by unfold Addr.add; split <;> simp_all
  rw [hadd, hb.cell]
  simpa using hu
/-- what may come out of a draw -/
def smallI (zs : List Int) : Prop := ∀ z ∈ zs, -1099511627776 ≤ z ∧ z ≤ 1099511627776
theorem smallI_push {zs : List Int} {z : Int} (h : smallI zs) (hz : -1099511627776 ≤ z ∧ z ≤ 1099511627776) : smallI (zs ++ [z]) := by
  intro y hy
  rcases List.mem_append.1 hy with h1 | h1
  · exact h y h1
  · rw [List.mem_singleton.1 h1]; exact hz
theorem smallI_nil : smallI [] := by intro z hz; cases hz
theorem ints_snoc (zs : List Int) (z : Int) : ints zs ++ (#[Value.int .i64 z] : Array Value).toList = ints (zs ++ [z]) := by simp [ints]
end Go.Proofs.YtfpojoabfdiadaaDoor
