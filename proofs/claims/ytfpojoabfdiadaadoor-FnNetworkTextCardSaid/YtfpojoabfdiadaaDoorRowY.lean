/- What a row tells of a slice of bytes. -/
import Derived.Test.YtfpojoabfdiadaaDoorRow
import Derived.Test.YtfpojoabfdiadaaDoorCur
namespace Go.Proofs.YtfpojoabfdiadaaDoor
open Go.ChangeShapes Go.WideShapes Go.ChangeAt Go.RowKit Go.Joins Go.Deep
set_option linter.unusedVariables false
section
variable {H : Type} {enc : TypeId × Value → H} {P : Program} {W : World} {base : Nat}
theorem open_byteS {t e : TypeId} {v : Value} {d : DataW H} {p : List MemPlace} (ht : P.underlying t = some (.slice e)) (he : P.underlying e = some (.int .u8)) (hc : P.cellsOf e = 1)
    (hv : Value.okWide P W .any base t v) (h : DataW.Trod enc P W 0 (fun _ => true) true t v d p) :
    ∃ (A : Option Addr) (bs : List Nat) (c : Nat), v = .slice A bs.length c ∧ bs.length ≤ maxLen ∧ Reads W W.heap.size 1 A bs.length (byts bs) ∧ ∀ b ∈ bs, b ≤ 255 := by
  obtain ⟨a0, len, cap, rfl⟩ := okWide_slice ht hv
  obtain ⟨fuel, hf⟩ := h
  rcases open_ints ht he hc hf with ⟨hcs, hx⟩ | ⟨a, len', cap', zs, hcs, _, hl, hm, hz, hx, hcell, hwz⟩
  · simp [Value.cells] at hcs
    obtain ⟨rfl, rfl, rfl⟩ := hcs
    exact ⟨none, [], 0, rfl, by simp, Reads.none_, by simp⟩
  · simp [Value.cells] at hcs
    obtain ⟨rfl, rfl, rfl⟩ := hcs
    simp at hz
    have hw : ∀ z ∈ zs, 0 ≤ z ∧ z ≤ 255 := by
      intro z hzm
      have h := hwz z hzm
      simp [Lit.wf, IntKind.min, IntKind.max, IntKind.signed, IntKind.bits] at h
      omega
    have hlt : ((zs.take len).map Int.toNat).length = len := by simp; omega
    refine ⟨some a, (zs.take len).map Int.toNat, cap, by rw [hlt], by rw [hlt]; omega, ⟨by simp [byts_len], fun h0 => ?_⟩, fun b hb => ?_⟩
    · rw [hlt] at h0
      refine ⟨a, rfl, ?_, fun j u hu => ?_⟩
      · have := World.block_lt_of_cell? W _ (hcell 0 (by omega))
        rwa [block_of_add] at this
      · have hj : j < len := by
          have := (List.getElem?_eq_some_iff.1 hu).1
          rw [byts_len, hlt] at this
          exact this
        rw [hcell j (by omega)]
        rw [byts_get (by rw [hlt]; exact hj)] at hu
        simp only [List.getElem_map, List.getElem_take] at hu
        rw [← hu, List.getD_eq_getElem?_getD, List.getElem?_eq_getElem (by omega)]
        have := (hw _ (List.getElem_mem (show j < zs.length by omega))).1
        simp only [Option.getD_some]
        rw [Int.toNat_of_nonneg this]
    · obtain ⟨z, hz, rfl⟩ := List.mem_map.1 hb
      have := hw z (List.mem_of_mem_take hz)
      omega
end
end Go.Proofs.YtfpojoabfdiadaaDoor
