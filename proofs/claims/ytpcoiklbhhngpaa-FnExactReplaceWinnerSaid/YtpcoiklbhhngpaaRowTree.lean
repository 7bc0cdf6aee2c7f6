/- What a row tells of a loser tree by value. -/
import Derived.Test.YtpcoiklbhhngpaaRow
import Derived.Test.YtpcoiklbhhngpaaRowB
import Derived.Test.YtpcoiklbhhngpaaTreeEq
namespace Go.Proofs.Ytpcoiklbhhngpaa
open Go.ChangeShapes Go.WideShapes Go.ChangeAt Go.RowKit Go.Joins Go.Deep
set_option linter.unusedVariables false
section
variable {H : Type} {enc : TypeId × Value → H} {P : Program} {W : World}
theorem open_intS_raw {t e : TypeId} {fuel : Nat} {v : Value} {x : DataW H × List MemPlace} (ht : P.underlying t = some (.slice e)) (he : P.underlying e = some (.int .i64)) (hc : P.cellsOf e = 1)
    (hf : DataW.trod enc P W 0 (fun _ => true) true fuel t [v] = some x) :
    ∃ (A : Option Addr) (zs : List Int) (c : Nat), v = .slice A zs.length c ∧ zs.length ≤ maxLen ∧ Reads W W.heap.size 1 A zs.length (ints zs) ∧ ∀ z ∈ zs, -9223372036854775808 ≤ z ∧ z ≤ 9223372036854775807 := by
  rcases open_ints ht he hc hf with ⟨hcs, hx⟩ | ⟨a, len, cap, zs, hcs, _, hl, hm, hz, hx, hcell, hwz⟩
  · simp at hcs
    subst hcs
    exact ⟨none, [], 0, rfl, by simp, Reads.none_, by simp⟩
  · simp at hcs
    subst hcs
    simp at hz
    have hlt : (zs.take len).length = len := by simp; omega
    refine ⟨some a, zs.take len, cap, by rw [hlt], by rw [hlt]; omega, ⟨by simp, fun h0 => ?_⟩, fun z hz => wf_i64_range (hwz z (List.mem_of_mem_take hz))⟩
    rw [hlt] at h0
    refine ⟨a, rfl, ?_, fun j u hu => ?_⟩
    · have := World.block_lt_of_cell? W _ (hcell 0 (by omega))
      rwa [block_of_add] at this
    · have hj : j < len := by
        have := (List.getElem?_eq_some_iff.1 hu).1
        simpa [hlt] using this
      rw [hcell j (by omega)]
      simp only [ints, List.getElem?_map, List.getElem?_take, if_pos hj] at hu
      rw [List.getElem?_eq_getElem (by omega)] at hu
      simp at hu
      rw [← hu, List.getD_eq_getElem?_getD, List.getElem?_eq_getElem (by omega)]
      rfl
theorem open_boolS_raw {t e : TypeId} {fuel : Nat} {v : Value} {x : DataW H × List MemPlace} (ht : P.underlying t = some (.slice e)) (he : P.underlying e = some .bool) (hc : P.cellsOf e = 1)
    (hf : DataW.trod enc P W 0 (fun _ => true) true fuel t [v] = some x) :
    ∃ (A : Option Addr) (zs : List Bool) (c : Nat), v = .slice A zs.length c ∧ zs.length ≤ maxLen ∧ Reads W W.heap.size 1 A zs.length (bools zs) := by
  rcases open_bools ht he hc hf with ⟨hcs, hx⟩ | ⟨a, len, cap, B, hcs, _, hl, hm, hx, hcell⟩
  · simp at hcs
    subst hcs
    exact ⟨none, [], 0, rfl, by simp, Reads.none_⟩
  · simp at hcs
    subst hcs
    have hlt : ((List.range len).map B).length = len := by simp
    refine ⟨some a, (List.range len).map B, cap, by rw [hlt], by rw [hlt]; omega, ⟨by simp, fun h0 => ?_⟩⟩
    rw [hlt] at h0
    refine ⟨a, rfl, ?_, fun j u hu => ?_⟩
    · have := World.block_lt_of_cell? W _ (hcell 0 (by omega))
      rwa [block_of_add] at this
    · have hj : j < len := by
        have := (List.getElem?_eq_some_iff.1 hu).1
        simpa using this
      rw [hcell j (by omega)]
      simp [bools, hj] at hu
      rw [← hu]
end
/-- a loser tree by value -/
theorem open_tree {H : Type} {enc : TypeId × Value → H} {W : World} {base : Nat} {v : Value} {d : DataW H} {p : List MemPlace}
    (hv : Value.okWide Try.prog W .any base 34 v) (h : DataW.Trod enc Try.prog W 0 (fun _ => true) true 34 v d p) :
    ∃ (AK : Option Addr) (ks : List Int) (cK : Nat) (AD : Option Addr) (ds : List Bool) (cD : Nat) (AL : Option Addr) (ls : List Int) (cL : Nat) (n : Int),
      v = .agg #[.slice AK ks.length cK, .slice AD ds.length cD, .slice AL ls.length cL, .int .i64 n] ∧ (ks.length ≤ maxLen ∧ ds.length ≤ maxLen ∧ ls.length ≤ maxLen) ∧
      ReadsT W W.heap.size AK ks.length AD ds.length AL ls.length ks ds ls := by
  obtain ⟨c0, c1, c2, c3, y0, y1, y2, y3, m, rfl, rfl, rfl, h0, h1, h2, h3⟩ := open_agg4 Try.underlying34 (by kernel_rfl) (by kernel_rfl) hv h
  obtain ⟨AK, ks, cK, rfl, mK, rK, _⟩ := open_intS_raw Try.underlying22 Try.underlying3 (by kernel_rfl) h0
  obtain ⟨AD, ds, cD, rfl, mD, rD⟩ := open_boolS_raw Try.underlying23 Try.underlying4 (by kernel_rfl) h1
  obtain ⟨AL, ls, cL, rfl, mL, rL, _⟩ := open_intS_raw Try.underlying22 Try.underlying3 (by kernel_rfl) h2
  obtain ⟨a, e0, rfl, w0⟩ := DataW.trod_int Try.underlying3 h3
  simp at e0
  subst e0
  exact ⟨AK, ks, cK, AD, ds, cD, AL, ls, cL, a, rfl, ⟨mK, mD, mL⟩, rK, rD, rL⟩
end Go.Proofs.Ytpcoiklbhhngpaa
