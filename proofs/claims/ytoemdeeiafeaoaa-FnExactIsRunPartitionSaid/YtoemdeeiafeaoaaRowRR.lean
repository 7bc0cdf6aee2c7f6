/- What a row tells of a list of lists of integers. -/
import Derived.Test.YtoemdeeiafeaoaaRow
import Derived.Test.YtoemdeeiafeaoaaNest
import Derived.Deep.Matrix
namespace Go.Proofs.Ytoemdeeiafeaoaa
open Go.ChangeShapes Go.WideShapes Go.ChangeAt Go.RowKit Go.Joins Go.Deep
set_option linter.unusedVariables false
section
variable {H : Type} {enc : TypeId × Value → H} {P : Program} {W : World} {base : Nat}
theorem open_intSS {t e q : TypeId} {v : Value} {d : DataW H} {p : List MemPlace} (ht : P.underlying t = some (.slice e)) (he : P.underlying e = some (.slice q)) (hq : P.underlying q = some (.int .i64)) (ce : P.cellsOf e = 1) (cq : P.cellsOf q = 1)
    (hv : Value.okWide P W .any base t v) (h : DataW.Trod enc P W 0 (fun _ => true) true t v d p) :
    ∃ (A : Option Addr) (zss : List (List Int)) (c : Nat), v = .slice A zss.length c ∧ zss.length ≤ maxLen ∧ (∀ zs ∈ zss, zs.length ≤ maxLen) ∧ ReadsRR W W.heap.size A zss := by
  obtain ⟨a0, len, cap, rfl⟩ := okWide_slice ht hv
  obtain ⟨fuel, hf⟩ := h
  rcases open_int_rows ht he hq ce cq hf with ⟨hcs, hx⟩ | ⟨a, len', cap', A, L, C, Z, hcs, _, hl, hm, hx, hr⟩
  · simp [Value.cells] at hcs
    obtain ⟨rfl, rfl, rfl⟩ := hcs
    exact ⟨none, [], 0, rfl, by simp, by simp, [], Reads.none_, by simp⟩
  · simp [Value.cells] at hcs
    obtain ⟨rfl, rfl, rfl⟩ := hcs
    have hzl : ∀ r, r < cap → ((Z r).take (L r)).length = L r := by
      intro r hrc
      obtain ⟨_, h1, _, h2, _⟩ := hr r hrc
      simp; omega
    have hlen : ((List.range len).map fun r => (Z r).take (L r)).length = len := by simp
    refine ⟨some a, (List.range len).map fun r => (Z r).take (L r), cap, by rw [hlen], by rw [hlen]; omega, ?_, (List.range len).map fun r => .slice (A r) (L r) (C r), ?_, ?_⟩
    · intro zs hzs
      obtain ⟨r, hrl, rfl⟩ := List.mem_map.1 hzs
      have hrl' : r < len := by simpa using hrl
      obtain ⟨_, h1, h3, _⟩ := hr r (by omega)
      rw [hzl r (by omega)]; omega
    · rw [hlen]
      refine ⟨by simp, fun h0 => ⟨a, rfl, ?_, fun j u hu => ?_⟩⟩
      · have := World.block_lt_of_cell? W _ (hr 0 (by omega)).1
        rwa [block_of_add] at this
      · have hj : j < len := by
          have := (List.getElem?_eq_some_iff.1 hu).1
          simpa using this
        rw [(hr j (by omega)).1, ← hu]
        simp [hj]
    · intro i u zs hu hz
      have hi : i < len := by
        have := (List.getElem?_eq_some_iff.1 hu).1
        simpa using this
      have hic : i < cap := by omega
      simp [hi] at hu hz
      subst hu hz
      refine ⟨A i, C i, by rw [hzl i hic], ?_⟩
      rw [hzl i hic]
      refine ⟨by rw [ints_length, hzl i hic, Nat.mul_one], fun h0 => ?_⟩
      obtain ⟨_, h1, _, h2, _, h3, h4⟩ := hr i hic
      cases hA : A i with
      | none => have := h3 hA; omega
      | some a' =>
        have h5 := (h4 a' hA).2
        refine ⟨a', rfl, ?_, fun j u hu => ?_⟩
        · have := World.block_lt_of_cell? W _ (h5 0 (by omega))
          rwa [block_of_add] at this
        · have hj : j < L i := by
            have := (List.getElem?_eq_some_iff.1 hu).1
            simp [ints] at this; omega
          rw [h5 j (by omega)]
          simp only [ints, List.getElem?_map, List.getElem?_take, if_pos hj] at hu
          rw [List.getElem?_eq_getElem (by omega)] at hu
          simp at hu
          rw [← hu, List.getD_eq_getElem?_getD, List.getElem?_eq_getElem (by omega)]
          rfl
end
end Go.Proofs.Ytoemdeeiafeaoaa
