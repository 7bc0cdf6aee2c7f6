/- What a row tells of a list of records and of a list of lists of records. -/
import Derived.Test.YtifjihpnhmemgaaRowNet
import Derived.Test.YtifjihpnhmemgaaNestQ
import Derived.Deep.Matrix
namespace Go.Proofs.Ytifjihpnhmemgaa
open Go.ChangeShapes Go.WideShapes Go.ChangeAt Go.RowKit Go.Joins Go.Deep
set_option linter.unusedVariables false
section
variable {H : Type} {enc : TypeId × Value → H} {P : Program} {W : World} {base : Nat}
theorem open_pairsS {t e ti : TypeId} {f0 f1 : Field} {v : Value} {d : DataW H} {p : List MemPlace} (ht : P.underlying t = some (.slice e)) (he : P.underlying e = some (.struct #[f0, f1]))
    (hone : oneCellFields P #[f0, f1] = true) (hC : P.cellsOf e = 2) (h0 : f0.type = ti) (h1 : f1.type = ti) (hti : P.underlying ti = some (.int .i64)) (hv : Value.okWide P W .any base t v) (h : DataW.Trod enc P W 0 (fun _ => true) true t v d p) :
    ∃ (A : Option Addr) (cs : List (Int × Int)) (c : Nat), v = .slice A cs.length c ∧ cs.length ≤ maxLen ∧ Reads W W.heap.size 2 A cs.length (cmps cs) := by
  obtain ⟨a0, len, cap, rfl⟩ := okWide_slice ht hv
  obtain ⟨fuel, hf⟩ := h
  obtain ⟨A, cs, c, e1, h2, h3, -⟩ := open_pairs ht he hone hC h0 h1 hti hf
  exact ⟨A, cs, c, e1, h2, h3⟩
theorem open_pairsSS {t e q ti : TypeId} {f0 f1 : Field} {v : Value} {d : DataW H} {p : List MemPlace} (ht : P.underlying t = some (.slice e)) (he : P.underlying e = some (.slice q)) (hq : P.underlying q = some (.struct #[f0, f1]))
    (hone : oneCellFields P #[f0, f1] = true) (ce : P.cellsOf e = 1) (hC : P.cellsOf q = 2) (h0 : f0.type = ti) (h1 : f1.type = ti) (hti : P.underlying ti = some (.int .i64)) (hv : Value.okWide P W .any base t v) (h : DataW.Trod enc P W 0 (fun _ => true) true t v d p) :
    ∃ (A : Option Addr) (zss : List (List (Int × Int))) (c : Nat), v = .slice A zss.length c ∧ zss.length ≤ maxLen ∧ (∀ zs ∈ zss, zs.length ≤ maxLen) ∧ ReadsQQ W W.heap.size A zss := by
  obtain ⟨a0, len, cap, rfl⟩ := okWide_slice ht hv
  obtain ⟨fuel, hf⟩ := h
  rcases open_slice1 ht ce hf with ⟨hcs, _⟩ | ⟨a, len', cap', m, n, V, D, Pl, hcs, hb, hl, hm, hmm, _, hx⟩
  · simp [Value.cells] at hcs
    obtain ⟨rfl, rfl, rfl⟩ := hcs
    exact ⟨none, [], 0, rfl, by simp, by simp, [], Reads.none_, by simp⟩
  · simp [Value.cells] at hcs
    obtain ⟨rfl, rfl, rfl⟩ := hcs
    simp only [if_true] at hmm
    have each : ∀ r, r < len → ∃ y : Option Addr × List (Int × Int) × Nat, V r = .slice y.1 y.2.1.length y.2.2 ∧ y.2.1.length ≤ maxLen ∧ Reads W W.heap.size 2 y.1 y.2.1.length (cmps y.2.1) := by
      intro r hr
      obtain ⟨A, cs, c, e1, h2, h3, -⟩ := open_pairs he hq hone hC h0 h1 hti (hx r (by omega)).2
      exact ⟨(A, cs, c), e1, h2, h3⟩
    obtain ⟨y, hy⟩ := choose_lt each
    have hlen : ((List.range len).map fun r => (y r).2.1).length = len := by simp
    refine ⟨some a, (List.range len).map fun r => (y r).2.1, cap, by rw [hlen], by rw [hlen]; omega, ?_, (List.range len).map V, ?_, ?_⟩
    · intro zs hzs
      obtain ⟨r, hrl, rfl⟩ := List.mem_map.1 hzs
      exact (hy r (by simpa using hrl)).2.1
    · rw [hlen]
      refine ⟨by simp, fun hn => ⟨a, rfl, ?_, fun j u hu => ?_⟩⟩
      · have := World.block_lt_of_cell? W _ (hx 0 (by omega)).1
        rwa [block_of_add] at this
      · have hj : j < len := by
          have := (List.getElem?_eq_some_iff.1 hu).1
          simpa using this
        rw [(hx j (by omega)).1, ← hu]
        simp [hj]
    · intro i u zs hu hz
      have hi : i < len := by
        have := (List.getElem?_eq_some_iff.1 hu).1
        simpa using this
      simp [hi] at hu hz
      subst hu hz
      obtain ⟨e1, h2, h3⟩ := hy i hi
      exact ⟨(y i).1, (y i).2.2, e1, h3⟩
end
theorem open_recS {H : Type} {enc : TypeId × Value → H} {W : World} {base : Nat} {v : Value} {d : DataW H} {p : List MemPlace} (hv : Value.okWide Try.prog W .any base 34 v) (h : DataW.Trod enc Try.prog W 0 (fun _ => true) true 34 v d p) :
    ∃ (A : Option Addr) (cs : List (Int × Int)) (c : Nat), v = .slice A cs.length c ∧ cs.length ≤ maxLen ∧ Reads W W.heap.size 2 A cs.length (cmps cs) :=
  open_pairsS Try.underlying34 Try.underlying50 (by kernel_rfl) (by kernel_rfl) rfl rfl Try.underlying3 hv h
theorem open_recSS {H : Type} {enc : TypeId × Value → H} {W : World} {base : Nat} {v : Value} {d : DataW H} {p : List MemPlace} (hv : Value.okWide Try.prog W .any base 22 v) (h : DataW.Trod enc Try.prog W 0 (fun _ => true) true 22 v d p) :
    ∃ (A : Option Addr) (zss : List (List (Int × Int))) (c : Nat), v = .slice A zss.length c ∧ zss.length ≤ maxLen ∧ (∀ zs ∈ zss, zs.length ≤ maxLen) ∧ ReadsQQ W W.heap.size A zss :=
  open_pairsSS Try.underlying22 Try.underlying34 Try.underlying50 (by kernel_rfl) (by kernel_rfl) (by kernel_rfl) rfl rfl Try.underlying3 hv h
end Go.Proofs.Ytifjihpnhmemgaa
