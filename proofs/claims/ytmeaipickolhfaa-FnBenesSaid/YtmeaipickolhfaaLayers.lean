/- The layers of a network: the program's and the reference's. -/
import Derived.Test.YtmeaipickolhfaaNetTo
namespace Go.Proofs.Ytmeaipickolhfaa
open Go.RowKit
set_option linter.unusedVariables false

/-- one comparator more: (the last layer on each wire, the layers so far) -/
def layStep (st : List Int × List Int) (c : Int × Int) : List Int × List Int :=
  let l := max (st.1[c.1.toNat]?.getD 0) (st.1[c.2.toNat]?.getD 0) + 1
  ((st.1.set c.1.toNat l).set c.2.toNat l, st.2 ++ [l])
def layFold (W : Int) (cs : List (Int × Int)) : List Int × List Int := cs.foldl layStep (List.replicate W.toNat 0, [])
def layersL (W : Int) (cs : List (Int × Int)) : List Int := (layFold W cs).2
theorem layFold_snoc (W : Int) (cs : List (Int × Int)) (c : Int × Int) : layFold W (cs ++ [c]) = layStep (layFold W cs) c := by simp [layFold]
theorem layFold_take (W : Int) (cs : List (Int × Int)) (k : Nat) (hk : k < cs.length) : layFold W (cs.take (k + 1)) = layStep (layFold W (cs.take k)) cs[k] := by
  rw [List.take_succ_eq_append_getElem hk, layFold_snoc]
theorem layFold_nil (W : Int) : layFold W [] = (List.replicate W.toNat 0, []) := rfl
theorem getD_mem {l : List Int} {P : Int → Prop} (h : ∀ x ∈ l, P x) (h0 : P 0) (i : Nat) : P (l[i]?.getD 0) := by
  by_cases hi : i < l.length
  · rw [List.getElem?_eq_getElem hi]; exact h _ (List.getElem_mem hi)
  · rw [List.getElem?_eq_none (by omega)]; exact h0
theorem layFold_inv (W : Int) (cs : List (Int × Int)) (k : Nat) (hk : k ≤ cs.length) :
    (layFold W (cs.take k)).1.length = W.toNat ∧ (∀ x ∈ (layFold W (cs.take k)).1, 0 ≤ x ∧ x ≤ k) ∧ (layFold W (cs.take k)).2.length = k ∧ (∀ x ∈ (layFold W (cs.take k)).2, 1 ≤ x ∧ x ≤ k) := by
  induction k with
  | zero => simp [layFold]
  | succ k ih =>
    obtain ⟨h1, h2, h3, h4⟩ := ih (by omega)
    rw [layFold_take W cs k (by omega)]
    have g1 := getD_mem (P := fun x => 0 ≤ x ∧ x ≤ (k : Int)) h2 (by omega) cs[k].1.toNat
    have g2 := getD_mem (P := fun x => 0 ≤ x ∧ x ≤ (k : Int)) h2 (by omega) cs[k].2.toNat
    simp only [layStep, List.length_set, List.length_append, List.length_singleton]
    refine ⟨h1, ?_, by omega, ?_⟩
    · intro x hx
      rcases List.mem_or_eq_of_mem_set hx with hx | rfl
      · rcases List.mem_or_eq_of_mem_set hx with hx | rfl
        · have := h2 x hx; omega
        · omega
      · omega
    · intro x hx
      rcases List.mem_append.1 hx with hx | hx
      · have := h4 x hx; omega
      · simp at hx; omega
theorem ints_one (zs : List Int) : ∀ u ∈ ints zs, u.oneCell' = true := by
  intro u hu; simp [ints] at hu; obtain ⟨z, _, rfl⟩ := hu; rfl
theorem ints_push {w : World} {B : Nat} {e : TypeId} {v : Value} {acc : List Int} {a : Int} (h : w.ownsRow B e 1 v (acc.length + 1) (ints acc ++ #[Value.int .i64 a].toList)) :
    w.ownsRow B e 1 v (acc ++ [a]).length (ints (acc ++ [a])) := by simpa [ints] using h
theorem cmpOk_iff {W : Int} {c : Int × Int} (h : cmpOk W c = true) : c.1 ≠ c.2 ∧ 0 ≤ c.1 ∧ c.1 < W ∧ 0 ≤ c.2 ∧ c.2 < W := by
  simp only [cmpOk, Bool.and_eq_true, Bool.not_eq_true', beq_eq_false_iff_ne] at h
  have := inB_iff.1 h.2.1
  have := inB_iff.1 h.2.2
  exact ⟨h.1, by omega, by omega, by omega, by omega⟩
theorem netOk_iff {W : Int} {cs : List (Int × Int)} (h : netOk W cs = true) : 1 ≤ W ∧ W ≤ 16 ∧ cs.length ≤ 200 ∧ ∀ c ∈ cs, cmpOk W c = true := by
  simp only [netOk, Bool.and_eq_true, decide_eq_true_eq, List.all_eq_true] at h
  have := inB_iff.1 h.1
  exact ⟨this.1, this.2, h.2.1, h.2.2⟩
end Go.Proofs.Ytmeaipickolhfaa
