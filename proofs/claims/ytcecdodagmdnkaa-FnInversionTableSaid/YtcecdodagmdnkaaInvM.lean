/- Plain mathematics of inversions and descents. -/
import Derived.Test.YtcecdodagmdnkaaLib
namespace Go.Proofs.Ytcecdodagmdnkaa
open Go.RowKit
set_option linter.unusedVariables false
/-- how many lesser elements stand behind place i -/
def lessAt (zs : List Int) (i : Nat) : Nat := (zs.drop (i + 1)).countP fun y => decide (y < zs[i]?.getD 0)
def invTab (zs : List Int) : List Int := (List.range zs.length).map fun i : Nat => (lessAt zs i : Int)
def descB (zs : List Int) (i : Nat) : Bool := decide (zs[i + 1]?.getD 0 < zs[i]?.getD 0)
def descN (zs : List Int) : List Nat := (List.range (zs.length - 1)).filter (descB zs)
def descL (zs : List Int) : List Int := (descN zs).map fun i : Nat => (i : Int)
theorem invTab_len (zs : List Int) : (invTab zs).length = zs.length := by simp [invTab]
theorem lessAt_le (zs : List Int) (i : Nat) : lessAt zs i ≤ zs.length := by
  unfold lessAt
  exact Nat.le_trans List.countP_le_length (by simp)
theorem invTab_bd (zs : List Int) : ∀ x ∈ invTab zs, 0 ≤ x ∧ x ≤ (zs.length : Int) := by
  intro x hx
  simp only [invTab, List.mem_map] at hx
  obtain ⟨i, _, rfl⟩ := hx
  have := lessAt_le zs i
  omega
theorem descN_len (zs : List Int) : (descN zs).length ≤ zs.length := by
  unfold descN
  exact Nat.le_trans (List.length_filter_le _ _) (by simp)
theorem descL_len (zs : List Int) : (descL zs).length = (descN zs).length := by simp [descL]
theorem descN_mem {zs : List Int} {j : Nat} (h : j ∈ descN zs) : j + 1 < zs.length ∧ zs[j + 1]?.getD 0 < zs[j]?.getD 0 := by
  simp only [descN, List.mem_filter, List.mem_range, descB, decide_eq_true_eq] at h
  omega
theorem descN_lt (zs : List Int) : (descN zs).Pairwise (· < ·) := List.Pairwise.filter _ List.pairwise_lt_range
theorem desc_less {zs : List Int} {i : Nat} (hi : i + 1 < zs.length) (h : descB zs i = true) : 1 ≤ lessAt zs i := by
  unfold lessAt
  simp only [descB, decide_eq_true_eq] at h
  rw [Nat.succ_le_iff, List.countP_pos_iff]
  refine ⟨zs[i + 1], ?_, ?_⟩
  · rw [List.drop_eq_getElem_cons hi]; exact List.mem_cons_self
  · rw [List.getElem?_eq_getElem hi] at h
    simpa using h
theorem desc_count (zs : List Int) : ∀ k, k + 1 ≤ zs.length ∨ k = 0 → ((List.range k).filter (descB zs)).length ≤ ((List.range k).map (lessAt zs)).sum := by
  intro k
  induction k with
  | zero => intro _; simp
  | succ k ih =>
    intro hk
    have h1 := ih (by omega)
    rw [List.range_succ, List.filter_append, List.map_append, List.length_append, List.sum_append]
    cases hd : descB zs k
    · simp [hd]; omega
    · have := desc_less (i := k) (by omega) hd
      simp [hd]; omega
theorem invTab_sum (zs : List Int) : (invTab zs).sum = (((List.range zs.length).map (lessAt zs)).sum : Nat) := by
  unfold invTab
  generalize List.range zs.length = l
  induction l with
  | nil => rfl
  | cons a l ih => simp only [List.map_cons, List.sum_cons, ih]; omega
theorem desc_le_inv (zs : List Int) : ((descL zs).length : Int) ≤ (invTab zs).sum := by
  rw [descL_len, invTab_sum]
  have h := desc_count zs (zs.length - 1) (by omega)
  have h2 : ((List.range (zs.length - 1)).map (lessAt zs)).sum ≤ ((List.range zs.length).map (lessAt zs)).sum := by
    rcases Nat.eq_zero_or_pos zs.length with h0 | h0
    · rw [h0]; simp
    · obtain ⟨n, hn⟩ : ∃ n, zs.length = n + 1 := ⟨zs.length - 1, by omega⟩
      rw [hn, Nat.add_sub_cancel, List.range_succ, List.map_append, List.sum_append]; omega
  have h3 : (descN zs).length ≤ ((List.range zs.length).map (lessAt zs)).sum := Nat.le_trans h h2
  omega
theorem asc_of_nodesc {zs : List Int} (h : descN zs = []) : ∀ i d, i + d < zs.length → zs[i]?.getD 0 ≤ zs[i + d]?.getD 0 := by
  intro i d
  induction d with
  | zero => intro _; exact Int.le_refl _
  | succ d ih =>
    intro hi
    have h1 := ih (by omega)
    have h2 : descB zs (i + d) ≠ true := by
      intro h3
      have : (i + d) ∈ descN zs := by
        simp only [descN, List.mem_filter, List.mem_range]
        exact ⟨by omega, h3⟩
      rw [h] at this; cases this
    simp only [descB, ne_eq, decide_eq_true_eq] at h2
    rw [show i + (d + 1) = i + d + 1 by omega]
    omega
theorem less_zero {zs : List Int} (h : descN zs = []) (i : Nat) (hi : i < zs.length) : lessAt zs i = 0 := by
  unfold lessAt
  rw [List.countP_eq_zero]
  intro y hy
  obtain ⟨j, hj, rfl⟩ := List.getElem_of_mem hy
  simp only [List.length_drop] at hj
  have := asc_of_nodesc h i (1 + j) (by omega)
  rw [show i + (1 + j) = i + 1 + j by omega, List.getElem?_eq_getElem (show i + 1 + j < zs.length by omega), Option.getD_some] at this
  simp only [List.getElem_drop, decide_eq_true_eq]
  omega
theorem desc_none (zs : List Int) : ((descL zs).length == 0) = ((invTab zs).sum == 0) := by
  have h := desc_le_inv zs
  rw [Bool.eq_iff_iff]
  simp only [beq_iff_eq]
  constructor
  · intro h0
    rw [descL_len] at h0
    have h1 : descN zs = [] := List.eq_nil_of_length_eq_zero h0
    rw [invTab_sum]
    have : ((List.range zs.length).map (lessAt zs)).sum = 0 := by
      rw [List.sum_eq_zero_iff_forall_eq_nat]
      intro x hx
      simp only [List.mem_map, List.mem_range] at hx
      obtain ⟨i, hi, rfl⟩ := hx
      exact less_zero h1 i hi
    omega
  · intro h0; omega
theorem range_snoc {α : Type} (f : Nat → α) (k : Nat) : (List.range (k + 1)).map f = (List.range k).map f ++ [f k] := by rw [List.range_succ, List.map_append]; rfl
end Go.Proofs.Ytcecdodagmdnkaa
