/- The law on compaction, without a program: what is kept, where it stood, and what expansion puts back. -/
import Derived.Test.YtphcfjdhichfkaaExpW
import Derived.Test.YtphcfjdhichfkaaVC
namespace Go.Proofs.Ytphcfjdhichfkaa
open Go.RowKit
set_option linter.unusedVariables false
def kaL (bs : List Nat) (k : Nat) : List Bool := (List.range k).map fun i => decide (atV bs (i + 3) % 2 = 1)
theorem kaL_len (bs : List Nat) (k : Nat) : (kaL bs k).length = k := by simp [kaL]
theorem kaL_succ (bs : List Nat) (k : Nat) : kaL bs (k + 1) = kaL bs k ++ [decide (atV bs (k + 3) % 2 = 1)] := by simp [kaL, List.range_succ]
theorem kaL_get {bs : List Nat} {k i : Nat} (h : i < k) : (kaL bs k)[i]? = some (decide (atV bs (i + 3) % 2 = 1)) := by simp [kaL, h]
def posK (K : List Bool) (k : Nat) : List Int := ((List.range k).filter fun i => K[i]?.getD false).map fun i : Nat => (i : Int)
theorem posK_succ {K : List Bool} {k : Nat} (h : k < K.length) : posK K (k + 1) = posK K k ++ (if K[k] then [(k : Int)] else []) := by
  rw [posK, List.range_succ, List.filter_append, List.map_append]
  congr 1
  cases hk : K[k] <;> simp [hk, h]
theorem pos_len_le (K : List Bool) (k : Nat) : (posK K k).length ≤ k := by
  rw [posK, List.length_map]
  exact Nat.le_trans (List.length_filter_le _ _) (by simp)
/-- the list of the first k alone -/
theorem kept_pre {zs : List Int} {K : List Bool} {k : Nat} (b : Bool) (hz : k < zs.length) (hk : K.length = k) : picked zs (K ++ [b]) (k + 1) = picked zs K k ++ (if b then [zs[k]] else []) := by
  rw [picked_succ hz (by simp; omega)]
  congr 1
  · simp only [picked, List.zip, List.take_zipWith]
    rw [List.take_append_of_le_length (by omega)]
  · simp [← hk]
theorem posK_pre {K : List Bool} {k : Nat} (b : Bool) (hk : K.length = k) : posK (K ++ [b]) (k + 1) = posK K k ++ (if b then [(k : Int)] else []) := by
  rw [posK_succ (by simp; omega)]
  congr 1
  · simp only [posK]
    congr 1
    apply List.filter_congr
    intro i hi
    have := List.mem_range.1 hi
    rw [List.getElem?_append_left (by omega)]
  · simp [← hk]
theorem picked_prefix (zs : List Int) (K : List Bool) {m n : Nat} (h : m ≤ n) : ∃ r, picked zs K n = picked zs K m ++ r := by
  have : (zs.zip K).take n = (zs.zip K).take m ++ ((zs.zip K).take n).drop m := by
    rw [show (zs.zip K).take m = ((zs.zip K).take n).take m by rw [List.take_take, Nat.min_eq_left h]]
    exact (List.take_append_drop m _).symm
  have e := congrArg (fun l => (l.filter (·.2)).map (·.1)) this
  simp only [List.filter_append, List.map_append] at e
  exact ⟨_, e⟩
theorem posK_prefix (K : List Bool) {m n : Nat} (h : m ≤ n) : ∃ r, posK K n = posK K m ++ r := by
  induction n with
  | zero => obtain rfl : m = 0 := by omega
            exact ⟨[], by simp⟩
  | succ n ih =>
    by_cases he : m = n + 1
    · subst he; exact ⟨[], by simp⟩
    · obtain ⟨r, hr⟩ := ih (by omega)
      refine ⟨r ++ (((List.range (n + 1)).drop n).filter fun i => K[i]?.getD false).map fun i : Nat => (i : Int), ?_⟩
      rw [← List.append_assoc, ← hr, posK, posK, List.range_succ, List.filter_append, List.map_append]
      congr 1
      simp
theorem pos_len (zs : List Int) (K : List Bool) (h : K.length = zs.length) : ∀ k, k ≤ zs.length → (posK K k).length = (picked zs K k).length := by
  intro k
  induction k with
  | zero => intro _; simp [posK, picked]
  | succ k ih =>
    intro hk
    rw [posK_succ (by omega), picked_succ (by omega) (by omega), List.length_append, List.length_append, ih (by omega)]
    cases K[k] <;> simp
def expOut (zs : List Int) (K : List Bool) (n m : Nat) : List Int := (List.range n).map fun j => if j < m ∧ K[j]?.getD false = true then zs[j]?.getD 0 else 0
theorem exp_step (zs : List Int) (K : List Bool) (h : K.length = zs.length) : ∀ m, m ≤ zs.length → oeFold (picked zs K zs.length) (posK K zs.length) zs.length (picked zs K m).length = expOut zs K zs.length m := by
  intro m
  induction m with
  | zero =>
    intro _
    simp [picked, oeFold, expOut, List.map_const']
  | succ m ih =>
    intro hm
    have hih := ih (by omega)
    have hp := picked_succ (zs := zs) (ks := K) (k := m) (by omega) (by omega)
    have hq := posK_succ (K := K) (k := m) (by omega)
    have hex : expOut zs K zs.length (m + 1) = if K[m]'(by omega) then (expOut zs K zs.length m).set m (zs[m]'(by omega)) else expOut zs K zs.length m := by
      apply List.ext_getElem?
      intro j
      by_cases hj : j < zs.length
      · cases hkm : K[m]'(by omega)
        · simp only [Bool.false_eq_true, if_false, expOut, List.getElem?_map, List.getElem?_range hj, Option.map_some]
          congr 1
          by_cases hjm : j = m
          · subst hjm
            rw [if_neg, if_neg]
            · omega
            · rw [List.getElem?_eq_getElem (by omega), hkm]; simp
          · by_cases hlt : j < m
            · simp only [hlt, show j < m + 1 by omega, true_and]
            · simp only [hlt, show ¬ j < m + 1 by omega, false_and, if_false]
        · simp only [if_true, List.getElem?_set, expOut, List.length_map, List.length_range, List.getElem?_map, List.getElem?_range hj, Option.map_some]
          by_cases hjm : m = j
          · subst hjm
            rw [if_pos rfl, if_pos hj, if_pos ⟨by omega, by rw [List.getElem?_eq_getElem (by omega), hkm]; rfl⟩, List.getElem?_eq_getElem hj]
            rfl
          · rw [if_neg hjm]
            congr 1
            by_cases hlt : j < m
            · simp only [hlt, show j < m + 1 by omega, true_and]
            · simp only [hlt, show ¬ j < m + 1 by omega, false_and, if_false]
      · rw [List.getElem?_eq_none (by simp [expOut]; omega), List.getElem?_eq_none (by split <;> simp [expOut] <;> omega)]
    rw [hex]
    cases hkm : K[m]'(by omega)
    · rw [hkm] at hp
      simp only [Bool.false_eq_true, if_false, List.append_nil] at hp ⊢
      rw [hp, hih]
    · rw [hkm] at hp hq
      simp only [if_true] at hp hq ⊢
      obtain ⟨r, hr⟩ := picked_prefix zs K (show m + 1 ≤ zs.length by omega)
      obtain ⟨r', hr'⟩ := posK_prefix K (show m + 1 ≤ zs.length by omega)
      have hl := pos_len zs K h m (by omega)
      have e1 : (picked zs K zs.length)[(picked zs K m).length]? = some (zs[m]'(by omega)) := by
        rw [hr, hp, List.append_assoc, List.getElem?_append_right (Nat.le_refl _), Nat.sub_self]; rfl
      have e2 : (posK K zs.length)[(picked zs K m).length]? = some (m : Int) := by
        rw [hr', hq, List.append_assoc, ← hl, List.getElem?_append_right (Nat.le_refl _), Nat.sub_self]; rfl
      obtain ⟨l1, g1⟩ := List.getElem?_eq_some_iff.1 e1
      obtain ⟨l2, g2⟩ := List.getElem?_eq_some_iff.1 e2
      rw [hp, List.length_append, List.length_singleton, oeFold_succ l1 l2, hih, g1, g2]
      rfl
theorem exp_ok {zs : List Int} {K : List Bool} (hv : vList zs = true) (h : K.length = zs.length) : oeOk (picked zs K zs.length) (posK K zs.length) zs.length = true := by
  have h64 := vList_len hv
  have hvp : vList (picked zs K zs.length) = true := by
    simp only [vList, Bool.and_eq_true, decide_eq_true_eq] at hv ⊢
    refine ⟨Nat.le_trans (picked_len _ _ _) h64, ?_⟩
    rw [List.all_eq_true] at hv ⊢
    intro x hx
    obtain ⟨p, hp, rfl⟩ := List.mem_map.1 hx
    have hp1 := List.mem_of_mem_take (List.mem_filter.1 hp).1
    exact hv.2 _ (List.of_mem_zip hp1).1
  have hpw : (posK K zs.length).Pairwise (· < ·) := by
    unfold posK
    rw [List.pairwise_map]
    exact (List.Pairwise.filter _ (List.pairwise_lt_range)).imp fun h => by omega
  have hmem : ∀ x ∈ posK K zs.length, 0 ≤ x ∧ x ≤ (zs.length : Int) - 1 := by
    intro x hx
    obtain ⟨i, hi, rfl⟩ := List.mem_map.1 hx
    have := List.mem_range.1 (List.mem_filter.1 hi).1
    omega
  have htg : tgOk (posK K zs.length) zs.length = true := by
    rw [tgOk, List.all_eq_true]
    intro i hi
    have hil := List.mem_range.1 hi
    cases i with
    | zero => rw [tgAt_zero hil]; exact inB_iff.2 (hmem _ (List.getElem_mem hil))
    | succ j =>
      rw [tgAt_get hil, Bool.and_eq_true, decide_eq_true_eq]
      exact ⟨inB_iff.2 (hmem _ (List.getElem_mem hil)), List.pairwise_iff_getElem.1 hpw j (j + 1) (by omega) hil (by omega)⟩
  simp only [oeOk, Bool.and_eq_true, decide_eq_true_eq]
  exact ⟨hvp, inB_iff.2 (by omega), pos_len zs K h _ (Nat.le_refl _), htg⟩
theorem exp_val {zs : List Int} {K : List Bool} (hv : vList zs = true) (h : K.length = zs.length) : oeV (picked zs K zs.length) (posK K zs.length) zs.length = expOut zs K zs.length zs.length := by
  rw [oeV, if_pos (exp_ok hv h)]
  exact exp_step zs K h zs.length (Nat.le_refl _)
theorem expOut_get {zs : List Int} {K : List Bool} {i : Nat} (h : K.length = zs.length) (hi : i < zs.length) : (expOut zs K zs.length zs.length)[i]? = some (if K[i]'(by omega) then zs[i] else 0) := by
  simp only [expOut, List.getElem?_map, List.getElem?_range hi, Option.map_some]
  rw [List.getElem?_eq_getElem (show i < K.length by omega), List.getElem?_eq_getElem hi]
  simp [hi]
end Go.Proofs.Ytphcfjdhichfkaa
