/- The runs of every method, plain: they are run partitions, and replacement selection makes no more runs than batches. -/
import Derived.Test.YtecbagdljgnloaaRsF
import Derived.Test.YtecbagdljgnloaaMRuns
import Derived.Test.YtecbagdljgnloaaRuns
import Derived.Test.YtecbagdljgnloaaSum
import Derived.IntWalk
namespace Go.Proofs.Ytecbagdljgnloaa
open Go.RowKit
set_option linter.unusedVariables false
theorem btF_ge {zs : List Int} {m : Nat} (hm : 0 < m) : ∀ f k, zs.length - k ≤ f → zs.length - k ≤ m * (btF zs m f k).length
  | 0, k, h => by omega
  | f + 1, k, h => by
    by_cases hk : k < zs.length
    · rw [btF_step hk, List.length_cons, Nat.mul_succ]
      have := btF_ge (zs := zs) hm f (k + m) (by omega)
      omega
    · omega
theorem rp_le_bt (zs : List Int) (m : Int) : (rpV zs m).length ≤ (btV zs m).length := by
  by_cases h : memOk zs m = true
  · obtain ⟨-, h64, h1, -⟩ := memOk_iff h
    have h2 := rs_count (rp_out h) (by omega)
    have h3 := btF_ge (zs := zs) (m := m.toNat) (by omega) 64 0 (by omega)
    unfold btV
    rw [if_pos h]
    refine Nat.le_trans h2 (Nat.le_of_lt_succ ?_)
    rw [Nat.div_lt_iff_lt_mul (by omega), Nat.succ_mul, Nat.mul_comm]
    omega
  · unfold rpV
    rw [if_neg h]
    exact Nat.zero_le _
theorem rp_long (zs : List Int) (m : Int) : ∀ i, i + 1 < (rpV zs m).length → ∀ r, (rpV zs m)[i]? = some r → m ≤ (r.length : Int) := by
  intro i hi r hr
  by_cases h : memOk zs m = true
  · have := (rp_out h).long i hi r hr
    have h1 := memOk_iff h
    omega
  · unfold rpV at hi
    rw [if_neg h] at hi
    simp at hi
/-- runs that ascend, are not empty and hold the list's elements -/
structure Parts (zs : List Int) (zss : List (List Int)) : Prop where
  perm : zss.flatten.Perm zs
  asc_ : ∀ r ∈ zss, asc r ∧ 0 < r.length
theorem asc_desc {r : List Int} (h : asc r) : decide (desc r < 0) = true := by
  rw [desc_neg]
  unfold ascB
  rw [List.all_eq_true]
  intro i hi
  have hi2 : i + 1 < r.length := by have := List.mem_range.1 hi; omega
  rw [decide_eq_true_eq, List.getElem?_eq_getElem (show i < r.length by omega), List.getElem?_eq_getElem hi2]
  exact List.pairwise_iff_getElem.1 h i (i + 1) (by omega) hi2 (by omega)
theorem Parts.ok {zs : List Int} {zss : List (List Int)} (h : Parts zs zss) (hv : vList zs = true) : rOk zss = true ∧ irV zs zss = true ∧ mrV zss = srt zs := by
  have hl : zs.length ≤ 64 := by simp [vList] at hv; exact hv.1
  have hk : zs.all keyB = true := by rw [← vList_short hl]; exact hv
  have hr : rOk zss = true := by
    unfold rOk
    rw [Bool.and_eq_true]
    constructor
    · rw [List.all_eq_true]
      intro r hr
      have h1 := h.asc_ r hr
      have hsub : ∀ x ∈ r, x ∈ zs := fun x hx => h.perm.mem_iff.1 (List.mem_flatten.2 ⟨r, hr, hx⟩)
      have hlen : r.length ≤ 64 := by
        have h2 := (List.sublist_flatten_of_mem hr).length_le
        have := h.perm.length_eq
        omega
      unfold runOk
      rw [Bool.and_eq_true, Bool.and_eq_true]
      refine ⟨⟨decide_eq_true h1.2, ?_⟩, asc_desc h1.1⟩
      rw [vList_short hlen, List.all_eq_true]
      exact fun x hx => List.all_eq_true.1 hk x (hsub x hx)
    · rw [decide_eq_true_eq, ← flat_len, h.perm.length_eq]
      exact hl
  refine ⟨hr, ?_, ?_⟩
  · unfold irV
    rw [hv, hr, srt_congr h.perm]
    simp
  · unfold mrV
    rw [if_pos hr, srt_congr h.perm]
theorem parts_rp {zs : List Int} {m : Int} (h : memOk zs m = true) : Parts zs (rpV zs m) := ⟨(rp_out h).perm, (rp_out h).asc_⟩
theorem srt_asc (zs : List Int) : asc (srt zs) := srt_pair zs
theorem btF_parts {zs : List Int} {m : Nat} (hm : 0 < m) : ∀ f k, zs.length - k ≤ f → (btF zs m f k).flatten.Perm (zs.drop k) ∧ ∀ r ∈ btF zs m f k, asc r ∧ 0 < r.length
  | 0, k, h => by
    rw [List.drop_of_length_le (by omega)]
    simp [btF]
  | f + 1, k, h => by
    by_cases hk : k < zs.length
    · rw [btF_step hk]
      obtain ⟨h1, h2⟩ := btF_parts (zs := zs) hm f (k + m) (by omega)
      constructor
      · rw [List.flatten_cons]
        have h3 : ((zs.drop k).take m ++ zs.drop (k + m)).Perm (zs.drop k) := by
          rw [← List.drop_drop, List.take_append_drop]
        exact ((srt_perm _).append h1).trans h3
      · intro r hr
        rcases List.mem_cons.1 hr with rfl | hr
        · refine ⟨srt_asc _, ?_⟩
          rw [srt_len, List.length_take, List.length_drop]
          omega
        · exact h2 r hr
    · rw [btF_stop hk, List.drop_of_length_le (by omega)]
      simp
theorem parts_bt {zs : List Int} {m : Int} (h : memOk zs m = true) : Parts zs (btV zs m) := by
  obtain ⟨-, h64, h1, -⟩ := memOk_iff h
  have := btF_parts (zs := zs) (m := m.toNat) (by omega) 64 0 (by omega)
  unfold btV
  rw [if_pos h]
  exact ⟨by simpa using this.1, this.2⟩
theorem arun_parts (zs : List Int) : ∀ k, k < zs.length → ∃ A l, arun zs (k + 1) = A ++ [l ++ [zs[k]?.getD 0]] ∧ (arun zs (k + 1)).flatten = zs.take (k + 1) ∧ (∀ r ∈ A, asc r ∧ 0 < r.length) ∧ asc (l ++ [zs[k]?.getD 0])
  | 0, h => by
    refine ⟨[], [], ?_, ?_, by simp, List.pairwise_singleton _ _⟩
    · rw [arun_new (.inl rfl)]; rfl
    · rw [arun_new (.inl rfl)]
      cases zs with
      | nil => simp at h
      | cons a l => simp [arun]
  | k + 1, h => by
    obtain ⟨A, l, h1, h2, h3, h4⟩ := arun_parts zs k (by omega)
    have htk : zs.take (k + 1 + 1) = zs.take (k + 1) ++ [zs[k + 1]?.getD 0] := by
      rw [List.take_succ_eq_append_getElem h, List.getElem?_eq_getElem h]; rfl
    by_cases hc : k + 1 = 0 ∨ zs[k + 1]?.getD 0 < zs[k + 1 - 1]?.getD 0
    · refine ⟨arun zs (k + 1), [], ?_, ?_, ?_, List.pairwise_singleton _ _⟩
      · rw [arun_new hc]; rfl
      · rw [arun_new hc, List.flatten_append, h2, htk]; simp
      · rw [h1]
        intro r hr
        rcases List.mem_append.1 hr with hr | hr
        · exact h3 r hr
        · rw [List.mem_singleton.1 hr]; exact ⟨h4, by simp⟩
    · have hge : zs[k]?.getD 0 ≤ zs[k + 1]?.getD 0 := by
        rw [Nat.add_sub_cancel] at hc
        omega
      have hst : arun zs (k + 1 + 1) = A ++ [(l ++ [zs[k]?.getD 0]) ++ [zs[k + 1]?.getD 0]] := by
        rw [arun_old hc, h1]
        have e1 : (A ++ [l ++ [zs[k]?.getD 0]]).length - 1 = A.length := by simp
        rw [e1, List.getElem?_append_right (Nat.le_refl _), List.set_append_right _ _ (Nat.le_refl _)]
        simp
      refine ⟨A, l ++ [zs[k]?.getD 0], hst, ?_, h3, ?_⟩
      · rw [hst, htk, ← h2, h1]
        simp
      · refine asc_snoc h4 fun y hy => ?_
        rcases List.mem_append.1 hy with hy | hy
        · have := List.pairwise_append.1 h4
          exact Int.le_trans (this.2.2 y hy _ (List.mem_singleton_self _)) hge
        · rw [List.mem_singleton.1 hy]; exact hge
theorem parts_ar {zs : List Int} (h : vList zs = true) : Parts zs (arV zs) := by
  unfold arV
  rw [if_pos h]
  rcases Nat.eq_zero_or_pos zs.length with h0 | h0
  · have : zs = [] := List.eq_nil_of_length_eq_zero h0
    subst this
    exact ⟨by simp [arun], by simp [arun]⟩
  · obtain ⟨k, hk⟩ : ∃ k, zs.length = k + 1 := ⟨zs.length - 1, by omega⟩
    obtain ⟨A, l, h1, h2, h3, h4⟩ := arun_parts zs k (by omega)
    rw [hk]
    refine ⟨?_, ?_⟩
    · rw [h2, List.take_of_length_le (by omega)]
    · rw [h1]
      intro r hr
      rcases List.mem_append.1 hr with hr | hr
      · exact h3 r hr
      · rw [List.mem_singleton.1 hr]; exact ⟨h4, by simp⟩
/-- the sum of the lengths, as the machine adds -/
theorem rl_sum {zs : List Int} {m : Int} (h : memOk zs m = true) : sumW (rlV zs m) = (zs.length : Int) := by
  have hl := (rp_len zs m).2
  have hp := (rp_out h).perm.length_eq
  rw [List.length_flatten] at hp
  unfold rlV
  rw [← hp]
  generalize rpV zs m = R at *
  clear hp
  have key : ∀ (R : List (List Int)) (a : Nat), a + (R.map List.length).sum ≤ 64 → (R.map fun r => (r.length : Int)).foldl (fun a x => wrap64 (a + x)) (a : Int) = ((a + (R.map List.length).sum : Nat) : Int) := by
    intro R
    induction R with
    | nil => intro a _; simp
    | cons r R ih =>
      intro a ha
      simp only [List.map_cons, List.sum_cons, List.foldl_cons] at ha ⊢
      rw [show wrap64 ((a : Int) + (r.length : Int)) = ((a + r.length : Nat) : Int) from by
        rw [IntWalk.wrap64_in _ ⟨by omega, by omega⟩]; omega]
      rw [ih (a + r.length) (by omega)]
      congr 1
      omega
  have := key R 0 (by omega)
  simpa [sumW] using this
end Go.Proofs.Ytecbagdljgnloaa
