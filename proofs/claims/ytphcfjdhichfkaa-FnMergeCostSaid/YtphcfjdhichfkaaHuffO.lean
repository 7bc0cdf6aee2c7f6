/- Plain facts of the optimal cost of merging. -/
import Derived.Test.YtphcfjdhichfkaaHuff
import Derived.Test.YtphcfjdhichfkaaOpt
import Derived.IntWalk
namespace Go.Proofs.Ytphcfjdhichfkaa
open Go.RowKit
set_option linter.unusedVariables false
/-- the machine's cost is the plain one, as long as nothing wraps -/
theorem mc_nc (S : Int) (hS : S ≤ 1099511627776) : ∀ (f : Nat) (W : List Int) (t : Int), f ≤ 64 → (∀ x ∈ W, 0 ≤ x) → W.sum = S → 0 ≤ t → t + f * S ≤ 109951162777600 → mcL f W t = t + ncL f W ∧ 0 ≤ ncL f W ∧ ncL f W ≤ f * S := by
  intro f
  induction f with
  | zero => intro W t _ _ _ _ _; simp [mcL, ncL]
  | succ f ih =>
    intro W t hf hW hs ht hb
    have hS0 : 0 ≤ S := by rw [← hs]; exact sum_nonneg hW
    match W, hW, hs with
    | [], hW, hs =>
      simp only [mcL, ncL]
      exact ⟨by omega, by omega, by have := Int.mul_nonneg (show (0 : Int) ≤ ((f + 1 : Nat) : Int) by omega) hS0; omega⟩
    | [a], hW, hs =>
      simp only [mcL, ncL]
      exact ⟨by omega, by omega, by have := Int.mul_nonneg (show (0 : Int) ≤ ((f + 1 : Nat) : Int) by omega) hS0; omega⟩
    | a :: b :: r, hW, hs =>
      have ha := hW a (by simp)
      have hb0 := hW b (by simp)
      have hr := sum_nonneg (fun x hx => hW x (show x ∈ a :: b :: r by simp [hx]) : ∀ x ∈ r, 0 ≤ x)
      simp only [List.sum_cons] at hs
      have e1 : ((f + 1 : Nat) : Int) * S = f * S + S := by rw [Int.natCast_add, Int.add_mul]; simp
      have hfS : 0 ≤ (f : Int) * S := Int.mul_nonneg (by omega) hS0
      have w1 : wrap64 (a + b) = a + b := IntWalk.wrap64_in _ ⟨by omega, by omega⟩
      have w2 : wrap64 (t + (a + b)) = t + (a + b) := IntWalk.wrap64_in _ ⟨by omega, by omega⟩
      have hi := ih (srt (r ++ [a + b])) (t + (a + b)) (by omega) (fun x hx => by
          rcases List.mem_append.1 ((srt_perm _).mem_iff.1 hx) with h | h
          · exact hW x (by simp [h])
          · rw [List.mem_singleton.1 h]; omega) (by rw [sum_of_perm (srt_perm _), List.sum_append]; simp; omega) (by omega) (by omega)
      simp only [mcL, ncL, w1, w2]
      obtain ⟨h1, h2, h3⟩ := hi
      exact ⟨by omega, by omega, by omega⟩
/-- the optimal cost: between the whole and the cost from left to right -/
theorem om_facts {zs : List Int} (h : omOk zs = true) : (∀ x ∈ zs, 0 ≤ x) ∧ 0 ≤ zs.sum ∧ zs.sum ≤ 64000 ∧ omV zs ≤ preS zs 2 (zs.length - 1) ∧ (2 ≤ zs.length → zs.sum ≤ omV zs) := by
  simp only [omOk, Bool.and_eq_true, decide_eq_true_eq, List.all_eq_true] at h
  obtain ⟨hl, hb⟩ := h
  have hn : ∀ x ∈ zs, 0 ≤ x := fun x hx => by have := inB_iff.1 (hb x hx); omega
  have hs0 := sum_nonneg hn
  have hs1 := sum_le_mul (l := zs) (M := 1000) (fun x hx => (inB_iff.1 (hb x hx)).2)
  have hsn : ∀ x ∈ srt zs, 0 ≤ x := fun x hx => hn x ((srt_perm zs).mem_iff.1 hx)
  have ho : omOk zs = true := by simp only [omOk, Bool.and_eq_true, decide_eq_true_eq, List.all_eq_true]; exact ⟨hl, hb⟩
  have he : omV zs = mcL 64 (srt zs) 0 := by rw [omV, if_pos ho]
  have hm := mc_nc zs.sum (by omega) 64 (srt zs) 0 (by omega) hsn (sum_of_perm (srt_perm zs)) (by omega) (by omega)
  have hc := nc_bound (take_nonneg hn) 64 (srt zs) (by rw [srt_len]; omega) (hinv_start zs)
  rw [srt_len] at hc
  rw [show zs.length - zs.length + 2 = 2 by omega] at hc
  refine ⟨hn, hs0, by omega, by omega, fun h2 => ?_⟩
  have := nc_sum 64 (srt zs) (by rw [srt_len]; exact h2) (by rw [srt_len]; omega) hsn
  rw [sum_of_perm (srt_perm zs)] at this
  omega
theorem om_perm {a b : List Int} (h : a.Perm b) : omOk a = omOk b ∧ omV a = omV b := by
  have h1 : omOk a = omOk b := by
    unfold omOk
    rw [h.length_eq]
    congr 1
    rw [Bool.eq_iff_iff, List.all_eq_true, List.all_eq_true]
    exact ⟨fun hh x hx => hh x (h.mem_iff.2 hx), fun hh x hx => hh x (h.mem_iff.1 hx)⟩
  exact ⟨h1, by unfold omV; rw [h1, srt_congr h]⟩
end Go.Proofs.Ytphcfjdhichfkaa
