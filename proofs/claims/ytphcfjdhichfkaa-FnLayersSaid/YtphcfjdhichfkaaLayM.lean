/- Plain mathematics of layers: comparators that share a wire lie in rising layers. -/
import Derived.Test.YtphcfjdhichfkaaLayersS
import Derived.Test.YtphcfjdhichfkaaNLayW
namespace Go.Proofs.Ytphcfjdhichfkaa
open Go.RowKit
set_option linter.unusedVariables false
theorem lay_mono (st : List Int × List Int) (c : Int × Int) (t : Nat) : st.1[t]?.getD 0 ≤ (layStep st c).1[t]?.getD 0 := by
  simp only [layStep]
  by_cases hb : c.2.toNat = t
  · subst hb
    by_cases hl : c.2.toNat < st.1.length
    · rw [List.getElem?_set_self (by simpa using hl)]
      simp only [Option.getD_some]
      omega
    · rw [List.getElem?_eq_none (by omega), List.getElem?_eq_none (by simp; omega)]
      exact Int.le_refl _
  · rw [List.getElem?_set_ne hb]
    by_cases ha : c.1.toNat = t
    · subst ha
      by_cases hl : c.1.toNat < st.1.length
      · rw [List.getElem?_set_self hl]
        simp only [Option.getD_some]
        omega
      · rw [List.getElem?_eq_none (by omega), List.getElem?_eq_none (by simp; omega)]
        exact Int.le_refl _
    · rw [List.getElem?_set_ne ha]
      exact Int.le_refl _
theorem lay_new1 (st : List Int × List Int) (c : Int × Int) (h : c.1.toNat < st.1.length) : (layStep st c).1[c.1.toNat]?.getD 0 = max (st.1[c.1.toNat]?.getD 0) (st.1[c.2.toNat]?.getD 0) + 1 := by
  simp only [layStep]
  by_cases hb : c.2.toNat = c.1.toNat
  · rw [hb, List.getElem?_set_self (by simpa using h)]; rfl
  · rw [List.getElem?_set_ne hb, List.getElem?_set_self h]; rfl
theorem lay_new2 (st : List Int × List Int) (c : Int × Int) (h : c.2.toNat < st.1.length) : (layStep st c).1[c.2.toNat]?.getD 0 = max (st.1[c.1.toNat]?.getD 0) (st.1[c.2.toNat]?.getD 0) + 1 := by
  simp only [layStep]
  rw [List.getElem?_set_self (by simpa using h)]; rfl
theorem lay_out (st : List Int × List Int) (c : Int × Int) : (layStep st c).2 = st.2 ++ [max (st.1[c.1.toNat]?.getD 0) (st.1[c.2.toNat]?.getD 0) + 1] := rfl
theorem lay_wires (W : Int) (cs : List (Int × Int)) (hcs : ∀ c ∈ cs, cmpOk W c = true) (j : Nat) (hj : j ≤ cs.length) : ∀ (k : Nat) (hk : k < j),
    (layFold W (cs.take j)).2[k]?.getD 0 ≤ (layFold W (cs.take j)).1[(cs[k]'(by omega)).1.toNat]?.getD 0 ∧ (layFold W (cs.take j)).2[k]?.getD 0 ≤ (layFold W (cs.take j)).1[(cs[k]'(by omega)).2.toNat]?.getD 0 := by
  induction j with
  | zero => intro k hk; omega
  | succ j ih =>
    intro k hk
    have hinv := layFold_inv W cs j (by omega)
    have ok := cmpOk_iff (hcs cs[j] (List.getElem_mem _))
    rw [layFold_take W cs j (by omega)]
    by_cases hkj : k < j
    · have h := ih (by omega) k hkj
      have e : (layStep (layFold W (cs.take j)) cs[j]).2[k]?.getD 0 = (layFold W (cs.take j)).2[k]?.getD 0 := by
        rw [lay_out, List.getElem?_append_left (by omega)]
      rw [e]
      exact ⟨Int.le_trans h.1 (lay_mono _ _ _), Int.le_trans h.2 (lay_mono _ _ _)⟩
    · obtain rfl : k = j := by omega
      have e : (layStep (layFold W (cs.take k)) cs[k]).2[k]?.getD 0 = max ((layFold W (cs.take k)).1[cs[k].1.toNat]?.getD 0) ((layFold W (cs.take k)).1[cs[k].2.toNat]?.getD 0) + 1 := by
        rw [lay_out, List.getElem?_append_right (by omega), hinv.2.2.1]; simp
      rw [e, lay_new1 _ _ (by omega), lay_new2 _ _ (by omega)]
      exact ⟨Int.le_refl _, Int.le_refl _⟩
theorem lay_pre (W : Int) (cs : List (Int × Int)) (k : Nat) (hk : k < cs.length) : ∀ j, k < j → j ≤ cs.length → (layFold W (cs.take j)).2[k]?.getD 0 = (layFold W (cs.take (k + 1))).2[k]?.getD 0 := by
  intro j
  induction j with
  | zero => intro h; omega
  | succ j ih =>
    intro hkj hj
    by_cases h : k < j
    · rw [← ih h (by omega), layFold_take W cs j (by omega), lay_out, List.getElem?_append_left]
      have := (layFold_inv W cs j (by omega)).2.2.1
      omega
    · obtain rfl : k = j := by omega
      rfl
/-- comparators that share a wire lie in rising layers -/
theorem layers_rise (W : Int) (cs : List (Int × Int)) (hcs : ∀ c ∈ cs, cmpOk W c = true) (k i : Nat) (hki : k < i) (hi : i < cs.length)
    (hs : cs[i].1 = cs[k].1 ∨ cs[i].1 = cs[k].2 ∨ cs[i].2 = cs[k].1 ∨ cs[i].2 = cs[k].2) : (layersL W cs)[k]?.getD 0 < (layersL W cs)[i]?.getD 0 := by
  have hw := lay_wires W cs hcs i (by omega) k hki
  have e0 : layersL W cs = (layFold W (cs.take cs.length)).2 := by rw [List.take_of_length_le (Nat.le_refl _)]; rfl
  rw [e0, lay_pre W cs k (by omega) cs.length (by omega) (Nat.le_refl _), lay_pre W cs i hi cs.length hi (Nat.le_refl _), ← lay_pre W cs k (by omega) i hki (by omega)]
  have e : (layFold W (cs.take (i + 1))).2[i]?.getD 0 = max ((layFold W (cs.take i)).1[cs[i].1.toNat]?.getD 0) ((layFold W (cs.take i)).1[cs[i].2.toNat]?.getD 0) + 1 := by
    have hl := (layFold_inv W cs i (by omega)).2.2.1
    rw [layFold_take W cs i hi, lay_out, List.getElem?_append_right (by omega), hl]; simp
  rw [e]
  obtain ⟨h1, h2⟩ := hw
  rcases hs with h | h | h | h
  · rw [← h] at h1; omega
  · rw [← h] at h2; omega
  · rw [← h] at h1; omega
  · rw [← h] at h2; omega
theorem top_step (l : List Int) (k : Nat) (h : k < l.length) : topL (l.take (k + 1)) = max (topL (l.take k)) l[k] := by
  rw [List.take_succ_eq_append_getElem h, topL, List.foldl_append]; rfl
/-- what the law needs to know of the layers that the program reports -/
theorem nl_facts (W : Int) (cs : List (Int × Int)) : (nlV W cs).length ≤ cs.length ∧ (∀ x ∈ nlV W cs, 1 ≤ x ∧ x ≤ 200) ∧ topL (nlV W cs) = depthV W cs ∧
    ∀ k i : Nat, ∀ (hki : k < i) (hi : i < (nlV W cs).length) (hi' : i < cs.length), (cs[i].1 = cs[k].1 ∨ cs[i].1 = cs[k].2 ∨ cs[i].2 = cs[k].1 ∨ cs[i].2 = cs[k].2) → (nlV W cs)[k]?.getD 0 < (nlV W cs)[i]?.getD 0 := by
  by_cases hok : netOk W cs = true
  case neg =>
    have e1 : nlV W cs = [] := by rw [nlV, if_neg hok]
    have e2 : depthV W cs = 0 := by rw [depthV, if_neg hok]
    rw [e2]
    generalize nlV W cs = N at *
    subst e1
    refine ⟨by simp, (fun x hx => by cases hx), rfl, fun k i hki hi hi' hs => ?_⟩
    simp at hi
  case pos =>
    have e1 : nlV W cs = layersL W cs := by rw [nlV, if_pos hok]
    have e2 : depthV W cs = topL (layersL W cs) := by rw [depthV, if_pos hok]
    obtain ⟨-, -, h200, hcs⟩ := netOk_iff hok
    have hinv := layFold_inv W cs cs.length (Nat.le_refl _)
    rw [List.take_of_length_le (Nat.le_refl _)] at hinv
    have hlen := layersL_len W cs
    have hr := layers_rise W cs hcs
    rw [e2]
    have h4 : ∀ x ∈ layersL W cs, 1 ≤ x ∧ x ≤ cs.length := hinv.2.2.2
    generalize nlV W cs = N at *
    subst e1
    refine ⟨by omega, fun x hx => ?_, rfl, fun k i hki hi hi' hs => ?_⟩
    · have := h4 x hx; omega
    · exact hr k i hki hi' hs
end Go.Proofs.Ytphcfjdhichfkaa
