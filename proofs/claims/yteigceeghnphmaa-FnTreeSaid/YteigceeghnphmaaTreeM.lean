/- Plain mathematics of the tree of matches: its winner beats every leaf; a replaced winner leaves a valid tree; the length of its path. -/
import Derived.Test.YteigceeghnphmaaTreeR
import Derived.Test.YteigceeghnphmaaTreeB
namespace Go.Proofs.Yteigceeghnphmaa
open Go.RowKit
set_option linter.unusedVariables false
def dn (ds : List Bool) (i : Nat) : Nat := if ds[i]?.getD false then 1 else 0
theorem beats_iff (ks : List Int) (ds : List Bool) (i m : Nat) :
    beatsB ks ds i m = true ↔ dn ds i < dn ds m ∨ (dn ds i = dn ds m ∧ (ks[i]?.getD 0 < ks[m]?.getD 0 ∨ (ks[i]?.getD 0 = ks[m]?.getD 0 ∧ i < m))) := by
  unfold beatsB dn
  generalize ks[i]?.getD 0 = x
  generalize ks[m]?.getD 0 = y
  cases ds[i]?.getD false <;> cases ds[m]?.getD false <;> simp <;> split <;> simp_all <;> omega
theorem not_beats {ks : List Int} {ds : List Bool} {i m : Nat} (h : beatsB ks ds i m = false) : ¬ (dn ds i < dn ds m ∨ (dn ds i = dn ds m ∧ (ks[i]?.getD 0 < ks[m]?.getD 0 ∨ (ks[i]?.getD 0 = ks[m]?.getD 0 ∧ i < m)))) := fun h2 => by
  rw [(beats_iff ks ds i m).2 h2] at h; cases h
/-- whom neither a nor b yields to, the winner of a and b does not yield to either -/
theorem win_best {ks : List Int} {ds : List Bool} {i a b : Nat} (h : beatsB ks ds i a = false ∨ beatsB ks ds i b = false) : beatsB ks ds i (winO ks ds a b) = false := by
  cases hb : beatsB ks ds i (winO ks ds a b)
  · rfl
  · exfalso
    have h1 := (beats_iff ks ds i _).1 hb
    unfold winO at h1
    cases hba : beatsB ks ds b a
    · rw [hba] at h1
      simp only [Bool.false_eq_true, if_false] at h1
      have h2 := not_beats hba
      rcases h with h | h <;> have h3 := not_beats h <;> omega
    · rw [hba] at h1
      simp only [if_true] at h1
      have h2 := (beats_iff ks ds b a).1 hba
      rcases h with h | h <;> have h3 := not_beats h <;> omega
theorem plK_best (ks : List Int) (ds : List Bool) : ∀ (t : Nat), t + 1 ≤ ks.length → ∀ (i d : Nat), i < ks.length → ks.length - t ≤ (ks.length + i) / 2 ^ d → beatsB ks ds i ((plK ks ds t).1[(ks.length + i) / 2 ^ d]?.getD 0) = false := by
  intro t
  induction t with
  | zero =>
    intro ht i d hi hd
    have hd0 : (ks.length + i) / 2 ^ d = ks.length + i := by
      cases d with
      | zero => simp
      | succ d =>
        exfalso
        have h1 : 2 ≤ 2 ^ (d + 1) := by rw [Nat.pow_succ]; have := Nat.one_le_two_pow (n := d); omega
        have h2 : (ks.length + i) / 2 ^ (d + 1) ≤ (ks.length + i) / 2 := Nat.div_le_div_left h1 (by omega)
        omega
    rw [hd0]
    simp only [plK]
    rw [List.getElem?_append_right (by simp), List.length_replicate, Nat.add_sub_cancel_left, List.getElem?_range hi, Option.getD_some]
    cases hb : beatsB ks ds i i
    · rfl
    · have := (beats_iff ks ds i i).1 hb; omega
  | succ t ih =>
    intro ht i d hi hd
    have ih2 := ih (by omega) i
    have hlen := (plK_len ks ds t).1
    simp only [plK]
    by_cases hj : (ks.length + i) / 2 ^ d = ks.length - 1 - t
    · rw [hj, List.getElem?_set_self (by rw [hlen]; omega), Option.getD_some]
      cases d with
      | zero => simp at hj; omega
      | succ d =>
        rw [Nat.pow_succ, ← Nat.div_div_eq_div_mul] at hj
        have h2 := ih2 d hi (by omega)
        apply win_best
        rcases Nat.mod_two_eq_zero_or_one ((ks.length + i) / 2 ^ d) with hm | hm
        · left
          have e : (ks.length + i) / 2 ^ d = 2 * (ks.length - 1 - t) := by omega
          rw [e] at h2
          exact h2
        · right
          have e : (ks.length + i) / 2 ^ d = 2 * (ks.length - 1 - t) + 1 := by omega
          rw [e] at h2
          exact h2
    · rw [List.getElem?_set_ne (by omega)]
      exact ih2 d hi (by omega)
/-- no leaf beats the winner -/
theorem winner_best {ks : List Int} {ds : List Bool} {i : Nat} (hi : i < ks.length) : beatsB ks ds i (winnerV ks ds) = false := by
  have h : (ks.length + i) / 2 ^ (Nat.log2 (ks.length + i)) = 1 := by
    have h1 := Nat.log2_self_le (n := ks.length + i) (by omega)
    have h2 := Nat.lt_log2_self (n := ks.length + i)
    rw [Nat.pow_succ] at h2
    have h3 : 1 * 2 ^ (Nat.log2 (ks.length + i)) ≤ ks.length + i := by omega
    have h4 := (Nat.le_div_iff_mul_le (Nat.two_pow_pos _)).2 h3
    have h5 := (Nat.div_lt_iff_lt_mul (Nat.two_pow_pos _)).2 (show ks.length + i < 2 * 2 ^ (Nat.log2 (ks.length + i)) by omega)
    omega
  have := plK_best ks ds (ks.length - 1) (by omega) i (Nat.log2 (ks.length + i)) hi (by omega)
  rw [h] at this
  exact this
theorem path_short {k m : Nat} (hk : 1 ≤ k) (hk2 : k ≤ 16) (hm : m < k) : plen ((k + m) / 2) ≤ 5 ∧ 2 ^ plen ((k + m) / 2) < 4 * k := by
  have h : ∀ k : Fin 17, ∀ m : Fin 17, m.val < k.val → plen ((k.val + m.val) / 2) ≤ 5 ∧ 2 ^ plen ((k.val + m.val) / 2) < 4 * k.val := by decide +kernel
  exact h ⟨k, by omega⟩ ⟨m, by omega⟩ hm
/-- what a replaced winner leaves -/
theorem rw_facts {ks : List Int} {ds : List Bool} {ls : List Int} {W key : Int} {done : Bool} (h : rwOk ks ds ls W key done = true) :
    itOk (rwK ks ds ls W key done) (rwD ks ds ls W key done) (rwL ks ds ls W key done) (rwW ks ds ls W key done) = true ∧
    (∃ n : Nat, rwN ks ds ls W key done = n ∧ n ≤ 5 ∧ 2 ^ n < 4 * (rwK ks ds ls W key done).length) ∧
    (∃ m v : Nat, W = m ∧ rwW ks ds ls W key done = v ∧ m < (rwK ks ds ls W key done).length ∧ v < (rwK ks ds ls W key done).length ∧ (rwD ks ds ls W key done)[m]? = some done ∧
      ∀ i, i < (rwK ks ds ls W key done).length → (rwD ks ds ls W key done)[i]?.getD false = false → (rwD ks ds ls W key done)[v]?.getD false = false ∧ (rwK ks ds ls W key done)[v]?.getD 0 ≤ (rwK ks ds ls W key done)[i]?.getD 0) := by
  have h2 := h
  simp only [rwOk, Bool.and_eq_true, Bool.or_eq_true] at h2
  obtain ⟨hit, hnd, hkey⟩ := h2
  obtain ⟨k1, k2, hd, hl, hW⟩ := it_parts hit
  have hwl := winnerV_lt (ks := ks) (ds := ds) k1
  simp only [rwK, rwD, rwL, rwW, rwN, h, if_true]
  have hlk : (rwKs ks ds key done).length = ks.length := by simp [rwKs]
  have hld : (rwDs ks ds done).length = ks.length := by simp [rwDs, hd]
  have hvl := winnerV_lt (ks := rwKs ks ds key done) (ds := rwDs ks ds done) (by omega)
  have hnodes : ∀ i, i < ks.length → nodeOk ((rwKs ks ds key done)[i]?.getD 0) ((rwDs ks ds done)[i]?.getD false) = true := by
    intro i hi
    simp only [rwKs, rwDs]
    by_cases he : winnerV ks ds = i
    · rw [← he, List.getElem?_set_self (by omega), List.getElem?_set_self (by omega)]
      cases done
      · simpa [nodeOk] using hkey
      · rfl
    · rw [List.getElem?_set_ne he, List.getElem?_set_ne he]
      simp only [itOk, Bool.and_eq_true, List.all_eq_true, List.mem_range] at hit
      exact hit.1.2 i hi
  refine ⟨?_, ⟨_, rfl, ?_⟩, ⟨winnerV ks ds, _, hW, rfl, by omega, by omega, by simp only [rwDs]; rw [List.getElem?_set_self (by omega)], ?_⟩⟩
  · simp only [itOk, Bool.and_eq_true, decide_eq_true_eq, List.all_eq_true, List.mem_range]
    exact ⟨⟨⟨⟨by rw [hlk]; exact inB_iff.2 ⟨by omega, by omega⟩, by omega⟩, by rw [loserI_len]⟩, fun i hi => hnodes i (by omega)⟩, by trivial⟩
  · rw [hlk]; exact path_short k1 k2 hwl
  · intro i hi hdi
    have hb := not_beats (winner_best (ks := rwKs ks ds key done) (ds := rwDs ks ds done) (i := i) hi)
    generalize winnerV (rwKs ks ds key done) (rwDs ks ds done) = v at *
    unfold dn at hb
    rw [hdi] at hb
    cases hv : (rwDs ks ds done)[v]?.getD false
    · rw [hv] at hb
      simp only [Bool.false_eq_true, if_false] at hb
      exact ⟨rfl, Int.not_lt.1 fun h9 => hb (.inr ⟨trivial, .inl h9⟩)⟩
    · rw [hv] at hb
      simp only [Bool.false_eq_true, if_false, if_true] at hb
      omega
/-- the winner of a built tree is its least key, and the first such -/
theorem bt_facts {ks : List Int} (h : btOk ks = true) : ∃ v : Nat, btW ks = v ∧ v < ks.length ∧ btK ks = ks ∧ ∀ i, i < ks.length → ks[v]?.getD 0 < ks[i]?.getD 0 ∨ (ks[v]?.getD 0 = ks[i]?.getD 0 ∧ v ≤ i) := by
  have h2 := h
  simp only [btOk, Bool.and_eq_true] at h2
  have h3 := inB_iff.1 h2.1
  refine ⟨winnerV ks (List.replicate ks.length false), by rw [btW, if_pos h], winnerV_lt (by omega), by rw [btK, if_pos h], fun i hi => ?_⟩
  have hb := not_beats (winner_best (ks := ks) (ds := List.replicate ks.length false) (i := i) hi)
  generalize winnerV ks (List.replicate ks.length false) = v at *
  have hdn : ∀ j, dn (List.replicate ks.length false) j = 0 := by
    intro j
    unfold dn
    rw [List.getElem?_replicate]
    by_cases h6 : j < ks.length <;> simp [h6]
  rw [hdn, hdn] at hb
  omega
end Go.Proofs.Yteigceeghnphmaa
