/- Plain facts of the optimal merge order. -/
import Derived.Test.YtphcfjdhichfkaaHuff
import Derived.Test.YtphcfjdhichfkaaMOrd
import Derived.IntWalk
namespace Go.Proofs.Ytphcfjdhichfkaa
open Go.RowKit
set_option linter.unusedVariables false
theorem sumW_of {l : List Int} (h : ∀ x ∈ l, 0 ≤ x) (hs : l.sum ≤ 1099511627776) : sumW l = l.sum := by
  have key : ∀ k, k ≤ l.length → sumW (l.take k) = (l.take k).sum ∧ (l.take k).sum ≤ l.sum := by
    intro k
    induction k with
    | zero => intro _; exact ⟨rfl, by simpa using sum_nonneg h⟩
    | succ k ih =>
      intro hk
      obtain ⟨h1, h2⟩ := ih (by omega)
      have h3 : (l.take (k + 1)).sum = (l.take k).sum + l[k] := by rw [List.take_succ_eq_append_getElem (by omega), List.sum_append]; simp
      have h4 : (l.take (k + 1)).sum ≤ l.sum := by
        have h5 : l.sum = (l.take (k + 1)).sum + (l.drop (k + 1)).sum := by rw [← List.sum_append, List.take_append_drop]
        have := sum_nonneg (l := l.drop (k + 1)) (fun x hx => h x (List.mem_of_mem_drop hx))
        omega
      have h6 := sum_nonneg (l := l.take k) (fun x hx => h x (List.mem_of_mem_take hx))
      have h7 := h l[k] (List.getElem_mem (by omega))
      refine ⟨?_, h4⟩
      rw [sumW_succ (by omega), h1, h3]
      exact IntWalk.wrap64_in _ ⟨by omega, by omega⟩
  have := key l.length (Nat.le_refl _)
  rw [List.take_of_length_le (Nat.le_refl _)] at this
  exact this.1
/-- what the merges are: no dearer than the prefixes, the last is the whole -/
theorem mo_facts {l : List Int} (h0 : ∀ i, 0 ≤ (l.take i).sum) (r : Nat) (hr : 2 ≤ r) (S : Int) (hS : S ≤ 1099511627776) :
    ∀ (f : Nat) (zs out : List Int), zs.length ≤ l.length → zs.length ≤ f + 1 → HInv l (srt zs) → (∀ x ∈ zs, 0 ≤ x) → zs.sum = S → (zs.length - 1) % (r - 1) = 0 → 1 ≤ zs.length →
      ∃ L, moL r f zs out = out ++ L ∧ (2 ≤ zs.length → L.sum ≤ preS l (l.length - zs.length + r) (zs.length - r + 1) ∧ L ≠ []) ∧ (zs.length < 2 → L = []) ∧ (∀ x ∈ L, 0 ≤ x) ∧ (∀ (h : L ≠ []), L.getLast h = S) := by
  intro f
  induction f with
  | zero =>
    intro zs out hl hf hH h1 hs hm hz
    exact ⟨[], by simp [moL], fun h => by omega, fun _ => rfl, fun x hx => (by cases hx), fun h => absurd rfl h⟩
  | succ f ih =>
    intro zs out hl hf hH h1 hs hm hz
    by_cases h2 : 1 < zs.length
    case neg => exact ⟨[], by rw [mo_stop h2]; simp, fun h => by omega, fun _ => rfl, fun x hx => (by cases hx), fun h => absurd rfl h⟩
    obtain ⟨d1, d2⟩ := mo_div (m := r - 1) (by omega) hm h2
    have hsl := srt_len zs
    have hsn : ∀ x ∈ srt zs, 0 ≤ x := fun x hx => h1 x ((srt_perm zs).mem_iff.1 hx)
    have hss : (srt zs).sum = S := by rw [sum_of_perm (srt_perm zs), hs]
    have htd : ((srt zs).take r).sum + ((srt zs).drop r).sum = S := by rw [← List.sum_append, List.take_append_drop, hss]
    have ht0 := take_nonneg hsn r
    have hd0 : 0 ≤ ((srt zs).drop r).sum := sum_nonneg (fun x hx => hsn x (List.mem_of_mem_drop hx))
    have hw : sumW ((srt zs).take r) = ((srt zs).take r).sum := sumW_of (fun x hx => hsn x (List.mem_of_mem_take hx)) (by omega)
    rw [mo_step h2, hw]
    have hlen : ((srt zs).drop r ++ [((srt zs).take r).sum]).length = zs.length - r + 1 := by simp [hsl]
    have hsrt : srt ((srt zs).drop r ++ [((srt zs).take r).sum]) = srt (((srt zs).take r).sum :: (srt zs).drop r) := srt_congr (List.perm_append_comm (l₂ := [((srt zs).take r).sum]))
    obtain ⟨L, e, hb, hn, hp, hlast⟩ := ih ((srt zs).drop r ++ [((srt zs).take r).sum]) (out ++ [((srt zs).take r).sum]) (by omega) (by omega) (by
        rw [hsrt]; exact hinv_step (by omega) hH h0 r (by omega) (by omega)) (by
        intro x hx
        rcases List.mem_append.1 hx with h | h
        · exact hsn x (List.mem_of_mem_drop h)
        · rw [List.mem_singleton.1 h]; exact ht0) (by rw [List.sum_append]; simp; omega) (by rw [hlen]; rw [show r - 1 + 1 = r by omega] at d2; exact d2) (by omega)
    have hfirst := hH r (by omega)
    rw [hsl] at hfirst
    refine ⟨((srt zs).take r).sum :: L, by rw [e]; simp, fun _ => ⟨?_, by simp⟩, fun h => by omega, ?_, ?_⟩
    · simp only [List.sum_cons]
      rw [preS]
      rcases Nat.lt_or_ge ((srt zs).drop r ++ [((srt zs).take r).sum]).length 2 with h | h
      · rw [hn h]
        have := preS_nonneg h0 (zs.length - r) (l.length - zs.length + r + 1)
        simp only [List.sum_nil]; omega
      · have hb1 := (hb h).1
        rw [hlen] at hb1 h
        rw [show r - 1 + 1 = r by omega] at d2
        obtain ⟨d3, -⟩ := mo_div (m := r - 1) (by omega) d2 (by omega)
        have hk := preS_skip h0 (r - 2) (l.length - zs.length + r + 1) (zs.length - r + 1 - r + 1)
        rw [show l.length - zs.length + r + 1 + (r - 2) = l.length - (zs.length - r + 1) + r by omega, show zs.length - r + 1 - r + 1 + (r - 2) = zs.length - r by omega] at hk
        omega
    · intro x hx
      rcases List.mem_cons.1 hx with rfl | h
      · exact ht0
      · exact hp x h
    · intro _
      rcases Nat.lt_or_ge ((srt zs).drop r ++ [((srt zs).take r).sum]).length 2 with h | h
      · have hL := hn h
        subst hL
        rw [hlen] at h
        have hdn : (srt zs).drop r = [] := List.drop_eq_nil_of_le (by omega)
        rw [hdn] at htd
        simp at htd ⊢
        exact htd
      · have hne := (hb h).2
        rw [List.getLast_cons hne]
        exact hlast hne
theorem take_pad (z : Nat) (l : List Int) (i : Nat) : ((List.replicate z (0 : Int) ++ l).take (z + i)).sum = (l.take i).sum := by
  rw [List.take_append, List.sum_append]
  simp [List.take_of_length_le]
theorem preS_pad (z : Nat) (l : List Int) : ∀ k lo, preS (List.replicate z (0 : Int) ++ l) (z + lo) k = preS l lo k := by
  intro k
  induction k with
  | zero => intro lo; rfl
  | succ k ih => intro lo; rw [preS, preS, take_pad, show z + lo + 1 = z + (lo + 1) by omega, ih]
theorem need_mod {m k : Nat} (hm : 0 < m) : (k + need m k) % m = 0 := by
  unfold need
  have hlt := Nat.mod_lt k hm
  rcases Nat.eq_zero_or_pos (k % m) with h | h
  · rw [h]; simp [h]
  · rw [Nat.mod_eq_of_lt (show m - k % m < m by omega)]
    have := Nat.div_add_mod k m
    rw [show k + (m - k % m) = m * (k / m) + m by omega, ← Nat.mul_succ, Nat.mul_mod_right]
/-- the merges of the given order: no dearer than from left to right, the last is the whole -/
theorem mov_facts {zs : List Int} {y : Int} (h : moOk zs y = true) : (∀ x ∈ zs, 0 ≤ x) ∧ 0 ≤ zs.sum ∧ zs.sum ≤ 4000000 ∧ sumW (moV zs y) ≤ preS zs 2 (zs.length - 1) ∧
    (moV zs y = [] ↔ zs.length < 2) ∧ (∀ hne : moV zs y ≠ [], (moV zs y).getLast hne = zs.sum) ∧ (∀ x ∈ moV zs y, 0 ≤ x) := by
  have ho := h
  simp only [moOk, Bool.and_eq_true, decide_eq_true_eq, List.all_eq_true] at h
  obtain ⟨⟨hl, hb⟩, hy⟩ := h
  obtain ⟨y1, y2⟩ := inB_iff.1 hy
  obtain ⟨r, rfl⟩ := Int.eq_ofNat_of_zero_le (show 0 ≤ y by omega)
  have hn : ∀ x ∈ zs, 0 ≤ x := fun x hx => by have := inB_iff.1 (hb x hx); omega
  have hs0 := sum_nonneg hn
  have hs1 := sum_le_mul (l := zs) (M := 100000) (fun x hx => (inB_iff.1 (hb x hx)).2)
  have he : moV zs (r : Int) = moL r 64 (moPad zs (r - 1)) [] := by rw [moV, if_pos ho]; rfl
  rw [he]
  refine ⟨hn, hs0, by omega, ?_⟩
  by_cases h2 : 2 ≤ zs.length
  case neg =>
    have e0 : moL r 64 (moPad zs (r - 1)) [] = [] := mo_stop (by unfold moPad; rw [if_neg h2]; simp; omega)
    rw [e0]
    refine ⟨?_, ⟨fun _ => by omega, fun _ => rfl⟩, fun hne => absurd rfl hne, fun x hx => (by cases hx)⟩
    exact preS_nonneg (take_nonneg hn) _ _
  have hz := need_lt (m := r - 1) (k := zs.length - 1) (by omega)
  have hzm := need_mod (m := r - 1) (k := zs.length - 1) (by omega)
  have hp : moPad zs (r - 1) = zs ++ List.replicate (need (r - 1) (zs.length - 1)) 0 := by unfold moPad; rw [if_pos h2]
  rw [hp]
  generalize need (r - 1) (zs.length - 1) = z at *
  have hr0 : (List.replicate z (0 : Int)).sum = 0 := by simp
  have hlp : (List.replicate z (0 : Int) ++ zs).length = z + zs.length := by simp
  have hln : (zs ++ List.replicate z (0 : Int)).length = z + zs.length := by simp; omega
  have hnp : ∀ x ∈ List.replicate z (0 : Int) ++ zs, 0 ≤ x := by
    intro x hx
    rcases List.mem_append.1 hx with h | h
    · rw [(List.mem_replicate.1 h).2]; exact Int.le_refl _
    · exact hn x h
  obtain ⟨L, e, hc, hc2, hpos, hlast⟩ := mo_facts (l := List.replicate z (0 : Int) ++ zs) (take_nonneg hnp) r (by omega) zs.sum (by omega) 64 (zs ++ List.replicate z 0) [] (by omega) (by omega) (by
      have := hinv_start (List.replicate z (0 : Int) ++ zs)
      rw [srt_congr (List.perm_append_comm (l₁ := List.replicate z (0 : Int)) (l₂ := zs))] at this
      exact this) (fun x hx => hnp x (List.perm_append_comm.mem_iff.1 hx)) (by rw [List.sum_append, hr0]; omega) (by rw [hln, show z + zs.length - 1 = zs.length - 1 + z by omega]; exact hzm) (by omega)
  rw [List.nil_append] at e
  rw [e]
  obtain ⟨hc3, hc4⟩ := hc (by omega)
  rw [hlp, hln, show z + zs.length - (z + zs.length) + r = z + (r - z) by omega, preS_pad] at hc3
  have hk := preS_skip (take_nonneg hn) (r - z - 2) 2 (z + zs.length - r + 1)
  have hle := preS_le hn (zs.length - 1) 2
  have hmul := mulM (n := zs.length - 1) (k := 40) (M := zs.sum) (by omega) hs0
  by_cases hzr : r ≤ z + zs.length
  · rw [show 2 + (r - z - 2) = r - z by omega, show z + zs.length - r + 1 + (r - z - 2) = zs.length - 1 by omega] at hk
    refine ⟨?_, ⟨fun h => absurd h hc4, fun h => absurd h2 (Nat.not_le.2 h)⟩, hlast, hpos⟩
    clear hlast
    rw [sumW_of hpos (by omega)]
    omega
  · have hdd := Nat.le_of_dvd (by omega) (Nat.dvd_of_mod_eq_zero hzm)
    exfalso
    clear hlast
    omega
end Go.Proofs.Ytphcfjdhichfkaa
