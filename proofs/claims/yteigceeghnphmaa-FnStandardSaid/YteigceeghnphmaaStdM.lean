/- Plain mathematics of the standard form: it stays valid, keeps the layers, sorts if the network sorts. -/
import Derived.Test.YteigceeghnphmaaNetM
import Derived.Test.YteigceeghnphmaaStd
import Derived.Test.YteigceeghnphmaaLayersS
namespace Go.Proofs.Yteigceeghnphmaa
open Go.RowKit
set_option linter.unusedVariables false
/-- the name of wire i behind k comparators -/
def nmK (W : Nat) (cs : List (Int × Int)) (k i : Nat) : Nat := ((sfN W cs k)[i]?.getD 0).toNat
theorem nm_at {W : Nat} {cs : List (Int × Int)} (hW : 0 < W) {k i : Nat} (hi : i < W) : (sfN W cs k)[i]?.getD 0 = (nmK W cs k i : Int) ∧ nmK W cs k i < W := by
  have hl := sfN_len W cs k
  have h1 := sfN_rng W cs hW k ((sfN W cs k)[i]'(by omega)) (List.getElem_mem _)
  unfold nmK
  rw [List.getElem?_eq_getElem (by omega), Option.getD_some]
  omega
theorem nm_inj {W : Nat} {cs : List (Int × Int)} (hW : 0 < W) {k i j : Nat} (hi : i < W) (hj : j < W) (h : nmK W cs k i = nmK W cs k j) : i = j := by
  have hl := sfN_len W cs k
  have hp := List.pairwise_iff_getElem.1 (sfN_inj W cs k)
  have e1 := (nm_at hW (cs := cs) (k := k) hi).1
  have e2 := (nm_at hW (cs := cs) (k := k) hj).1
  rw [h, ← e2, List.getElem?_eq_getElem (show i < (sfN W cs k).length by omega), List.getElem?_eq_getElem (show j < (sfN W cs k).length by omega)] at e1
  simp only [Option.getD_some] at e1
  rcases Nat.lt_trichotomy i j with h1 | h1 | h1
  · exact absurd e1 (hp i j (by omega) (by omega) h1)
  · exact h1
  · exact absurd e1.symm (hp j i (by omega) (by omega) h1)
/-- one step of the naming, in numbers -/
theorem std_step {W : Nat} {cs : List (Int × Int)} (hW : 0 < W) (hcs : ∀ c ∈ cs, cmpOk W c = true) {k : Nat} (hk : k < cs.length) :
    ∃ a b : Nat, cs[k] = ((a : Int), (b : Int)) ∧ a ≠ b ∧ a < W ∧ b < W ∧ nmK W cs k a ≠ nmK W cs k b ∧
      sfO W cs k = (((min (nmK W cs k a) (nmK W cs k b) : Nat) : Int), ((max (nmK W cs k a) (nmK W cs k b) : Nat) : Int)) ∧
      nmK W cs (k + 1) a = min (nmK W cs k a) (nmK W cs k b) ∧ nmK W cs (k + 1) b = max (nmK W cs k a) (nmK W cs k b) ∧
      ∀ i, i < W → i ≠ a → i ≠ b → nmK W cs (k + 1) i = nmK W cs k i := by
  obtain ⟨a, b, hc, hab, ha, hb⟩ := cmp_nat (hcs cs[k] (List.getElem_mem hk))
  have ha' : a < W := by omega
  have hb' : b < W := by omega
  obtain ⟨pa, pl⟩ := nm_at hW (cs := cs) (k := k) ha'
  obtain ⟨qa, ql⟩ := nm_at hW (cs := cs) (k := k) hb'
  have hne : nmK W cs k a ≠ nmK W cs k b := fun e => hab (nm_inj hW ha' hb' e)
  have hck : cK cs k = ((a : Int), (b : Int)) := by rw [cK_get hk, hc]
  have e1 : atI (sfN W cs k) (cK cs k).1 = (nmK W cs k a : Int) := by rw [hck, atI]; exact pa
  have e2 : atI (sfN W cs k) (cK cs k).2 = (nmK W cs k b : Int) := by rw [hck, atI]; exact qa
  refine ⟨a, b, hc, hab, ha', hb', hne, ?_, ?_⟩
  · unfold sfO
    rw [e1, e2]
    split
    · rw [Nat.min_eq_right (by omega), Nat.max_eq_left (by omega)]
    · rw [Nat.min_eq_left (by omega), Nat.max_eq_right (by omega)]
  · have hstep : ∀ i, i < W → (sfN W cs (k + 1))[i]?.getD 0 = if nmK W cs k b < nmK W cs k a then sw (nmK W cs k a : Int) (nmK W cs k b : Int) (nmK W cs k i : Int) else (nmK W cs k i : Int) := by
      intro i hi
      have hi2 := (nm_at hW (cs := cs) (k := k) hi).1
      rw [sfN, e1, e2]
      by_cases h : nmK W cs k b < nmK W cs k a
      · rw [if_pos h, if_pos (by omega), List.getElem?_map, List.getElem?_eq_getElem (by rw [sfN_len]; omega)]
        rw [List.getElem?_eq_getElem (by rw [sfN_len]; omega)] at hi2
        simp only [Option.getD_some] at hi2
        rw [Option.map_some, Option.getD_some, hi2]
      · rw [if_neg h, if_neg (by omega)]; exact hi2
    have hnm : ∀ i, i < W → (nmK W cs (k + 1) i : Int) = if nmK W cs k b < nmK W cs k a then sw (nmK W cs k a : Int) (nmK W cs k b : Int) (nmK W cs k i : Int) else (nmK W cs k i : Int) := by
      intro i hi
      rw [← (nm_at hW (cs := cs) (k := k + 1) hi).1]
      exact hstep i hi
    have na := hnm a ha'
    have nb := hnm b hb'
    unfold sw at na nb
    refine ⟨?_, ?_, fun i hi h1 h2 => ?_⟩
    · by_cases h : nmK W cs k b < nmK W cs k a
      · rw [if_pos h, if_pos rfl] at na; omega
      · rw [if_neg h] at na; omega
    · by_cases h : nmK W cs k b < nmK W cs k a
      · rw [if_pos h, if_neg (by omega), if_pos rfl] at nb; omega
      · rw [if_neg h] at nb; omega
    · have ni := hnm i hi
      have n1 : nmK W cs k i ≠ nmK W cs k a := fun e => h1 (nm_inj hW hi ha' e)
      have n2 : nmK W cs k i ≠ nmK W cs k b := fun e => h2 (nm_inj hW hi hb' e)
      unfold sw at ni
      by_cases h : nmK W cs k b < nmK W cs k a
      · rw [if_pos h, if_neg (by omega), if_neg (by omega)] at ni; omega
      · rw [if_neg h] at ni; omega
/-- the standard form does what the network does, but for the wires' names -/
theorem std_run {W : Nat} {cs : List (Int × Int)} (hW : 0 < W) (hcs : ∀ c ∈ cs, cmpOk W c = true) (l : List Int) (hl : l.length = W) :
    ∀ k, k ≤ cs.length → ∀ i, i < W → (netRun (sfL W cs k) l)[nmK W cs k i]?.getD 0 = (netRun (cs.take k) l)[i]?.getD 0 := by
  intro k
  induction k with
  | zero =>
    intro _ i hi
    have : nmK W cs 0 i = i := by unfold nmK sfN; simp [hi]
    rw [this]; rfl
  | succ k ih =>
    intro hk i hi
    obtain ⟨a, b, hc, hab, ha, hb, hne, ho, n1, n2, n3⟩ := std_step hW hcs (show k < cs.length by omega)
    have pl := (nm_at hW (cs := cs) (k := k) ha).2
    have ql := (nm_at hW (cs := cs) (k := k) hb).2
    have il := (nm_at hW (cs := cs) (k := k) hi).2
    have hyl : (netRun (sfL W cs k) l).length = W := by rw [netRun_len, hl]
    have hxl : (netRun (cs.take k) l).length = W := by rw [netRun_len, hl]
    have ea := ih (by omega) a ha
    have eb := ih (by omega) b hb
    have ei := ih (by omega) i hi
    rw [netRun_take cs l k (by omega), hc, sfL_succ, netRun, List.foldl_append, ho]
    show (cmpDo (netRun (sfL W cs k) l) _)[_]?.getD 0 = _
    have hmm : min (nmK W cs k a) (nmK W cs k b) ≠ max (nmK W cs k a) (nmK W cs k b) := by omega
    rw [cmpDo_at _ _ _ (by omega) (by omega) hmm, cmpDo_at _ _ _ (by omega) (by omega) hab]
    have hswap : min ((netRun (sfL W cs k) l)[min (nmK W cs k a) (nmK W cs k b)]?.getD 0) ((netRun (sfL W cs k) l)[max (nmK W cs k a) (nmK W cs k b)]?.getD 0) = min ((netRun (cs.take k) l)[a]?.getD 0) ((netRun (cs.take k) l)[b]?.getD 0) ∧
        max ((netRun (sfL W cs k) l)[min (nmK W cs k a) (nmK W cs k b)]?.getD 0) ((netRun (sfL W cs k) l)[max (nmK W cs k a) (nmK W cs k b)]?.getD 0) = max ((netRun (cs.take k) l)[a]?.getD 0) ((netRun (cs.take k) l)[b]?.getD 0) := by
      rcases Nat.lt_or_ge (nmK W cs k a) (nmK W cs k b) with h | h
      · rw [Nat.min_eq_left (by omega), Nat.max_eq_right (by omega), ea, eb]; exact ⟨rfl, rfl⟩
      · rw [Nat.min_eq_right h, Nat.max_eq_left h, ea, eb]; exact ⟨by omega, by omega⟩
    rw [hswap.1, hswap.2]
    by_cases h1 : i = a
    · subst h1
      rw [n1, if_pos rfl, if_pos rfl]
    · by_cases h2 : i = b
      · subst h2
        rw [n2, if_neg (by omega), if_pos rfl, if_neg h1, if_pos rfl]
      · have m1 : nmK W cs k i ≠ nmK W cs k a := fun e => h1 (nm_inj hW hi ha e)
        have m2 : nmK W cs k i ≠ nmK W cs k b := fun e => h2 (nm_inj hW hi hb e)
        rw [n3 i hi h1 h2, if_neg (by omega), if_neg (by omega), if_neg h1, if_neg h2]
        exact ei
def upI (W : Nat) : List Int := (List.range W).map fun i : Nat => (i : Int)
theorem upI_at {W i : Nat} (h : i < W) : (upI W)[i]?.getD 0 = (i : Int) := by simp [upI, h]
theorem upI_pair (W : Nat) : (upI W).Pairwise (· ≤ ·) := by
  unfold upI
  rw [List.pairwise_map]
  exact List.pairwise_lt_range.imp (fun h => by omega)
/-- every comparator of the standard form points upwards -/
theorem std_up {W : Nat} {cs : List (Int × Int)} (hW : 0 < W) (hcs : ∀ c ∈ cs, cmpOk W c = true) : ∀ k, k ≤ cs.length → ∀ c ∈ sfL W cs k, ∃ a b : Nat, c = ((a : Int), (b : Int)) ∧ a < b ∧ b < W := by
  intro k hk c hc
  simp only [sfL, List.mem_map, List.mem_range] at hc
  obtain ⟨j, hj, rfl⟩ := hc
  obtain ⟨a, b, -, -, ha, hb, hne, ho, -, -, -⟩ := std_step hW hcs (show j < cs.length by omega)
  have pl := (nm_at hW (cs := cs) (k := j) ha).2
  have ql := (nm_at hW (cs := cs) (k := j) hb).2
  exact ⟨_, _, ho, by omega, by omega⟩
theorem run_up {W : Nat} (ds : List (Int × Int)) (h : ∀ c ∈ ds, ∃ a b : Nat, c = ((a : Int), (b : Int)) ∧ a < b ∧ b < W) : netRun ds (upI W) = upI W := by
  induction ds with
  | nil => rfl
  | cons c ds ih =>
    obtain ⟨a, b, rfl, hab, hb⟩ := h c (by simp)
    have : cmpDo (upI W) ((a : Int), (b : Int)) = upI W := by
      unfold cmpDo
      simp only [Int.toNat_natCast]
      rw [upI_at (i := b) hb, upI_at (i := a) (by omega), if_neg (by omega)]
    show netRun ds (cmpDo (upI W) _) = _
    rw [this]
    exact ih (fun d hd => h d (by simp [hd]))
theorem std_sorts {W : Nat} {cs : List (Int × Int)} (hW : 0 < W) (hcs : ∀ c ∈ cs, cmpOk W c = true) (h : fuL W cs = -1) : fuL W (sfL W cs cs.length) = -1 := by
  have hs := fu_sorts hcs h
  have hul : (upI W).length = W := by simp [upI]
  have hid : ∀ i, i < W → nmK W cs cs.length i = i := by
    intro i hi
    have h1 := std_run hW hcs (upI W) hul cs.length (Nat.le_refl _) i hi
    rw [run_up _ (std_up hW hcs cs.length (Nat.le_refl _)), List.take_of_length_le (Nat.le_refl _), hs _ hul, ← srt_of (List.Perm.refl _) (upI_pair W), upI_at (nm_at hW hi).2, upI_at hi] at h1
    omega
  refine sorts_fu (fun l hl => ?_)
  rw [← hs l hl]
  refine ext_getD (by rw [netRun_len, netRun_len]) (fun i hi => ?_)
  rw [netRun_len, hl] at hi
  have h1 := std_run hW hcs l hl cs.length (Nat.le_refl _) i hi
  rw [hid i hi, List.take_of_length_le (Nat.le_refl _)] at h1
  exact h1
/-- the layers stay -/
theorem std_layers {W : Nat} {cs : List (Int × Int)} (hW : 0 < W) (hcs : ∀ c ∈ cs, cmpOk W c = true) :
    ∀ k, k ≤ cs.length → (layFold W (sfL W cs k)).2 = (layFold W (cs.take k)).2 ∧ (layFold W (sfL W cs k)).1.length = W ∧ (layFold W (cs.take k)).1.length = W ∧
      ∀ i, i < W → (layFold W (sfL W cs k)).1[nmK W cs k i]?.getD 0 = (layFold W (cs.take k)).1[i]?.getD 0 := by
  intro k
  induction k with
  | zero =>
    intro _
    refine ⟨rfl, by simp [sfL, layFold], by simp [layFold], fun i hi => ?_⟩
    have : nmK W cs 0 i = i := by unfold nmK sfN; simp [hi]
    rw [this]; rfl
  | succ k ih =>
    intro hk
    obtain ⟨e2, l1, l2, e1⟩ := ih (by omega)
    obtain ⟨a, b, hc, hab, ha, hb, hne, ho, n1, n2, n3⟩ := std_step hW hcs (show k < cs.length by omega)
    have pl := (nm_at hW (cs := cs) (k := k) ha).2
    have ql := (nm_at hW (cs := cs) (k := k) hb).2
    have ea := e1 a ha
    have eb := e1 b hb
    rw [sfL_succ, layFold_snoc, layFold_take W cs k (by omega), hc, ho]
    have hmx : max ((layFold W (sfL W cs k)).1[min (nmK W cs k a) (nmK W cs k b)]?.getD 0) ((layFold W (sfL W cs k)).1[max (nmK W cs k a) (nmK W cs k b)]?.getD 0) = max ((layFold W (cs.take k)).1[a]?.getD 0) ((layFold W (cs.take k)).1[b]?.getD 0) := by
      rcases Nat.lt_or_ge (nmK W cs k a) (nmK W cs k b) with h | h
      · rw [Nat.min_eq_left (by omega), Nat.max_eq_right (by omega), ea, eb]
      · rw [Nat.min_eq_right h, Nat.max_eq_left h, ea, eb]; omega
    simp only [layStep, Int.toNat_natCast]
    rw [hmx]
    refine ⟨by rw [e2], by simp [l1], by simp [l2], fun i hi => ?_⟩
    have il := (nm_at hW (cs := cs) (k := k) hi).2
    have il2 := (nm_at hW (cs := cs) (k := k + 1) hi).2
    rw [List.getElem?_set, List.getElem?_set, List.getElem?_set, List.getElem?_set]
    by_cases h1 : i = a
    · subst h1
      rw [n1]
      by_cases h3 : max (nmK W cs k i) (nmK W cs k b) = min (nmK W cs k i) (nmK W cs k b)
      · omega
      · rw [if_neg h3, if_pos rfl, if_pos (by omega), if_neg (Ne.symm hab), if_pos rfl, if_pos (by omega)]
    · by_cases h2 : i = b
      · subst h2
        rw [n2, if_pos rfl, if_pos (by simp; omega), if_pos rfl, if_pos (by simp; omega)]
      · have m1 : nmK W cs k i ≠ nmK W cs k a := fun e => h1 (nm_inj hW hi ha e)
        have m2 : nmK W cs k i ≠ nmK W cs k b := fun e => h2 (nm_inj hW hi hb e)
        rw [n3 i hi h1 h2, if_neg (by omega), if_neg (by omega), if_neg (Ne.symm h2), if_neg (Ne.symm h1)]
        exact e1 i hi
/-- a network that points upwards is its own standard form -/
theorem std_id {W : Nat} {ds : List (Int × Int)} (h : ∀ c ∈ ds, ∃ a b : Nat, c = ((a : Int), (b : Int)) ∧ a < b ∧ b < W) : ∀ k, k ≤ ds.length → sfN W ds k = sfN W ds 0 ∧ sfL W ds k = ds.take k := by
  intro k
  induction k with
  | zero => intro _; exact ⟨rfl, by simp [sfL]⟩
  | succ k ih =>
    intro hk
    obtain ⟨i1, i2⟩ := ih (by omega)
    obtain ⟨a, b, hc, hab, hb⟩ := h ds[k] (List.getElem_mem (by omega))
    have hck : cK ds k = ((a : Int), (b : Int)) := by rw [cK_get (by omega), hc]
    have hat : ∀ x : Nat, x < W → atI (sfN W ds k) (x : Int) = x := by
      intro x hx
      rw [i1, atI, sfN]; simp [hx]
    have e1 : atI (sfN W ds k) (cK ds k).1 = (a : Int) := by rw [hck]; exact hat a (by omega)
    have e2 : atI (sfN W ds k) (cK ds k).2 = (b : Int) := by rw [hck]; exact hat b hb
    have hS : sfN W ds (k + 1) = if atI (sfN W ds k) (cK ds k).2 < atI (sfN W ds k) (cK ds k).1 then (sfN W ds k).map (sw (atI (sfN W ds k) (cK ds k).1) (atI (sfN W ds k) (cK ds k).2)) else sfN W ds k := rfl
    refine ⟨by rw [hS, e1, e2, if_neg (by omega)]; exact i1, ?_⟩
    rw [sfL_succ, i2, sfO, e1, e2, if_neg (by omega), List.take_succ_eq_append_getElem (by omega), hc]
/-- what the law on the standard form wants -/
theorem std_facts {W : Int} {cs : List (Int × Int)} (h : netOk W cs = true) :
    netOk W (sfV W cs) = true ∧ sfW W cs = W ∧ (sfV W cs).length = cs.length ∧ (∀ c ∈ sfV W cs, c.1 < c.2) ∧ layersL W (sfV W cs) = layersL W cs ∧ sfV W (sfV W cs) = sfV W cs ∧ (fuL W.toNat cs = -1 → fuL W.toNat (sfV W cs) = -1) := by
  obtain ⟨h1, h2, h3, h4⟩ := netOk_parts h
  obtain ⟨n, rfl⟩ := Int.eq_ofNat_of_zero_le (show 0 ≤ W by omega)
  have hv : sfV (n : Int) cs = sfL n cs cs.length := by rw [sfV, if_pos h]; rfl
  have hup := std_up (show 0 < n by omega) h4 cs.length (Nat.le_refl _)
  have hok : netOk (n : Int) (sfL n cs cs.length) = true := by
    simp only [netOk, Bool.and_eq_true, decide_eq_true_eq, List.all_eq_true]
    refine ⟨inB_iff.2 ⟨h1, h2⟩, by rw [sfL_len]; exact h3, fun c hc => ?_⟩
    obtain ⟨a, b, rfl, hab, hb⟩ := hup c hc
    simp only [cmpOk, Bool.and_eq_true, Bool.not_eq_true', beq_eq_false_iff_ne]
    exact ⟨by show (a : Int) ≠ (b : Int); omega, inB_iff.2 ⟨by show (0 : Int) ≤ (a : Int); omega, by show (a : Int) ≤ (n : Int) - 1; omega⟩, inB_iff.2 ⟨by show (0 : Int) ≤ (b : Int); omega, by show (b : Int) ≤ (n : Int) - 1; omega⟩⟩
  rw [hv]
  refine ⟨hok, by rw [sfW, if_pos h], sfL_len _ _ _, fun c hc => ?_, ?_, ?_, ?_⟩
  · obtain ⟨a, b, rfl, hab, hb⟩ := hup c hc
    simp; omega
  · have := (std_layers (show 0 < n by omega) h4 cs.length (Nat.le_refl _)).1
    rw [List.take_of_length_le (Nat.le_refl _)] at this
    exact this
  · rw [sfV, if_pos hok]
    have := (std_id hup (sfL n cs cs.length).length (Nat.le_refl _)).2
    rw [List.take_of_length_le (Nat.le_refl _)] at this
    exact this
  · exact std_sorts (show 0 < n by omega) h4
end Go.Proofs.Yteigceeghnphmaa
