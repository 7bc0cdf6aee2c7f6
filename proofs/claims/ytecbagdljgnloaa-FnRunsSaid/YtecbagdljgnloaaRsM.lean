/- Replacement selection as a function of lists. -/
import Derived.Test.YtecbagdljgnloaaLib
namespace Go.Proofs.Ytecbagdljgnloaa
abbrev Slt := Int × Bool
def ky (sl : List Slt) (k : Nat) : Int := (sl[k]?.getD (0, false)).1
def mkd (sl : List Slt) (k : Nat) : Bool := (sl[k]?.getD (0, false)).2
/-- the place of the least key that is not marked, among the first k -/
def bestI (sl : List Slt) : Nat → Int
  | 0 => -1
  | k + 1 => if !mkd sl k && (decide (bestI sl k < 0) || decide (ky sl k < ky sl (bestI sl k).toNat)) then (k : Int) else bestI sl k
theorem best_rng (sl : List Slt) : ∀ k, -1 ≤ bestI sl k ∧ bestI sl k < (k : Int)
  | 0 => by simp [bestI]
  | k + 1 => by
    have ih := best_rng sl k
    unfold bestI
    split <;> omega
theorem best_spec (sl : List Slt) : ∀ k, (bestI sl k < 0 → ∀ j, j < k → mkd sl j = true) ∧ (0 ≤ bestI sl k → mkd sl (bestI sl k).toNat = false ∧ ∀ j, j < k → mkd sl j = false → ky sl (bestI sl k).toNat ≤ ky sl j)
  | 0 => ⟨fun _ j hj => by omega, fun h => by simp [bestI] at h⟩
  | k + 1 => by
    obtain ⟨h1, h2⟩ := best_spec sl k
    have hr := best_rng sl k
    unfold bestI
    by_cases hc : (!mkd sl k && (decide (bestI sl k < 0) || decide (ky sl k < ky sl (bestI sl k).toNat))) = true
    · rw [if_pos hc]
      simp only [Bool.and_eq_true, Bool.not_eq_true', Bool.or_eq_true, decide_eq_true_eq] at hc
      refine ⟨fun h => by omega, fun _ => ⟨by simpa using hc.1, fun j hj hm => ?_⟩⟩
      simp only [Int.toNat_natCast]
      by_cases hjk : j = k
      · rw [hjk]; exact Int.le_refl _
      · rcases hc.2 with h | h
        · have := h1 h j (by omega); rw [this] at hm; cases hm
        · by_cases hb : 0 ≤ bestI sl k
          · have := (h2 hb).2 j (by omega) hm; omega
          · have := h1 (by omega) j (by omega); rw [this] at hm; cases hm
    · rw [if_neg hc]
      simp only [Bool.and_eq_true, Bool.not_eq_true', Bool.or_eq_true, decide_eq_true_eq, not_and, not_or] at hc
      refine ⟨fun h j hj => ?_, fun h => ⟨(h2 h).1, fun j hj hm => ?_⟩⟩
      · by_cases hjk : j = k
        · rw [hjk]
          cases hm : mkd sl k
          · exact absurd h (hc hm).1
          · rfl
        · exact h1 h j (by omega)
      · by_cases hjk : j = k
        · rw [hjk] at hm ⊢
          have := (hc hm).2
          omega
        · exact (h2 h).2 j (by omega) hm
def unm (sl : List Slt) : List Slt := sl.map fun s => (s.1, false)
/-- the runs, by fuel -/
def rsF : Nat → List Slt → List Int → List (List Int) → List Int → List (List Int)
  | 0, _, _, runs, _ => runs
  | F + 1, sl, rest, runs, run =>
    if sl.length = 0 then (if run.length = 0 then runs else runs ++ [run])
    else if bestI sl sl.length < 0 then rsF F (unm sl) rest (runs ++ [run]) []
    else match rest with
      | r :: rest' => rsF F (sl.set (bestI sl sl.length).toNat (r, decide (r < ky sl (bestI sl sl.length).toNat))) rest' runs (run ++ [ky sl (bestI sl sl.length).toNat])
      | [] => rsF F (sl.eraseIdx (bestI sl sl.length).toNat) [] runs (run ++ [ky sl (bestI sl sl.length).toNat])
def rsM (sl : List Slt) (rest : List Int) : Nat := 2 * (rest.length + sl.length) + (if sl.all (·.2) then 1 else 0)
def rsV (zs : List Int) (m : Nat) : List (List Int) := rsF (2 * zs.length + 2) ((zs.take m).map fun x => (x, false)) (zs.drop m) [] []
theorem mkd_get {sl : List Slt} {j : Nat} (h : j < sl.length) : mkd sl j = sl[j].2 ∧ ky sl j = sl[j].1 := by
  unfold mkd ky
  rw [List.getElem?_eq_getElem h]
  exact ⟨rfl, rfl⟩
theorem all_marked {sl : List Slt} (h : bestI sl sl.length < 0) : sl.all (·.2) = true := by
  rw [List.all_eq_true]
  intro s hs
  obtain ⟨j, hj, rfl⟩ := List.getElem_of_mem hs
  rw [← (mkd_get hj).1]
  exact (best_spec sl sl.length).1 h j hj
theorem rsM_unm {sl : List Slt} {rest : List Int} (h0 : sl.length ≠ 0) (h : bestI sl sl.length < 0) : rsM (unm sl) rest < rsM sl rest := by
  unfold rsM
  rw [all_marked h]
  have h1 : (unm sl).all (·.2) = false := by
    cases sl with
    | nil => exact absurd rfl h0
    | cons a l => simp [unm]
  have h2 : (unm sl).length = sl.length := by simp [unm]
  rw [h1, h2]
  simp
theorem rsM_le (sl : List Slt) (rest : List Int) : 2 * (rest.length + sl.length) ≤ rsM sl rest ∧ rsM sl rest ≤ 2 * (rest.length + sl.length) + 1 := by
  unfold rsM
  split <;> omega
theorem rsM_set {sl : List Slt} {r : Int} {rest : List Int} (k : Nat) (s : Slt) : rsM (sl.set k s) rest < rsM sl (r :: rest) := by
  have h1 := (rsM_le (sl.set k s) rest).2
  have h2 := (rsM_le sl (r :: rest)).1
  rw [List.length_set] at h1
  rw [List.length_cons] at h2
  omega
theorem rsM_erase {sl : List Slt} {k : Nat} (hk : k < sl.length) : rsM (sl.eraseIdx k) [] < rsM sl [] := by
  have h1 := (rsM_le (sl.eraseIdx k) []).2
  have h2 := (rsM_le sl []).1
  rw [List.length_eraseIdx_of_lt hk] at h1
  simp at h1 h2
  omega
theorem best_lt {sl : List Slt} (h : ¬ bestI sl sl.length < 0) : (bestI sl sl.length).toNat < sl.length ∧ ((bestI sl sl.length).toNat : Int) = bestI sl sl.length := by
  have := best_rng sl sl.length
  omega
/-! ### what the runs are -/
def asc (l : List Int) : Prop := l.Pairwise (· ≤ ·)
/-- what holds ahead of every step; m is the memory -/
structure RsI (zs : List Int) (m : Nat) (sl : List Slt) (rest : List Int) (runs : List (List Int)) (run : List Int) : Prop where
  perm : (runs.flatten ++ (run ++ (sl.map (·.1) ++ rest))).Perm zs
  full : rest ≠ [] → sl.length = m
  runs_ : ∀ r ∈ runs, asc r ∧ m ≤ r.length ∧ 0 < r.length
  asc_ : asc run
  low : ∀ x ∈ run, ∀ j, j < sl.length → mkd sl j = false → x ≤ ky sl j
  some_ : run = [] → ∀ j, j < sl.length → mkd sl j = false
  cnt : (∀ j, j < sl.length → mkd sl j = false) ∨ m ≤ run.length + sl.countP (fun s => !s.2)
theorem set_perm {sl : List Slt} {k : Nat} (hk : k < sl.length) (s : Slt) : (ky sl k :: (sl.set k s).map (·.1)).Perm (s.1 :: sl.map (·.1)) := by
  rw [(mkd_get hk).2]
  induction sl generalizing k with
  | nil => simp at hk
  | cons a l ih =>
    cases k with
    | zero => exact List.Perm.swap _ _ _
    | succ k =>
      simp only [List.set_cons_succ, List.map_cons, List.getElem_cons_succ]
      refine (List.Perm.swap _ _ _).trans ?_
      refine ((ih (by simpa using hk)).cons a.1).trans ?_
      exact List.Perm.swap _ _ _
theorem erase_perm {sl : List Slt} {k : Nat} (hk : k < sl.length) : (ky sl k :: (sl.eraseIdx k).map (·.1)).Perm (sl.map (·.1)) := by
  rw [(mkd_get hk).2]
  induction sl generalizing k with
  | nil => simp at hk
  | cons a l ih =>
    cases k with
    | zero => exact List.Perm.refl _
    | succ k =>
      simp only [List.eraseIdx_cons_succ, List.map_cons, List.getElem_cons_succ]
      exact (List.Perm.swap _ _ _).trans ((ih (by simpa using hk)).cons a.1)
theorem count_set {sl : List Slt} {k : Nat} (hk : k < sl.length) (hm : mkd sl k = false) (s : Slt) : (sl.set k s).countP (fun s => !s.2) + 1 = sl.countP (fun s => !s.2) + (if s.2 then 0 else 1) := by
  rw [(mkd_get hk).1] at hm
  induction sl generalizing k with
  | nil => simp at hk
  | cons a l ih =>
    cases k with
    | zero =>
      simp only [List.getElem_cons_zero] at hm
      simp only [List.set_cons_zero, List.countP_cons, hm]
      cases s.2 <;> simp
    | succ k =>
      simp only [List.getElem_cons_succ] at hm
      have := ih (by simpa using hk) hm
      simp only [List.set_cons_succ, List.countP_cons]
      omega
theorem count_erase {sl : List Slt} {k : Nat} (hk : k < sl.length) (hm : mkd sl k = false) : (sl.eraseIdx k).countP (fun s => !s.2) + 1 = sl.countP (fun s => !s.2) := by
  rw [(mkd_get hk).1] at hm
  induction sl generalizing k with
  | nil => simp at hk
  | cons a l ih =>
    cases k with
    | zero =>
      simp only [List.getElem_cons_zero] at hm
      simp [hm]
    | succ k =>
      simp only [List.getElem_cons_succ] at hm
      have := ih (by simpa using hk) hm
      simp only [List.eraseIdx_cons_succ, List.countP_cons]
      omega
theorem count_none {sl : List Slt} (h : ∀ j, j < sl.length → mkd sl j = false) : sl.countP (fun s => !s.2) = sl.length := by
  rw [List.countP_eq_length]
  intro s hs
  obtain ⟨j, hj, rfl⟩ := List.getElem_of_mem hs
  have := h j hj
  rw [(mkd_get hj).1] at this
  simp [this]
theorem count_all {sl : List Slt} (h : ∀ j, j < sl.length → mkd sl j = true) : sl.countP (fun s => !s.2) = 0 := by
  rw [List.countP_eq_zero]
  intro s hs
  obtain ⟨j, hj, rfl⟩ := List.getElem_of_mem hs
  have := h j hj
  rw [(mkd_get hj).1] at this
  simp [this]
theorem asc_snoc {l : List Int} {x : Int} (h : asc l) (hx : ∀ y ∈ l, y ≤ x) : asc (l ++ [x]) := by
  unfold asc
  rw [List.pairwise_append]
  exact ⟨h, List.pairwise_singleton _ _, fun a ha b hb => by rw [List.mem_singleton.1 hb]; exact hx a ha⟩
theorem get_set_slt (sl : List Slt) (k j : Nat) (s : Slt) (hk : k < sl.length) : mkd (sl.set k s) j = (if k = j then s.2 else mkd sl j) ∧ ky (sl.set k s) j = (if k = j then s.1 else ky sl j) := by
  unfold mkd ky
  by_cases h : k = j
  · subst h; rw [List.getElem?_set_self hk]; simp
  · rw [List.getElem?_set_ne h, if_neg h, if_neg h]; exact ⟨rfl, rfl⟩
theorem get_erase_slt (sl : List Slt) (k j : Nat) : mkd (sl.eraseIdx k) j = (if j < k then mkd sl j else mkd sl (j + 1)) ∧ ky (sl.eraseIdx k) j = (if j < k then ky sl j else ky sl (j + 1)) := by
  unfold mkd ky
  rw [List.getElem?_eraseIdx]
  split <;> exact ⟨rfl, rfl⟩
theorem unm_get (sl : List Slt) (j : Nat) : mkd (unm sl) j = false ∧ ky (unm sl) j = ky sl j := by
  unfold mkd ky unm
  rw [List.getElem?_map]
  cases sl[j]? <;> exact ⟨rfl, rfl⟩
theorem RsI.close {zs : List Int} {m : Nat} {sl : List Slt} {rest : List Int} {runs : List (List Int)} {run : List Int} (h : RsI zs m sl rest runs run) (h0 : sl.length ≠ 0) (hb : bestI sl sl.length < 0) : RsI zs m (unm sl) rest (runs ++ [run]) [] := by
  have hall := (best_spec sl sl.length).1 hb
  have hul : (unm sl).length = sl.length := by simp [unm]
  have h00 := hall 0 (by omega)
  have hne : run ≠ [] := fun e => by
    have := h.some_ e 0 (by omega)
    rw [h00] at this
    cases this
  refine ⟨?_, fun hr => by rw [hul]; exact h.full hr, ?_, List.Pairwise.nil, (fun x hx => by cases hx), fun _ j _ => (unm_get sl j).1, .inl fun j _ => (unm_get sl j).1⟩
  · have e : (unm sl).map (·.1) = sl.map (·.1) := by simp [unm]
    rw [e]
    simpa using h.perm
  · intro r hr
    rcases List.mem_append.1 hr with hr | hr
    · exact h.runs_ r hr
    · rw [List.mem_singleton.1 hr]
      refine ⟨h.asc_, ?_, List.length_pos_iff.2 hne⟩
      rcases h.cnt with hc | hc
      · have := hc 0 (by omega)
        rw [h00] at this
        cases this
      · rw [count_all hall] at hc
        exact hc
theorem RsI.swap {zs : List Int} {m : Nat} {sl : List Slt} {r : Int} {rest : List Int} {runs : List (List Int)} {run : List Int} (h : RsI zs m sl (r :: rest) runs run) (hb : ¬ bestI sl sl.length < 0) :
    RsI zs m (sl.set (bestI sl sl.length).toNat (r, decide (r < ky sl (bestI sl sl.length).toNat))) rest runs (run ++ [ky sl (bestI sl sl.length).toNat]) := by
  obtain ⟨hk, hke⟩ := best_lt hb
  obtain ⟨hmk, hmin⟩ := (best_spec sl sl.length).2 (by omega)
  have hfull := h.full (by simp)
  generalize (bestI sl sl.length).toNat = k at *
  have hg := fun j => get_set_slt sl k j (r, decide (r < ky sl k)) hk
  have hx : ∀ y ∈ run, y ≤ ky sl k := fun y hy => h.low y hy k hk hmk
  refine ⟨?_, fun _ => by rw [List.length_set]; exact hfull, h.runs_, asc_snoc h.asc_ hx, ?_, fun e => by simp at e, ?_⟩
  · refine List.Perm.trans ?_ h.perm
    refine List.Perm.append_left _ ?_
    rw [List.append_assoc]
    refine List.Perm.append_left _ ?_
    have h2 := (set_perm hk (r, decide (r < ky sl k))).append_right rest
    simp only [List.cons_append, List.nil_append] at h2 ⊢
    exact h2.trans (List.perm_middle.symm)
  · intro x hxm j hj hm
    rw [List.length_set] at hj
    rw [(hg j).1] at hm
    rw [(hg j).2]
    by_cases hkj : k = j
    · rw [if_pos hkj] at hm ⊢
      have hm2 : ¬ r < ky sl k := by simpa using hm
      rcases List.mem_append.1 hxm with h3 | h3
      · have := hx x h3
        show x ≤ r
        omega
      · rw [List.mem_singleton.1 h3]
        show _ ≤ r
        omega
    · rw [if_neg hkj] at hm ⊢
      rcases List.mem_append.1 hxm with h3 | h3
      · exact h.low x h3 j hj hm
      · rw [List.mem_singleton.1 h3]
        exact hmin j hj hm
  · have hc := count_set hk hmk (r, decide (r < ky sl k))
    rw [List.length_append, List.length_singleton]
    have hge : m ≤ run.length + sl.countP (fun s => !s.2) := by
      rcases h.cnt with h1 | h1
      · rw [count_none h1]; omega
      · exact h1
    right
    simp only at hc
    split at hc <;> omega
theorem RsI.drop {zs : List Int} {m : Nat} {sl : List Slt} {runs : List (List Int)} {run : List Int} (h : RsI zs m sl [] runs run) (hb : ¬ bestI sl sl.length < 0) :
    RsI zs m (sl.eraseIdx (bestI sl sl.length).toNat) [] runs (run ++ [ky sl (bestI sl sl.length).toNat]) := by
  obtain ⟨hk, hke⟩ := best_lt hb
  obtain ⟨hmk, hmin⟩ := (best_spec sl sl.length).2 (by omega)
  generalize (bestI sl sl.length).toNat = k at *
  have hg := fun j => get_erase_slt sl k j
  have hlen := List.length_eraseIdx_of_lt hk
  have hx : ∀ y ∈ run, y ≤ ky sl k := fun y hy => h.low y hy k hk hmk
  refine ⟨?_, fun e => absurd rfl e, h.runs_, asc_snoc h.asc_ hx, ?_, fun e => by simp at e, ?_⟩
  · refine List.Perm.trans ?_ h.perm
    refine List.Perm.append_left _ ?_
    rw [List.append_assoc]
    refine List.Perm.append_left _ ?_
    exact (erase_perm hk).append_right []
  · intro x hxm j hj hm
    rw [hlen] at hj
    rw [(hg j).1] at hm
    rw [(hg j).2]
    by_cases hkj : j < k
    · rw [if_pos hkj] at hm ⊢
      rcases List.mem_append.1 hxm with h3 | h3
      · exact h.low x h3 j (by omega) hm
      · rw [List.mem_singleton.1 h3]
        exact hmin j (by omega) hm
    · rw [if_neg hkj] at hm ⊢
      rcases List.mem_append.1 hxm with h3 | h3
      · exact h.low x h3 (j + 1) (by omega) hm
      · rw [List.mem_singleton.1 h3]
        exact hmin (j + 1) (by omega) hm
  · rcases h.cnt with h1 | h1
    · left
      intro j hj
      rw [hlen] at hj
      rw [(hg j).1]
      split
      · exact h1 j (by omega)
      · exact h1 (j + 1) (by omega)
    · right
      have hc := count_erase hk hmk
      rw [List.length_append, List.length_singleton]
      omega
/-- what comes out: the runs' elements are the list's, each run ascends and is not empty, all but the last are at least as long as the memory -/
structure RsO (zs : List Int) (m : Nat) (out : List (List Int)) : Prop where
  perm : out.flatten.Perm zs
  asc_ : ∀ r ∈ out, asc r ∧ 0 < r.length
  long : ∀ i, i + 1 < out.length → ∀ r, out[i]? = some r → m ≤ r.length
theorem rs_out {zs : List Int} {m : Nat} : ∀ (F : Nat) (sl : List Slt) (rest : List Int) (runs : List (List Int)) (run : List Int), rsM sl rest < F → 1 ≤ m → RsI zs m sl rest runs run → RsO zs m (rsF F sl rest runs run)
  | 0, _, _, _, _, h, _, _ => by omega
  | F + 1, sl, rest, runs, run, hF, hm, h => by
    unfold rsF
    by_cases h0 : sl.length = 0
    · rw [if_pos h0]
      have hsl : sl = [] := List.eq_nil_of_length_eq_zero h0
      subst hsl
      have hrest : rest = [] := by
        cases rest with
        | nil => rfl
        | cons a l => have := h.full (by simp); simp at this; omega
      subst hrest
      have hp := h.perm
      by_cases hr : run.length = 0
      · rw [if_pos hr]
        have : run = [] := List.eq_nil_of_length_eq_zero hr
        subst this
        exact ⟨by simpa using hp, fun r hr => ⟨(h.runs_ r hr).1, (h.runs_ r hr).2.2⟩, fun i _ r e => (h.runs_ r (List.mem_of_getElem? e)).2.1⟩
      · rw [if_neg hr]
        refine ⟨by simpa using hp, ?_, ?_⟩
        · intro r hr2
          rcases List.mem_append.1 hr2 with h9 | h9
          · exact ⟨(h.runs_ r h9).1, (h.runs_ r h9).2.2⟩
          · rw [List.mem_singleton.1 h9]
            exact ⟨h.asc_, by omega⟩
        · intro i hi r e
          rw [List.length_append, List.length_singleton] at hi
          rw [List.getElem?_append_left (by omega)] at e
          exact (h.runs_ r (List.mem_of_getElem? e)).2.1
    · rw [if_neg h0]
      by_cases hb : bestI sl sl.length < 0
      · rw [if_pos hb]
        exact rs_out F _ _ _ _ (by have := rsM_unm (rest := rest) h0 hb; omega) hm (h.close h0 hb)
      · rw [if_neg hb]
        cases rest with
        | nil => exact rs_out F _ _ _ _ (by have := rsM_erase (best_lt hb).1; omega) hm (h.drop hb)
        | cons r rest => exact rs_out F _ _ _ _ (by have := rsM_set (sl := sl) (r := r) (rest := rest) (bestI sl sl.length).toNat (r, decide (r < ky sl (bestI sl sl.length).toNat)); omega) hm (h.swap hb)
theorem rsV_out (zs : List Int) {m : Nat} (hm : 1 ≤ m) : RsO zs m (rsV zs m) := by
  have hmk : ∀ j, mkd ((zs.take m).map fun x => (x, false)) j = false := by
    intro j
    unfold mkd
    rw [List.getElem?_map]
    cases (zs.take m)[j]? <;> rfl
  unfold rsV
  refine rs_out _ _ _ _ _ ?_ hm ⟨?_, ?_, by simp, List.Pairwise.nil, by simp, fun _ j _ => hmk j, .inl fun j _ => hmk j⟩
  · have := (rsM_le ((zs.take m).map fun x => (x, false)) (zs.drop m)).2
    simp only [List.length_map, List.length_take, List.length_drop] at this
    omega
  · simp [Function.comp_def]
  · intro h
    rw [List.length_map, List.length_take]
    have : 0 < (zs.drop m).length := List.length_pos_iff.2 h
    rw [List.length_drop] at this
    omega
/-- there are no more runs than batches of the memory's size -/
theorem rs_count {zs : List Int} {m : Nat} {out : List (List Int)} (h : RsO zs m out) (hm : 1 ≤ m) : out.length ≤ (zs.length + m - 1) / m := by
  have hl := h.perm.length_eq
  rcases Nat.eq_zero_or_pos out.length with h0 | h0
  · rw [h0]; exact Nat.zero_le _
  · have key : (out.length - 1) * m + 1 ≤ zs.length := by
      rw [← hl]
      have h1 := h.long
      have h2 := h.asc_
      clear hl h
      induction out with
      | nil => simp at h0
      | cons a l ih =>
        cases l with
        | nil =>
          have := (h2 a List.mem_cons_self).2
          simp; omega
        | cons b l =>
          have := ih (by simp) (fun i hi r e => h1 (i + 1) (by simp at hi ⊢; omega) r (by simpa using e)) (fun r hr => h2 r (List.mem_cons_of_mem _ hr))
          have ha := h1 0 (by simp) a rfl
          rw [List.flatten_cons, List.length_append]
          have e : (a :: b :: l).length - 1 = (b :: l).length - 1 + 1 := by simp
          rw [e, Nat.add_mul]
          omega
    rw [Nat.le_div_iff_mul_le (by omega)]
    have : out.length * m = (out.length - 1) * m + m := by
      have : out.length = out.length - 1 + 1 := by omega
      rw [this, Nat.add_mul]
      simp
    omega
end Go.Proofs.Ytecbagdljgnloaa
