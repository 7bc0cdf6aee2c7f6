/- The shuffle by random keys, plain: the keys differ, so sorting by them has one outcome. -/
import Derived.Test.YtfpojoabfdiadaaStbM
namespace Go.Proofs.Ytfpojoabfdiadaa
set_option linter.unusedVariables false
def lcg (s : Int) : Int := (1103515245 * s + 12345) % 2147483648
def itL : Nat → Int → Int
  | 0, s => s
  | i + 1, s => lcg (itL i s)
def kL (s : Int) (n : Nat) : List Int := (List.range n).map fun i => itL (i + 1) s
@[simp] theorem kL_len (s : Int) (n : Nat) : (kL s n).length = n := by simp [kL]
theorem kL_succ (s : Int) (n : Nat) : kL s (n + 1) = kL s n ++ [itL (n + 1) s] := by simp [kL, List.range_succ]
theorem itL_bd {s : Int} (h : 0 ≤ s ∧ s < 2147483648) : ∀ i, 0 ≤ itL i s ∧ itL i s < 2147483648
  | 0 => h
  | i + 1 => by unfold itL lcg; omega
def it64 : Nat → Nat → Nat
  | 0, r => r
  | i + 1, r => (45 * it64 i r + 57) % 64
theorem it64_add (r a : Nat) : ∀ b, it64 (a + b) r = it64 b (it64 a r)
  | 0 => rfl
  | b + 1 => by
    have := it64_add r a b
    show (45 * it64 (a + b) r + 57) % 64 = (45 * it64 b (it64 a r) + 57) % 64
    rw [this]
theorem it64_lt (r : Nat) : ∀ i, 1 ≤ i → it64 i r < 64
  | i + 1, _ => by unfold it64; omega
theorem it64_ne : ∀ r : Fin 64, ∀ d : Fin 64, d.val ≠ 0 → it64 d.val r.val ≠ r.val := by decide +kernel
theorem itL_mod (s : Int) : ∀ i, itL i s % 64 = ((it64 i (s % 64).toNat : Nat) : Int)
  | 0 => by show s % 64 = (((s % 64).toNat : Nat) : Int); omega
  | i + 1 => by
    have ih := itL_mod s i
    show lcg (itL i s) % 64 = (((45 * it64 i (s % 64).toNat + 57) % 64 : Nat) : Int)
    unfold lcg
    generalize itL i s = x at *
    generalize it64 i (s % 64).toNat = y at *
    omega
theorem itL_inj {s : Int} {i j : Nat} (hij : i < j) (hj : j < 64 + i) (hi : 1 ≤ i) : itL i s ≠ itL j s := by
  intro h
  have h1 := itL_mod s i
  have h2 := itL_mod s j
  rw [h, h2] at h1
  have h3 : it64 j (s % 64).toNat = it64 i (s % 64).toNat := by omega
  rw [show j = i + (j - i) by omega, it64_add] at h3
  have hlt := it64_lt (s % 64).toNat i hi
  exact it64_ne ⟨it64 i (s % 64).toNat, hlt⟩ ⟨j - i, by omega⟩ (by show j - i ≠ 0; omega) h3
def kf (K : List Int) (x : Int) : Int := K[x.toNat]?.getD 0
def gI (z : List Int) (x : Int) : Int := z[x.toNat]?.getD 0
def idxL (n : Nat) : List Int := (List.range n).map fun i : Nat => (i : Int)
@[simp] theorem idxL_len (n : Nat) : (idxL n).length = n := by simp [idxL]
theorem idxL_succ (n : Nat) : idxL (n + 1) = idxL n ++ [(n : Int)] := by simp [idxL, List.range_succ]
theorem kf_kL {s : Int} {n i : Nat} (h : i < n) : kf (kL s n) (i : Int) = itL (i + 1) s := by simp [kf, kL, h]
/-! ### insertion by keys -/
def atR (ks : List Int) (x : Int) : Nat → Nat
  | 0 => 0
  | k + 1 => if x < gt ks k then atR ks x k else k + 1
theorem atR_facts (ks : List Int) (x : Int) : ∀ k, atR ks x k ≤ k ∧ (∀ j, atR ks x k ≤ j → j < k → x < gt ks j) ∧ (0 < atR ks x k → gt ks (atR ks x k - 1) ≤ x)
  | 0 => ⟨Nat.le_refl _, fun j h1 h2 => by omega, fun h => by simp [atR] at h⟩
  | k + 1 => by
    obtain ⟨h1, h2, h3⟩ := atR_facts ks x k
    unfold atR
    by_cases h : x < gt ks k
    · rw [if_pos h]
      refine ⟨by omega, fun j j1 j2 => ?_, h3⟩
      by_cases hj : j = k
      · subst hj; exact h
      · exact h2 j j1 (by omega)
    · rw [if_neg h]
      exact ⟨Nat.le_refl _, fun j j1 j2 => by omega, fun _ => by rw [Nat.add_sub_cancel]; omega⟩
def insA {α : Type} (l : List α) (k : Nat) (v : α) : List α := l.take k ++ [v] ++ l.drop k
theorem insA_len {α : Type} {l : List α} {k : Nat} (v : α) (h : k ≤ l.length) : (insA l k v).length = l.length + 1 := by
  simp [insA]; omega
theorem insA_perm {α : Type} (l : List α) (k : Nat) (v : α) : (insA l k v).Perm (v :: l) := by
  unfold insA
  rw [List.append_assoc, List.singleton_append]
  refine List.perm_middle.trans ?_
  rw [List.take_append_drop]
theorem insA_zip {α β : Type} {l : List α} {r : List β} {k : Nat} (v : α) (u : β) (h : l.length = r.length) (hk : k ≤ l.length) : (insA l k v).zip (insA r k u) = insA (l.zip r) k (v, u) := by
  unfold insA
  rw [List.zip_append (by simp; omega), List.zip_append (by simp [h])]
  simp only [List.zip, List.take_zipWith, List.drop_zipWith]
  rfl
/-- the keys and the values so far -/
def SI (z : List Int) (s : Int) : Nat → List Int × List Int
  | 0 => ([], [])
  | i + 1 => (insA (SI z s i).1 (atR (SI z s i).1 (itL (i + 1) s) (SI z s i).1.length) (itL (i + 1) s), insA (SI z s i).2 (atR (SI z s i).1 (itL (i + 1) s) (SI z s i).1.length) (gt z i))
def shL (z : List Int) (s : Int) : List Int := (SI z s z.length).2
theorem gt_mem {l : List Int} {y : Int} (h : y ∈ l) : ∃ j, j < l.length ∧ gt l j = y := by
  obtain ⟨j, hj, rfl⟩ := List.mem_iff_getElem.1 h
  exact ⟨j, hj, by simp [gt, hj]⟩
theorem SI_facts (z : List Int) (s : Int) : ∀ i, i ≤ z.length → (SI z s i).1.length = i ∧ (SI z s i).2.length = i ∧ (SI z s i).1.Pairwise (· ≤ ·) ∧ ((SI z s i).1.zip (SI z s i).2).Perm ((kL s i).zip (z.take i))
  | 0, _ => by simp [SI, kL]
  | i + 1, hi => by
    obtain ⟨h1, h2, h3, h4⟩ := SI_facts z s i (by omega)
    obtain ⟨a1, a2, a3⟩ := atR_facts (SI z s i).1 (itL (i + 1) s) (SI z s i).1.length
    unfold SI
    generalize (SI z s i).1 = ks at *
    generalize (SI z s i).2 = os at *
    generalize hx : itL (i + 1) s = x at *
    generalize hk : atR ks x ks.length = k at *
    refine ⟨by rw [insA_len _ a1, h1], by rw [insA_len _ (by omega), h2], ?_, ?_⟩
    · unfold insA
      rw [List.append_assoc, List.pairwise_append]
      have hlow : ∀ y ∈ ks.take k, y ≤ x := by
        intro y hy
        obtain ⟨j, hj, rfl⟩ := List.mem_iff_getElem.1 hy
        have hjk : j < k := by rw [List.length_take] at hj; omega
        rw [List.getElem_take]
        have h5 := a3 (by omega)
        have h6 : ks[j]'(by omega) ≤ ks[k - 1]'(by omega) := by
          by_cases e : j = k - 1
          · subst e; exact Int.le_refl _
          · exact List.pairwise_iff_getElem.1 h3 j (k - 1) (by omega) (by omega) (by omega)
        have h7 : gt ks (k - 1) = ks[k - 1]'(by omega) := by unfold gt; rw [List.getElem?_eq_getElem (by omega)]; rfl
        omega
      have hhigh : ∀ y ∈ ks.drop k, x < y := by
        intro y hy
        obtain ⟨j, hj, rfl⟩ := List.mem_iff_getElem.1 hy
        rw [List.length_drop] at hj
        rw [List.getElem_drop]
        have h5 := a2 (k + j) (by omega) (by omega)
        have h7 : gt ks (k + j) = ks[k + j]'(by omega) := by unfold gt; rw [List.getElem?_eq_getElem (by omega)]; rfl
        omega
      refine ⟨h3.sublist (List.take_sublist _ _), ?_, ?_⟩
      · rw [List.singleton_append, List.pairwise_cons]
        exact ⟨fun y hy => by have := hhigh y hy; omega, h3.sublist (List.drop_sublist _ _)⟩
      · intro y hy u hu
        rw [List.singleton_append] at hu
        have h5 := hlow y hy
        rcases List.mem_cons.1 hu with rfl | hu
        · exact h5
        · have := hhigh u hu; omega
    · rw [insA_zip _ _ (by omega) a1]
      have hz : z.take (i + 1) = z.take i ++ [gt z i] := by
        rw [List.take_succ_eq_append_getElem (by omega)]
        unfold gt
        rw [List.getElem?_eq_getElem (by omega)]; rfl
      rw [kL_succ, hz, hx, List.zip_append (by simp; omega)]
      refine (insA_perm _ _ _).trans ?_
      refine (h4.cons _).trans ?_
      simp only [List.zip_cons_cons, List.zip_nil_right]
      exact (List.perm_append_singleton _ _).symm
theorem pairs_eq {z : List Int} {s : Int} {n : Nat} (hz : z.length = n) : (kL s n).zip z = (idxL n).map fun d => (kf (kL s n) d, gI z d) := by
  apply List.ext_getElem
  · simp [hz]
  · intro i h1 h2
    simp at h1 h2
    simp only [List.getElem_zip, List.getElem_map]
    have e : (idxL n)[i]'(by simp; omega) = (i : Int) := by simp [idxL]
    rw [e, kf_kL (by omega)]
    simp [kL, gI, hz, h2]
/-- sorting by the keys has one outcome -/
theorem sh_of {D z : List Int} {s : Int} {n : Nat} (hn : n ≤ 64) (hD : D.Perm (idxL n)) (hS : Srt (kf (kL s n)) D 0 n) (hz : z.length = n) : D.map (gI z) = shL z s := by
  obtain ⟨h1, h2, h3, h4⟩ := SI_facts z s n (by omega)
  rw [List.take_of_length_le (show z.length ≤ n by omega), pairs_eq hz] at h4
  have hl : D.length = n := by rw [hD.length_eq]; simp
  have hQ : (D.map fun d => (kf (kL s n) d, gI z d)).Perm ((idxL n).map fun d => (kf (kL s n) d, gI z d)) := hD.map _
  have hinj : ∀ p q : Int × Int, p ∈ ((idxL n).map fun d => (kf (kL s n) d, gI z d)) → q ∈ ((idxL n).map fun d => (kf (kL s n) d, gI z d)) → p.1 ≤ q.1 → q.1 ≤ p.1 → p = q := by
    intro p q hp hq hpq hqp
    simp only [idxL, List.map_map, List.mem_map, List.mem_range, Function.comp_def] at hp hq
    obtain ⟨i, hi, rfl⟩ := hp
    obtain ⟨j, hj, rfl⟩ := hq
    simp only [kf_kL hi, kf_kL hj] at hpq hqp
    have he : i = j := by
      rcases Nat.lt_trichotomy i j with h | h | h
      · exact absurd (by omega) (itL_inj (s := s) (i := i + 1) (j := j + 1) (by omega) (by omega) (by omega))
      · exact h
      · exact absurd (by omega) (itL_inj (s := s) (i := j + 1) (j := i + 1) (by omega) (by omega) (by omega))
    rw [he]
  have hQs : (D.map fun d => (kf (kL s n) d, gI z d)).Pairwise (fun p q => p.1 ≤ q.1) := by
    rw [List.pairwise_map, List.pairwise_iff_getElem]
    intro i j hi hj hij
    have := hS i j (by omega) (by omega) (by omega)
    simpa [gt, hi, hj] using this
  have hZs : ((SI z s n).1.zip (SI z s n).2).Pairwise (fun p q => p.1 ≤ q.1) := by
    rw [List.pairwise_iff_getElem]
    intro i j hi hj hij
    simp only [List.getElem_zip]
    simp at hi hj
    exact List.pairwise_iff_getElem.1 h3 i j (by omega) (by omega) hij
  have hEQ := List.Perm.eq_of_pairwise (fun a b ha hb h5 h6 => hinj a b (hQ.mem_iff.1 ha) (h4.mem_iff.1 hb) h5 h6) hQs hZs (hQ.trans h4.symm)
  have h5 := congrArg (List.map Prod.snd) hEQ
  rw [List.map_map, List.map_snd_zip (by omega)] at h5
  unfold shL
  rw [hz, ← h5]
  rfl
end Go.Proofs.Ytfpojoabfdiadaa
