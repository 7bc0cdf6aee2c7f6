/- Plain mathematics of merging the least runs: no dearer than merging from left to right. -/
import Derived.Test.YtphcfjdhichfkaaSort
namespace Go.Proofs.Ytphcfjdhichfkaa
open Go.RowKit
set_option linter.unusedVariables false
theorem sum_of_perm {a b : List Int} (h : a.Perm b) : a.sum = b.sum := by
  induction h with
  | nil => rfl
  | cons x _ ih => simp only [List.sum_cons, ih]
  | swap x y l => simp only [List.sum_cons]; omega
  | trans _ _ h1 h2 => exact h1.trans h2
theorem take_sum_step {s : List Int} (x : Int) : ∀ (k : Nat), k < s.length → (∀ y ∈ s, x ≤ y) → x + (s.take k).sum ≤ (s.take (k + 1)).sum := by
  intro k hk h
  rw [List.take_succ_eq_append_getElem hk, List.sum_append]
  have := h s[k] (List.getElem_mem hk)
  simp
  omega
/-- the least elements sum to no more than any others of that number -/
theorem least_sum : ∀ (s A B : List Int), s.Pairwise (· ≤ ·) → s.Perm (A ++ B) → (s.take A.length).sum ≤ A.sum := by
  intro s
  induction s with
  | nil =>
    intro A B _ hp
    have := hp.length_eq
    simp only [List.length_nil, List.length_append] at this
    have hA : A = [] := List.eq_nil_of_length_eq_zero (by omega)
    subst hA
    simp
  | cons x s ih =>
    intro A B hs hp
    rw [List.pairwise_cons] at hs
    have hx : x ∈ A ++ B := hp.mem_iff.1 (by simp)
    rcases List.mem_append.1 hx with h | h
    · have hA := List.perm_cons_erase h
      have hp2 : (x :: s).Perm (x :: (A.erase x ++ B)) := hp.trans (hA.append_right B)
      have hi := ih (A.erase x) B hs.2 ((List.perm_cons x).1 hp2)
      have hl := hA.length_eq
      have hsum := sum_of_perm hA
      rw [hl]
      simp only [List.length_cons, List.take_succ_cons, List.sum_cons] at hi hsum ⊢
      omega
    · have hB := List.perm_cons_erase h
      have hp2 : (x :: s).Perm (x :: (A ++ B.erase x)) := (hp.trans (hB.append_left A)).trans List.perm_middle
      have hp3 := (List.perm_cons x).1 hp2
      have hi := ih A (B.erase x) hs.2 hp3
      cases A with
      | nil => simp
      | cons y A =>
        have hl := hp3.length_eq
        simp only [List.length_append, List.length_cons] at hl
        have := take_sum_step x A.length (s := s) (by omega) hs.1
        simp only [List.length_cons, List.take_succ_cons, List.sum_cons] at hi ⊢
        omega
/-- the least of the weights under way sum to no more than a prefix of the list as given -/
def HInv (l W : List Int) : Prop := ∀ j, j ≤ W.length → (W.take j).sum ≤ (l.take (l.length - W.length + j)).sum
theorem hinv_start (l : List Int) : HInv l (srt l) := by
  intro j hj
  rw [srt_len] at hj ⊢
  have h := least_sum (srt l) (l.take j) (l.drop j) (srt_pair l) (by rw [List.take_append_drop]; exact srt_perm l)
  rw [List.length_take, Nat.min_eq_left hj] at h
  rw [show l.length - l.length + j = j by omega]
  exact h
theorem hinv_step {l W : List Int} (hW : W.length ≤ l.length) (h : HInv l W) (h0 : ∀ i, 0 ≤ (l.take i).sum) (r : Nat) (hr : 1 ≤ r) (hrW : r ≤ W.length) : HInv l (srt ((W.take r).sum :: W.drop r)) := by
  intro j hj
  rw [srt_len] at hj ⊢
  simp only [List.length_cons, List.length_drop] at hj ⊢
  cases j with
  | zero => simp only [List.take_zero, List.sum_nil]; exact h0 _
  | succ j =>
    have h1 := least_sum (srt ((W.take r).sum :: W.drop r)) ((W.take r).sum :: (W.drop r).take j) ((W.drop r).drop j) (srt_pair _) (by
      rw [List.cons_append, List.take_append_drop]; exact srt_perm _)
    have h2 := h (r + j) (by omega)
    rw [List.take_add, List.sum_append] at h2
    simp only [List.length_cons, List.length_take, List.length_drop, List.sum_cons, Nat.min_eq_left (show j ≤ W.length - r by omega)] at h1
    rw [show l.length - (W.length - r + 1) + (j + 1) = l.length - W.length + (r + j) by omega]
    omega
/-- the sum of the prefixes of i elements, lo <= i <= lo + k - 1 -/
def preS (l : List Int) (lo : Nat) : Nat → Int
  | 0 => 0
  | k + 1 => (l.take lo).sum + preS l (lo + 1) k
/-- the cost of merging the two least, without the machine's wrap -/
def ncL : Nat → List Int → Int
  | f + 1, a :: b :: r => (a + b) + ncL f (srt (r ++ [a + b]))
  | _, _ => 0
theorem preS_nonneg {l : List Int} (h0 : ∀ i, 0 ≤ (l.take i).sum) : ∀ k lo, 0 ≤ preS l lo k := by
  intro k
  induction k with
  | zero => intro lo; exact Int.le_refl _
  | succ k ih => intro lo; have := ih (lo + 1); have := h0 lo; simp only [preS]; omega
theorem nc_bound {l : List Int} (h0 : ∀ i, 0 ≤ (l.take i).sum) : ∀ (f : Nat) (W : List Int), W.length ≤ l.length → HInv l W → ncL f W ≤ preS l (l.length - W.length + 2) (W.length - 1) := by
  intro f
  induction f with
  | zero => intro W _ _; exact preS_nonneg h0 _ _
  | succ f ih =>
    intro W hW h
    match W, hW, h with
    | [], _, _ => exact preS_nonneg h0 _ _
    | [a], _, _ => exact preS_nonneg h0 _ _
    | a :: b :: r, hW, h =>
      have hp : (r ++ [a + b]).Perm ([a + b] ++ r) := List.perm_append_comm
      have e : srt (r ++ [a + b]) = srt ((((a :: b :: r).take 2).sum) :: (a :: b :: r).drop 2) := by
        refine srt_of ((srt_perm _).trans ?_) (srt_pair _)
        simp
      have hs := hinv_step hW h h0 2 (by omega) (by simp)
      have h2 := h 2 (by simp)
      rw [← e] at hs
      have hl : (srt (r ++ [a + b])).length = r.length + 1 := by rw [srt_len]; simp
      have hi := ih (srt (r ++ [a + b])) (by rw [hl]; simp at hW; omega) hs
      rw [hl] at hi
      simp only [List.length_cons] at hi h2 hW ⊢
      simp only [List.take_succ_cons, List.take_zero, List.sum_cons, List.sum_nil] at h2
      rw [ncL, show r.length + 1 + 1 - 1 = r.length + 1 by omega, preS]
      rw [show l.length - (r.length + 1) + 2 = l.length - (r.length + 1 + 1) + 2 + 1 by omega, show r.length + 1 - 1 = r.length by omega] at hi
      omega
theorem sum_nonneg {l : List Int} (h : ∀ x ∈ l, 0 ≤ x) : 0 ≤ l.sum := by
  induction l with
  | nil => exact Int.le_refl _
  | cons a l ih =>
    have h1 := h a (by simp)
    have h2 := ih (fun x hx => h x (by simp [hx]))
    simp only [List.sum_cons]; omega
theorem le_sum {l : List Int} (h : ∀ x ∈ l, 0 ≤ x) : ∀ x ∈ l, x ≤ l.sum := by
  induction l with
  | nil => intro x hx; cases hx
  | cons a l ih =>
    intro x hx
    have h1 := h a (by simp)
    have h3 := sum_nonneg (fun x hx => h x (List.mem_cons_of_mem a hx))
    simp only [List.sum_cons]
    rcases List.mem_cons.1 hx with rfl | h2
    · omega
    · have := ih (fun x hx => h x (List.mem_cons_of_mem a hx)) x h2; omega
theorem nc_sum : ∀ (f : Nat) (W : List Int), 2 ≤ W.length → W.length ≤ f + 1 → (∀ x ∈ W, 0 ≤ x) → W.sum ≤ ncL f W := by
  intro f
  induction f with
  | zero => intro W h1 h2; omega
  | succ f ih =>
    intro W h1 h2 hW
    match W, h1, h2, hW with
    | [a, b], _, _, hW =>
      simp only [ncL, List.sum_cons, List.sum_nil]
      have e : ncL f (srt ([] ++ [a + b])) = 0 := by
        have hl : (srt ([] ++ [a + b])).length = 1 := by rw [srt_len]; rfl
        match srt ([] ++ [a + b]), hl with
        | [x], _ => cases f <;> rfl
      omega
    | a :: b :: c :: r, _, h2, hW =>
      have ha := hW a (by simp)
      have hb0 := hW b (by simp)
      have hi := ih (srt (c :: r ++ [a + b])) (by rw [srt_len]; simp) (by rw [srt_len]; simp at h2 ⊢; omega) (fun x hx => by
          rcases List.mem_append.1 ((srt_perm _).mem_iff.1 hx) with h | h
          · exact hW x (List.mem_cons_of_mem a (List.mem_cons_of_mem b h))
          · rw [List.mem_singleton.1 h]; omega)
      rw [sum_of_perm (srt_perm _), List.sum_append] at hi
      simp only [ncL, List.sum_cons, List.sum_nil] at hi ⊢
      omega
theorem preS_skip {l : List Int} (h0 : ∀ i, 0 ≤ (l.take i).sum) : ∀ d lo k, preS l (lo + d) k ≤ preS l lo (k + d) := by
  intro d
  induction d with
  | zero => intro lo k; exact Int.le_refl _
  | succ d ih =>
    intro lo k
    have h1 := ih (lo + 1) k
    have h2 := h0 lo
    rw [show lo + (d + 1) = lo + 1 + d by omega, show k + (d + 1) = k + d + 1 by omega, preS]
    omega
theorem take_nonneg {l : List Int} (h : ∀ x ∈ l, 0 ≤ x) (i : Nat) : 0 ≤ (l.take i).sum := sum_nonneg (fun x hx => h x (List.mem_of_mem_take hx))
theorem preS_snoc (l : List Int) : ∀ k lo, preS l lo (k + 1) = preS l lo k + (l.take (lo + k)).sum := by
  intro k
  induction k with
  | zero => intro lo; simp [preS]
  | succ k ih =>
    intro lo
    rw [preS, ih (lo + 1), preS, show lo + 1 + k = lo + (k + 1) by omega]
    omega
theorem take_le {l : List Int} (h : ∀ x ∈ l, 0 ≤ x) (i : Nat) : (l.take i).sum ≤ l.sum := by
  have h5 : l.sum = (l.take i).sum + (l.drop i).sum := by rw [← List.sum_append, List.take_append_drop]
  have := sum_nonneg (l := l.drop i) (fun x hx => h x (List.mem_of_mem_drop hx))
  omega
theorem preS_le {l : List Int} (h : ∀ x ∈ l, 0 ≤ x) : ∀ k lo, preS l lo k ≤ k * l.sum := by
  intro k
  induction k with
  | zero => intro lo; simp [preS]
  | succ k ih =>
    intro lo
    have h1 := ih (lo + 1)
    have h2 := take_le h lo
    have e : ((k + 1 : Nat) : Int) * l.sum = k * l.sum + l.sum := by rw [Int.natCast_add, Int.add_mul]; simp
    rw [preS]; omega
theorem sum_le_mul {l : List Int} {M : Int} (h : ∀ x ∈ l, x ≤ M) : l.sum ≤ l.length * M := by
  induction l with
  | nil => simp
  | cons a l ih =>
    have h1 := h a (by simp)
    have h2 := ih (fun x hx => h x (List.mem_cons_of_mem a hx))
    have e : ((l.length + 1 : Nat) : Int) * M = l.length * M + M := by rw [Int.natCast_add, Int.add_mul]; simp
    simp only [List.sum_cons, List.length_cons]; omega
theorem mulM {n k : Nat} {M : Int} (h : n ≤ k) (hM : 0 ≤ M) : (n : Int) * M ≤ k * M := Int.mul_le_mul_of_nonneg_right (by omega) hM
end Go.Proofs.Ytphcfjdhichfkaa
