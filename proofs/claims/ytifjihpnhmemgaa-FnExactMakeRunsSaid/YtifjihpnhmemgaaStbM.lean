/- The parts of a stable sort in place, plain: swaps, rotations, insertion, merging by halves. -/
import Derived.Test.YtifjihpnhmemgaaLib
namespace Go.Proofs.Ytifjihpnhmemgaa
set_option linter.unusedVariables false
def gt (D : List Int) (k : Nat) : Int := D[k]?.getD 0
def swp (D : List Int) (i j : Nat) : List Int := (D.set i (gt D j)).set j (gt D i)
@[simp] theorem swp_len (D : List Int) (i j : Nat) : (swp D i j).length = D.length := by simp [swp]
theorem swp_get {D : List Int} {i j : Nat} (hi : i < D.length) (hj : j < D.length) (k : Nat) : gt (swp D i j) k = if k = j then gt D i else if k = i then gt D j else gt D k := by
  unfold swp
  generalize hx : gt D i = x
  generalize hy : gt D j = y
  unfold gt
  by_cases h1 : k = j
  · subst h1
    rw [List.getElem?_set_self (by simpa using hj), if_pos rfl]; rfl
  · rw [List.getElem?_set_ne (by omega), if_neg h1]
    by_cases h2 : k = i
    · subst h2
      rw [List.getElem?_set_self hi, if_pos rfl]; rfl
    · rw [List.getElem?_set_ne (by omega), if_neg h2]
theorem gt_get {D : List Int} {k : Nat} (h : k < D.length) : D[k]? = some (gt D k) := by
  unfold gt; rw [List.getElem?_eq_getElem h]; rfl
theorem swp_perm {D : List Int} {i j : Nat} (hi : i < D.length) (hj : j < D.length) : (swp D i j).Perm D := by
  unfold swp gt
  rw [List.getElem?_eq_getElem hi, List.getElem?_eq_getElem hj]
  exact List.set_set_perm hi hj
/-- only the stretch from a to b has turned -/
structure Seg (D E : List Int) (a b : Nat) : Prop where
  perm : E.Perm D
  out : ∀ k, k < a ∨ b ≤ k → gt E k = gt D k
  mem : ∀ k, a ≤ k → k < b → ∃ j, a ≤ j ∧ j < b ∧ gt E k = gt D j
theorem Seg.refl (D : List Int) (a b : Nat) : Seg D D a b := ⟨List.Perm.refl _, fun _ _ => rfl, fun k h1 h2 => ⟨k, h1, h2, rfl⟩⟩
theorem Seg.trans {D E F : List Int} {a b : Nat} (h : Seg D E a b) (g : Seg E F a b) : Seg D F a b :=
  ⟨g.perm.trans h.perm, fun k hk => (g.out k hk).trans (h.out k hk), fun k h1 h2 => by
    obtain ⟨j, j1, j2, e⟩ := g.mem k h1 h2
    obtain ⟨i, i1, i2, e2⟩ := h.mem j j1 j2
    exact ⟨i, i1, i2, e.trans e2⟩⟩
theorem Seg.len {D E : List Int} {a b : Nat} (h : Seg D E a b) : E.length = D.length := h.perm.length_eq
theorem Seg.wide {D E : List Int} {a b a' b' : Nat} (h : Seg D E a b) (ha : a' ≤ a) (hb : b ≤ b') : Seg D E a' b' :=
  ⟨h.perm, fun k hk => h.out k (by omega), fun k h1 h2 => by
    by_cases hk : a ≤ k ∧ k < b
    · obtain ⟨j, j1, j2, e⟩ := h.mem k hk.1 hk.2
      exact ⟨j, by omega, by omega, e⟩
    · exact ⟨k, h1, h2, h.out k (by omega)⟩⟩
theorem swp_seg {D : List Int} {i j a b : Nat} (hb : b ≤ D.length) (hi : a ≤ i ∧ i < b) (hj : a ≤ j ∧ j < b) : Seg D (swp D i j) a b := by
  have hg := swp_get (D := D) (i := i) (j := j) (by omega) (by omega)
  refine ⟨swp_perm (by omega) (by omega), fun k hk => ?_, fun k h1 h2 => ?_⟩
  · rw [hg, if_neg (by omega), if_neg (by omega)]
  · rw [hg]
    by_cases h3 : k = j
    · rw [if_pos h3]; exact ⟨i, hi.1, hi.2, rfl⟩
    · rw [if_neg h3]
      by_cases h4 : k = i
      · rw [if_pos h4]; exact ⟨j, hj.1, hj.2, rfl⟩
      · rw [if_neg h4]; exact ⟨k, h1, h2, rfl⟩
/-- the stretch from a to b ascends by the keys -/
def Srt (f : Int → Int) (D : List Int) (a b : Nat) : Prop := ∀ i j, a ≤ i → i ≤ j → j < b → f (gt D i) ≤ f (gt D j)
theorem Srt.sub {f : Int → Int} {D : List Int} {a b a' b' : Nat} (h : Srt f D a b) (ha : a ≤ a') (hb : b' ≤ b) : Srt f D a' b' := fun i j h1 h2 h3 => h i j (by omega) h2 (by omega)
theorem Srt.one {f : Int → Int} {D : List Int} {a b : Nat} (h : b ≤ a + 1) : Srt f D a b := fun i j h1 h2 h3 => by
  have : i = j := by omega
  subst this
  exact Int.le_refl _
theorem Srt.out {f : Int → Int} {D E : List Int} {a b c d : Nat} (h : Srt f D a b) (g : Seg D E c d) (hd : b ≤ c ∨ d ≤ a) : Srt f E a b := fun i j h1 h2 h3 => by
  rw [g.out i (by omega), g.out j (by omega)]
  exact h i j h1 h2 h3
/-! ### insertion -/
def InsF (f : Int → Int) (D : List Int) (a i k : Nat) : Prop := ∀ p q, a ≤ p → p < q → q < i → q ≠ k → f (gt D p) ≤ f (gt D q)
theorem InsF.start {f : Int → Int} {D : List Int} {a i : Nat} (h : Srt f D a i) : InsF f D a (i + 1) i := fun p q h1 h2 h3 h4 => h p q h1 (by omega) (by omega)
theorem InsF.step {f : Int → Int} {D : List Int} {a i k : Nat} (h : InsF f D a i k) (hk : a < k) (hki : k < i) (hl : i ≤ D.length) (hlt : f (gt D k) < f (gt D (k - 1))) : InsF f (swp D k (k - 1)) a i (k - 1) := by
  intro p q h1 h2 h3 h4
  have hg := swp_get (D := D) (i := k) (j := k - 1) (by omega) (by omega)
  rw [hg p, hg q, if_neg h4]
  by_cases hqk : q = k
  · rw [if_pos hqk]
    by_cases hpk : p = k - 1
    · rw [if_pos hpk]; omega
    · rw [if_neg hpk, if_neg (by omega)]
      exact h p (k - 1) h1 (by omega) (by omega) (by omega)
  · rw [if_neg hqk]
    by_cases hpk : p = k - 1
    · rw [if_pos hpk]
      exact h k q (by omega) (by omega) h3 hqk
    · rw [if_neg hpk]
      by_cases hpk2 : p = k
      · rw [if_pos hpk2]
        exact h (k - 1) q (by omega) (by omega) h3 hqk
      · rw [if_neg hpk2]
        exact h p q h1 h2 h3 hqk
theorem InsF.stop {f : Int → Int} {D : List Int} {a i k : Nat} (h : InsF f D a i k) (hk : k = a ∨ (a < k ∧ f (gt D (k - 1)) ≤ f (gt D k))) : Srt f D a i := by
  intro p q h1 h2 h3
  by_cases hpq : p = q
  · subst hpq; exact Int.le_refl _
  · by_cases hqk : q = k
    · subst hqk
      rcases hk with hk | ⟨hk, hle⟩
      · omega
      · by_cases hp : p = q - 1
        · subst hp; exact hle
        · exact Int.le_trans (h p (q - 1) h1 (by omega) (by omega) (by omega)) hle
    · exact h p q h1 (by omega) h3 hqk
/-! ### stretches exchanged -/
/-- C is D with the t places from a on and from b on exchanged -/
structure Sw (D C : List Int) (a b t : Nat) : Prop where
  perm : C.Perm D
  get : ∀ k, gt C k = if a ≤ k ∧ k < a + t then gt D (k + (b - a)) else if b ≤ k ∧ k < b + t then gt D (k - (b - a)) else gt D k
theorem Sw.zero (D : List Int) (a b : Nat) : Sw D D a b 0 := ⟨List.Perm.refl _, fun k => by rw [if_neg (by omega), if_neg (by omega)]⟩
theorem Sw.step {D C : List Int} {a b t n : Nat} (h : Sw D C a b t) (ht : t < n) (hab : a + n ≤ b) (hb : b + n ≤ D.length) : Sw D (swp C (a + t) (b + t)) a b (t + 1) := by
  have hl := h.perm.length_eq
  have hg := swp_get (D := C) (i := a + t) (j := b + t) (by omega) (by omega)
  refine ⟨(swp_perm (by omega) (by omega)).trans h.perm, fun k => ?_⟩
  rw [hg k, h.get (a + t), h.get (b + t), h.get k]
  (repeat' split) <;> first | rfl | (congr 1 <;> omega) | omega
/-- R is D with the neighbours a..m and m..b exchanged -/
structure Rt (D R : List Int) (a m b : Nat) : Prop where
  perm : R.Perm D
  get : ∀ k, gt R k = if a ≤ k ∧ k < a + (b - m) then gt D (k + (m - a)) else if a + (b - m) ≤ k ∧ k < b then gt D (k - (b - m)) else gt D k
theorem Rt.last {D C : List Int} {m i : Nat} (h : Sw D C (m - i) m i) (hi : i ≤ m) : Rt D C (m - i) m (m + i) := by
  refine ⟨h.perm, fun k => ?_⟩
  rw [h.get k]
  (repeat' split) <;> first | rfl | (congr 1 <;> omega) | omega
theorem Rt.left {C E R : List Int} {m i j : Nat} (h : Sw C E (m - i) m j) (hi : i ≤ m) (hj : j < i) (g : Rt E R (m - (i - j)) m (m + j)) : Rt C R (m - i) m (m + j) := by
  refine ⟨g.perm.trans h.perm, fun k => ?_⟩
  rw [g.get k, h.get k, h.get (k + (m - (m - (i - j)))), h.get (k - (m + j - m))]
  (repeat' split) <;> first | rfl | (congr 1 <;> omega) | omega
theorem Rt.right {C E R : List Int} {m i j : Nat} (h : Sw C E (m - i) (m + j - i) i) (hi : i ≤ m) (hj : i < j) (g : Rt E R (m - i) m (m + (j - i))) : Rt C R (m - i) m (m + j) := by
  refine ⟨g.perm.trans h.perm, fun k => ?_⟩
  rw [g.get k, h.get k, h.get (k + (m - (m - i))), h.get (k - (m + (j - i) - m))]
  (repeat' split) <;> first | rfl | (congr 1 <;> omega) | omega
theorem Rt.seg {D R : List Int} {a m b : Nat} (h : Rt D R a m b) (ham : a ≤ m) (hmb : m ≤ b) : Seg D R a b := by
  refine ⟨h.perm, fun k hk => ?_, fun k h1 h2 => ?_⟩
  · rw [h.get k, if_neg (by omega), if_neg (by omega)]
  · rw [h.get k]
    by_cases h3 : a ≤ k ∧ k < a + (b - m)
    · rw [if_pos h3]; exact ⟨_, by omega, by omega, rfl⟩
    · rw [if_neg h3, if_pos (by omega)]; exact ⟨_, by omega, by omega, rfl⟩
theorem Rt.refl {D : List Int} {a m b : Nat} (h : a = m ∨ m = b) : Rt D D a m b := by
  refine ⟨List.Perm.refl _, fun k => ?_⟩
  (repeat' split) <;> first | rfl | (congr 1 <;> omega) | omega
/-- the two pieces, then the halves: what comes out ascends -/
theorem halves {f : Int → Int} {D R : List Int} {a m b s e mid : Nat} (hs : a ≤ s ∧ s ≤ m ∧ m ≤ e ∧ e ≤ b) (he : s + e = mid + m) (h1 : Srt f D a m) (h2 : Srt f D m b) (hR : Rt D R s m e)
    (c1 : s < m → m < e → f (gt D (e - 1)) ≤ f (gt D s)) (c2 : a < s → e < b → f (gt D (s - 1)) ≤ f (gt D e)) :
    (Srt f R a s ∧ Srt f R s mid ∧ Srt f R mid e ∧ Srt f R e b) ∧ ∀ p q, a ≤ p → p < mid → mid ≤ q → q < b → f (gt R p) ≤ f (gt R q) := by
  have hg := hR.get
  have g1 : ∀ k, k < s → gt R k = gt D k := fun k hk => by rw [hg k, if_neg (by omega), if_neg (by omega)]
  have g2 : ∀ k, s ≤ k → k < mid → gt R k = gt D (k + (m - s)) := fun k hk hk2 => by rw [hg k, if_pos (by omega)]
  have g3 : ∀ k, mid ≤ k → k < e → gt R k = gt D (k - (e - m)) := fun k hk hk2 => by rw [hg k, if_neg (by omega), if_pos (by omega)]
  have g4 : ∀ k, e ≤ k → gt R k = gt D k := fun k hk => by rw [hg k, if_neg (by omega), if_neg (by omega)]
  refine ⟨⟨?_, ?_, ?_, ?_⟩, ?_⟩
  · intro i j a1 a2 a3; rw [g1 i (by omega), g1 j (by omega)]; exact h1 i j a1 a2 (by omega)
  · intro i j a1 a2 a3; rw [g2 i (by omega) (by omega), g2 j (by omega) (by omega)]; exact h2 _ _ (by omega) (by omega) (by omega)
  · intro i j a1 a2 a3; rw [g3 i (by omega) (by omega), g3 j (by omega) (by omega)]; exact h1 _ _ (by omega) (by omega) (by omega)
  · intro i j a1 a2 a3; rw [g4 i (by omega), g4 j (by omega)]; exact h2 i j (by omega) a2 (by omega)
  · intro p q p1 p2 q1 q2
    by_cases hp : p < s
    · rw [g1 p hp]
      by_cases hq : q < e
      · rw [g3 q q1 hq]; exact h1 _ _ p1 (by omega) (by omega)
      · rw [g4 q (by omega)]
        exact Int.le_trans (h1 p (s - 1) p1 (by omega) (by omega)) (Int.le_trans (c2 (by omega) (by omega)) (h2 e q (by omega) (by omega) q2))
    · rw [g2 p (by omega) p2]
      by_cases hq : q < e
      · rw [g3 q q1 hq]
        exact Int.le_trans (h2 (p + (m - s)) (e - 1) (by omega) (by omega) (by omega)) (Int.le_trans (c1 (by omega) (by omega)) (h1 s _ (by omega) (by omega) (by omega)))
      · rw [g4 q (by omega)]; exact h2 _ _ (by omega) (by omega) q2
theorem join_halves {f : Int → Int} {R R1 R2 : List Int} {a mid b : Nat} (hm : a ≤ mid ∧ mid ≤ b) (hc : ∀ p q, a ≤ p → p < mid → mid ≤ q → q < b → f (gt R p) ≤ f (gt R q)) (s1 : Seg R R1 a mid) (t1 : Srt f R1 a mid) (s2 : Seg R1 R2 mid b) (t2 : Srt f R2 mid b) :
    Srt f R2 a b := by
  intro i j h1 h2 h3
  by_cases hi : i < mid
  · by_cases hj : j < mid
    · rw [s2.out i (by omega), s2.out j (by omega)]; exact t1 i j h1 h2 hj
    · obtain ⟨p, p1, p2, e1⟩ := s1.mem i h1 hi
      obtain ⟨q, q1, q2, e2⟩ := s2.mem j (by omega) h3
      rw [s2.out i (by omega), e1, e2, s1.out q (by omega)]
      exact hc p q p1 p2 q1 q2
  · exact t2 i j (by omega) h2 h3
/-! ### one element merged -/
/-- the element at a has wandered up to k -/
structure Up (D C : List Int) (a k : Nat) : Prop where
  perm : C.Perm D
  get : ∀ j, gt C j = if a ≤ j ∧ j < k then gt D (j + 1) else if j = k then gt D a else gt D j
theorem Up.zero (D : List Int) (a : Nat) : Up D D a a := ⟨List.Perm.refl _, fun j => by (repeat' split) <;> first | rfl | (congr 1 <;> omega) | omega⟩
theorem Up.step {D C : List Int} {a k : Nat} (h : Up D C a k) (ha : a ≤ k) (hk : k + 1 < D.length) : Up D (swp C k (k + 1)) a (k + 1) := by
  have hl := h.perm.length_eq
  refine ⟨(swp_perm (by omega) (by omega)).trans h.perm, fun j => ?_⟩
  rw [swp_get (by omega) (by omega), h.get k, h.get (k + 1), h.get j]
  (repeat' split) <;> first | rfl | (congr 1 <;> omega) | omega
theorem Up.done {f : Int → Int} {D C : List Int} {a i b : Nat} (h : Up D C a (i - 1)) (hi : a + 1 ≤ i ∧ i ≤ b) (hs : Srt f D (a + 1) b) (c1 : a + 1 < i → f (gt D (i - 1)) ≤ f (gt D a)) (c2 : i < b → f (gt D a) ≤ f (gt D i)) : Seg D C a b ∧ Srt f C a b := by
  have hg := h.get
  have u1 : ∀ k, a ≤ k → k < i - 1 → gt C k = gt D (k + 1) := fun k h1 h2 => by rw [hg k, if_pos (by omega)]
  have u2 : gt C (i - 1) = gt D a := by rw [hg (i - 1), if_neg (by omega), if_pos rfl]
  have u3 : ∀ k, k < a ∨ i - 1 < k → gt C k = gt D k := fun k h1 => by rw [hg k, if_neg (by omega), if_neg (by omega)]
  constructor
  · refine ⟨h.perm, fun k hk => u3 k (by omega), fun k h1 h2 => ?_⟩
    by_cases h3 : k < i - 1
    · exact ⟨_, by omega, by omega, u1 k h1 h3⟩
    · by_cases h4 : k = i - 1
      · subst h4; exact ⟨a, by omega, by omega, u2⟩
      · exact ⟨k, h1, h2, u3 k (by omega)⟩
  · intro p q h1 h2 h3
    by_cases hpq : p = q
    · subst hpq; exact Int.le_refl _
    by_cases hp : p < i - 1
    · rw [u1 p h1 hp]
      by_cases hq : q < i - 1
      · rw [u1 q (by omega) hq]; exact hs _ _ (by omega) (by omega) (by omega)
      · by_cases hq2 : q = i - 1
        · rw [hq2, u2]
          exact Int.le_trans (hs _ (i - 1) (by omega) (by omega) (by omega)) (c1 (by omega))
        · rw [u3 q (by omega)]; exact hs _ _ (by omega) (by omega) h3
    · rw [u3 q (by omega)]
      by_cases hp2 : p = i - 1
      · rw [hp2, u2]
        exact Int.le_trans (c2 (by omega)) (hs i q (by omega) (by omega) h3)
      · rw [u3 p (by omega)]; exact hs _ _ (by omega) h2 h3
/-- the element at m has wandered down to k -/
structure Dn (D C : List Int) (m k : Nat) : Prop where
  perm : C.Perm D
  get : ∀ j, gt C j = if k < j ∧ j ≤ m then gt D (j - 1) else if j = k then gt D m else gt D j
theorem Dn.zero (D : List Int) (m : Nat) : Dn D D m m := ⟨List.Perm.refl _, fun j => by (repeat' split) <;> first | rfl | (congr 1 <;> omega) | omega⟩
theorem Dn.step {D C : List Int} {m k : Nat} (h : Dn D C m k) (hk : 0 < k) (hm : k ≤ m) (hl : m < D.length) : Dn D (swp C k (k - 1)) m (k - 1) := by
  have hll := h.perm.length_eq
  refine ⟨(swp_perm (by omega) (by omega)).trans h.perm, fun j => ?_⟩
  rw [swp_get (by omega) (by omega), h.get k, h.get (k - 1), h.get j]
  (repeat' split) <;> first | rfl | (congr 1 <;> omega) | omega
theorem Dn.done {f : Int → Int} {D C : List Int} {a i m : Nat} (h : Dn D C m i) (hi : a ≤ i ∧ i ≤ m) (hs : Srt f D a m) (c1 : a < i → f (gt D (i - 1)) ≤ f (gt D m)) (c2 : i < m → f (gt D m) ≤ f (gt D i)) : Seg D C a (m + 1) ∧ Srt f C a (m + 1) := by
  have hg := h.get
  have u1 : ∀ k, i < k → k ≤ m → gt C k = gt D (k - 1) := fun k h1 h2 => by rw [hg k, if_pos (by omega)]
  have u2 : gt C i = gt D m := by rw [hg i, if_neg (by omega), if_pos rfl]
  have u3 : ∀ k, k < i ∨ m < k → gt C k = gt D k := fun k h1 => by rw [hg k, if_neg (by omega), if_neg (by omega)]
  constructor
  · refine ⟨h.perm, fun k hk => u3 k (by omega), fun k h1 h2 => ?_⟩
    by_cases h3 : i < k
    · exact ⟨_, by omega, by omega, u1 k h3 (by omega)⟩
    · by_cases h4 : k = i
      · subst h4; exact ⟨m, by omega, by omega, u2⟩
      · exact ⟨k, h1, h2, u3 k (by omega)⟩
  · intro p q h1 h2 h3
    by_cases hpq : p = q
    · subst hpq; exact Int.le_refl _
    by_cases hq : i < q
    · rw [u1 q hq (by omega)]
      by_cases hp : i < p
      · rw [u1 p hp (by omega)]; exact hs _ _ (by omega) (by omega) (by omega)
      · by_cases hp2 : p = i
        · rw [hp2, u2]
          exact Int.le_trans (c2 (by omega)) (hs i _ (by omega) (by omega) (by omega))
        · rw [u3 p (by omega)]; exact hs _ _ h1 (by omega) (by omega)
    · rw [u3 p (by omega)]
      by_cases hq2 : q = i
      · rw [hq2, u2]
        exact Int.le_trans (hs p (i - 1) h1 (by omega) (by omega)) (c1 (by omega))
      · rw [u3 q (by omega)]; exact hs _ _ h1 h2 (by omega)
end Go.Proofs.Ytifjihpnhmemgaa
