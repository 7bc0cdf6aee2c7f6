/- Increasing subsequences and patience piles, plain. -/
import Derived.Test.YtfpojoabfdiadaaLib
namespace Go.Proofs.Ytfpojoabfdiadaa
set_option linter.unusedVariables false
/-- the longest increase from x on, the rest's being known -/
def incB (x : Int) (c : Nat) (ps : List (Int × Nat)) : Nat := ps.foldl (fun c p => if x < p.1 then max c (p.2 + 1) else c) c
def stL : List Int → List Nat
  | [] => []
  | x :: t => incB x 1 (t.zip (stL t)) :: stL t
theorem stL_len : ∀ t : List Int, (stL t).length = t.length
  | [] => rfl
  | x :: t => by simp [stL, stL_len t]
theorem incB_le (x : Int) : ∀ (ps : List (Int × Nat)) (c C : Nat), incB x c ps ≤ C ↔ c ≤ C ∧ ∀ p ∈ ps, x < p.1 → p.2 + 1 ≤ C
  | [], c, C => by simp [incB]
  | q :: ps, c, C => by
    have ih := incB_le x ps
    unfold incB at ih ⊢
    rw [List.foldl_cons, ih]
    by_cases h : x < q.1
    · rw [if_pos h]
      constructor
      · rintro ⟨h1, h2⟩
        refine ⟨by omega, fun p hp hx => ?_⟩
        rcases List.mem_cons.1 hp with rfl | hp
        · omega
        · exact h2 p hp hx
      · rintro ⟨h1, h2⟩
        have := h2 q List.mem_cons_self h
        exact ⟨by omega, fun p hp => h2 p (List.mem_cons_of_mem _ hp)⟩
    · rw [if_neg h]
      constructor
      · rintro ⟨h1, h2⟩
        refine ⟨h1, fun p hp hx => ?_⟩
        rcases List.mem_cons.1 hp with rfl | hp
        · exact absurd hx h
        · exact h2 p hp hx
      · rintro ⟨h1, h2⟩
        exact ⟨h1, fun p hp => h2 p (List.mem_cons_of_mem _ hp)⟩
theorem incB_get (x : Int) : ∀ (ps : List (Int × Nat)) (c : Nat), incB x c ps = c ∨ ∃ p ∈ ps, x < p.1 ∧ incB x c ps = p.2 + 1
  | [], c => .inl rfl
  | q :: ps, c => by
    have e : incB x c (q :: ps) = incB x (if x < q.1 then max c (q.2 + 1) else c) ps := rfl
    rw [e]
    rcases incB_get x ps (if x < q.1 then max c (q.2 + 1) else c) with h | ⟨p, hp, h1, h2⟩
    · rw [h]
      by_cases hx : x < q.1
      · rw [if_pos hx]
        rcases Nat.le_total c (q.2 + 1) with h3 | h3
        · exact .inr ⟨q, List.mem_cons_self, hx, by omega⟩
        · exact .inl (by omega)
      · rw [if_neg hx]; exact .inl rfl
    · exact .inr ⟨p, List.mem_cons_of_mem _ hp, h1, h2⟩
theorem incB_ge (x : Int) (ps : List (Int × Nat)) (c : Nat) : c ≤ incB x c ps := ((incB_le x ps c _).1 (Nat.le_refl _)).1
theorem incB_snoc (x : Int) (ps : List (Int × Nat)) (c : Nat) (p : Int × Nat) : incB x c (ps ++ [p]) = if x < p.1 then max (incB x c ps) (p.2 + 1) else incB x c ps := by
  unfold incB
  rw [List.foldl_append]
  rfl
theorem stL_pos : ∀ (t : List Int), ∀ p ∈ t.zip (stL t), 1 ≤ p.2
  | [], p, h => by simp [stL] at h
  | x :: t, p, h => by
    rw [stL, List.zip_cons_cons] at h
    rcases List.mem_cons.1 h with rfl | h
    · exact incB_ge _ _ _
    · exact stL_pos t p h
theorem stL_le : ∀ (t : List Int), ∀ p ∈ t.zip (stL t), p.2 ≤ t.length
  | [], p, h => by simp [stL] at h
  | x :: t, p, h => by
    rw [stL, List.zip_cons_cons] at h
    rcases List.mem_cons.1 h with rfl | h
    · show incB x 1 (t.zip (stL t)) ≤ _
      rw [incB_le]
      refine ⟨by simp, fun q hq _ => ?_⟩
      have := stL_le t q hq
      simp; omega
    · have := stL_le t p h
      simp; omega
def maxL (ns : List Nat) : Nat := ns.foldr max 0
theorem maxL_le : ∀ (ns : List Nat) (C : Nat), maxL ns ≤ C ↔ ∀ n ∈ ns, n ≤ C
  | [], C => by simp [maxL]
  | n :: ns, C => by
    have := maxL_le ns C
    unfold maxL at this ⊢
    rw [List.foldr_cons, Nat.max_le, this]
    simp
theorem maxL_get : ∀ (ns : List Nat), maxL ns = 0 ∨ maxL ns ∈ ns
  | [] => .inl rfl
  | n :: ns => by
    have ih := maxL_get ns
    have e : maxL (n :: ns) = max n (maxL ns) := rfl
    rw [e]
    rcases Nat.le_total n (maxL ns) with h | h
    · rw [Nat.max_eq_right h]
      rcases ih with h1 | h1
      · exact .inl h1
      · exact .inr (List.mem_cons_of_mem _ h1)
    · rw [Nat.max_eq_left h]; exact .inr List.mem_cons_self
/-! ### the reading off -/
/-- the places read off, each with its value -/
def gP : Nat → List (Int × Nat) → Nat → Option Int → List (Nat × Int)
  | _, [], _, _ => []
  | i, (x, n) :: t, m, last => if n = m ∧ (∀ y, last = some y → y < x) then (i, x) :: gP (i + 1) t (m - 1) (some x) else gP (i + 1) t m last
theorem gP_len : ∀ (t : List Int) (i m : Nat) (last : Option Int), (1 ≤ m → ∃ p ∈ t.zip (stL t), p.2 = m ∧ ∀ y, last = some y → y < p.1) → (gP i (t.zip (stL t)) m last).length = m
  | [], i, m, last, h => by
    rcases Nat.eq_zero_or_pos m with h0 | h0
    · subst h0; rfl
    · obtain ⟨p, hp, -⟩ := h h0; simp [stL] at hp
  | x :: t, i, m, last, h => by
    have hpos := stL_pos (x :: t)
    rw [stL, List.zip_cons_cons] at h hpos ⊢
    unfold gP
    split
    · rename_i hc
      obtain ⟨h1, h2⟩ := hc
      have hm := hpos _ List.mem_cons_self
      simp only at hm
      rw [List.length_cons, gP_len t (i + 1) (m - 1) (some x) ?_]
      · omega
      · intro h3
        rcases incB_get x (t.zip (stL t)) 1 with h4 | ⟨p, hp, h4, h5⟩
        · omega
        · exact ⟨p, hp, by omega, fun y hy => by cases hy; exact h4⟩
    · rename_i hc
      refine gP_len t (i + 1) m last fun h3 => ?_
      obtain ⟨p, hp, h4, h5⟩ := h h3
      rcases List.mem_cons.1 hp with rfl | hp
      · exact absurd ⟨h4, h5⟩ hc
      · exact ⟨p, hp, h4, h5⟩
theorem gP_facts : ∀ (ps : List (Int × Nat)) (i m : Nat) (last : Option Int), (∀ p ∈ gP i ps m last, i ≤ p.1 ∧ (ps.map (·.1))[p.1 - i]? = some p.2 ∧ ∀ y, last = some y → y < p.2) ∧ (gP i ps m last).Pairwise (fun a b => a.1 < b.1 ∧ a.2 < b.2)
  | [], i, m, last => by simp [gP]
  | (x, n) :: ps, i, m, last => by
    unfold gP
    split
    · rename_i hc
      obtain ⟨h1, h2⟩ := gP_facts ps (i + 1) (m - 1) (some x)
      constructor
      · intro p hp
        rcases List.mem_cons.1 hp with rfl | hp
        · exact ⟨Nat.le_refl _, by simp, hc.2⟩
        · obtain ⟨a1, a2, a3⟩ := h1 p hp
          refine ⟨by omega, ?_, fun y hy => Int.lt_trans (hc.2 y hy) (a3 x rfl)⟩
          rw [show p.1 - i = (p.1 - (i + 1)) + 1 by omega]
          simpa using a2
      · rw [List.pairwise_cons]
        refine ⟨fun p hp => ?_, h2⟩
        obtain ⟨a1, a2, a3⟩ := h1 p hp
        exact ⟨by show i < p.1; omega, a3 x rfl⟩
    · obtain ⟨h1, h2⟩ := gP_facts ps (i + 1) m last
      refine ⟨fun p hp => ?_, h2⟩
      obtain ⟨a1, a2, a3⟩ := h1 p hp
      refine ⟨by omega, ?_, a3⟩
      rw [show p.1 - i = (p.1 - (i + 1)) + 1 by omega]
      simpa using a2
def liP (l : List Int) : List (Nat × Int) := gP 0 (l.zip (stL l)) (maxL (stL l)) none
def liV (l : List Int) : List Int := (liP l).map fun p => (p.1 : Int)
theorem zip_snd {l : List Int} {ns : List Nat} (h : ns.length = l.length) {n : Nat} (hn : n ∈ ns) : ∃ p ∈ l.zip ns, p.2 = n := by
  obtain ⟨k, hk, rfl⟩ := List.getElem_of_mem hn
  refine ⟨(l[k]'(by omega), ns[k]), ?_, rfl⟩
  rw [List.mem_iff_getElem]
  exact ⟨k, by simp; omega, by simp⟩
theorem liP_len (l : List Int) : (liP l).length = maxL (stL l) := by
  unfold liP
  refine gP_len l 0 _ none fun h => ?_
  rcases maxL_get (stL l) with h1 | h1
  · omega
  · obtain ⟨p, hp, h2⟩ := zip_snd (stL_len l) h1
    exact ⟨p, hp, h2, fun y hy => by cases hy⟩
theorem liP_facts (l : List Int) : (∀ p ∈ liP l, l[p.1]? = some p.2) ∧ (liP l).Pairwise (fun a b => a.1 < b.1 ∧ a.2 < b.2) := by
  obtain ⟨h1, h2⟩ := gP_facts (l.zip (stL l)) 0 (maxL (stL l)) none
  refine ⟨fun p hp => ?_, h2⟩
  have h3 := (h1 p hp).2.1
  rw [List.map_fst_zip (by rw [stL_len]; exact Nat.le_refl _)] at h3
  simpa using h3
/-! ### the piles -/
def posT : List Int → Int → Nat
  | [], _ => 0
  | a :: T, x => if x ≤ a then 0 else posT T x + 1
def putT : List Int → Int → List Int
  | [], x => [x]
  | a :: T, x => if x ≤ a then x :: T else a :: putT T x
theorem pos_low {x y : Int} (h : y ≤ x) : ∀ T, posT (putT T x) y = posT T y
  | [] => by simp [putT, posT, h]
  | a :: T => by
    unfold putT
    split
    · rename_i hx
      simp only [posT, if_pos h, if_pos (Int.le_trans h hx)]
    · have := pos_low h T
      simp only [posT, this]
theorem pos_zero {y : Int} : ∀ T : List Int, (∀ b ∈ T, y ≤ b) → posT T y = 0
  | [], _ => rfl
  | a :: T, h => by simp [posT, h a List.mem_cons_self]
theorem pos_high {x y : Int} (h : x < y) : ∀ T : List Int, T.Pairwise (· ≤ ·) → posT (putT T x) y = max (posT T y) (posT T x + 1)
  | [], _ => by
    have : ¬ y ≤ x := by omega
    simp [putT, posT, this]
  | a :: T, hs => by
    obtain ⟨h1, h2⟩ := List.pairwise_cons.1 hs
    unfold putT
    split
    · rename_i hx
      have hyx : ¬ y ≤ x := by omega
      simp only [posT, if_neg hyx, if_pos hx]
      by_cases hy : y ≤ a
      · rw [if_pos hy, pos_zero T (fun b hb => Int.le_trans hy (h1 b hb))]; rfl
      · rw [if_neg hy]; omega
    · rename_i hx
      have hya : ¬ y ≤ a := by omega
      have := pos_high h T h2
      simp only [posT, this, if_neg hya, if_neg hx]
      omega
theorem put_len (x : Int) : ∀ T, (putT T x).length = max T.length (posT T x + 1)
  | [] => by simp [putT, posT]
  | a :: T => by
    unfold putT
    split
    · rename_i hx
      simp [posT, hx]
    · rename_i hx
      have := put_len x T
      simp only [List.length_cons, this, posT, if_neg hx]
      omega
theorem put_mem {x b : Int} : ∀ T, b ∈ putT T x → b = x ∨ b ∈ T
  | [], h => by simp [putT] at h; exact .inl h
  | a :: T, h => by
    unfold putT at h
    split at h
    · rcases List.mem_cons.1 h with h | h
      · exact .inl h
      · exact .inr (List.mem_cons_of_mem _ h)
    · rcases List.mem_cons.1 h with h | h
      · exact .inr (h ▸ List.mem_cons_self)
      · rcases put_mem T h with h | h
        · exact .inl h
        · exact .inr (List.mem_cons_of_mem _ h)
theorem put_sorted (x : Int) : ∀ T : List Int, T.Pairwise (· ≤ ·) → (putT T x).Pairwise (· ≤ ·)
  | [], _ => List.pairwise_singleton _ _
  | a :: T, hs => by
    obtain ⟨h1, h2⟩ := List.pairwise_cons.1 hs
    unfold putT
    split
    · rename_i hx
      exact List.pairwise_cons.2 ⟨fun b hb => Int.le_trans hx (h1 b hb), h2⟩
    · rename_i hx
      refine List.pairwise_cons.2 ⟨fun b hb => ?_, put_sorted x T h2⟩
      rcases put_mem T hb with rfl | hb
      · omega
      · exact h1 b hb
theorem count_le : ∀ (t T : List Int) (B : Nat), T.Pairwise (· ≤ ·) → ((t.foldl putT T).length ≤ B ↔ T.length ≤ B ∧ ∀ p ∈ t.zip (stL t), posT T p.1 + p.2 ≤ B)
  | [], T, B, _ => by simp [stL]
  | x :: t, T, B, hs => by
    rw [List.foldl_cons, count_le t (putT T x) B (put_sorted x T hs), stL, List.zip_cons_cons, put_len]
    have hx := incB_le x (t.zip (stL t)) 1 (B - posT T x)
    constructor
    · rintro ⟨h1, h2⟩
      refine ⟨by omega, fun p hp => ?_⟩
      rcases List.mem_cons.1 hp with rfl | hp
      · show posT T x + incB x 1 (t.zip (stL t)) ≤ B
        have := hx.2 ⟨by omega, fun p hp hxp => by
          have h3 := h2 p hp
          rw [pos_high hxp T hs] at h3
          omega⟩
        omega
      · have h3 := h2 p hp
        by_cases hxp : x < p.1
        · rw [pos_high hxp T hs] at h3; omega
        · rw [pos_low (by omega)] at h3; exact h3
    · rintro ⟨h1, h2⟩
      have h3 := h2 _ List.mem_cons_self
      simp only at h3
      have h4 := hx.1 (by omega)
      refine ⟨by omega, fun p hp => ?_⟩
      have h5 := h2 p (List.mem_cons_of_mem _ hp)
      by_cases hxp : x < p.1
      · rw [pos_high hxp T hs]
        have := h4.2 p hp hxp
        omega
      · rw [pos_low (by omega)]; exact h5
theorem count_eq (l : List Int) : (l.foldl putT []).length = maxL (stL l) := by
  have key : ∀ B, (l.foldl putT []).length ≤ B ↔ maxL (stL l) ≤ B := by
    intro B
    rw [count_le l [] B List.Pairwise.nil, maxL_le]
    constructor
    · rintro ⟨-, h⟩ n hn
      obtain ⟨p, hp, rfl⟩ := zip_snd (stL_len l) hn
      have := h p hp
      simp [posT] at this
      exact this
    · intro h
      refine ⟨by simp, fun p hp => ?_⟩
      have := h p.2 (List.of_mem_zip hp).2
      simp [posT]
      exact this
  exact Nat.le_antisymm ((key _).2 (Nat.le_refl _)) ((key _).1 (Nat.le_refl _))
def topP (a : List Int) : Int := a.getLast?.getD 0
def pput : List (List Int) → Int → List (List Int)
  | [], x => [[x]]
  | a :: P, x => if x ≤ topP a then (a ++ [x]) :: P else a :: pput P x
def ppV (l : List Int) : List (List Int) := l.foldl pput []
theorem top_snoc (a : List Int) (x : Int) : topP (a ++ [x]) = x := by simp [topP]
theorem tops_pput (x : Int) : ∀ P : List (List Int), (pput P x).map topP = putT (P.map topP) x
  | [] => by simp [pput, putT, topP]
  | a :: P => by
    have := tops_pput x P
    unfold pput
    rw [List.map_cons, putT]
    split
    · simp [top_snoc]
    · simp [this]
theorem pp_count (l : List Int) : (ppV l).length = maxL (stL l) := by
  have key : ∀ (l : List Int) (P : List (List Int)), (l.foldl pput P).map topP = l.foldl putT (P.map topP) := by
    intro l
    induction l with
    | nil => intro P; rfl
    | cons x l ih => intro P; rw [List.foldl_cons, List.foldl_cons, ih, tops_pput]
  rw [← count_eq, ← List.map_nil (f := topP), ← key, List.length_map]
  rfl
/-- what holds of the piles -/
def okP (a : List Int) : Prop := a ≠ [] ∧ a.Pairwise (· ≥ ·)
theorem ok_snoc {a : List Int} {x : Int} (h : okP a) (hx : x ≤ topP a) : okP (a ++ [x]) := by
  refine ⟨by simp, List.pairwise_append.2 ⟨h.2, List.pairwise_singleton _ _, fun y hy z hz => ?_⟩⟩
  rw [List.mem_singleton.1 hz]
  obtain ⟨b, c, rfl⟩ : ∃ b c, a = b ++ [c] := ⟨a.dropLast, a.getLast h.1, (List.dropLast_concat_getLast h.1).symm⟩
  rw [top_snoc] at hx
  rcases List.mem_append.1 hy with hy | hy
  · have := (List.pairwise_append.1 h.2).2.2 y hy c (List.mem_singleton_self _)
    show x ≤ y
    omega
  · rw [List.mem_singleton.1 hy]; exact hx
theorem pput_ok (x : Int) : ∀ P : List (List Int), (∀ a ∈ P, okP a) → (∀ a ∈ pput P x, okP a) ∧ (pput P x).flatten.Perm (x :: P.flatten)
  | [], _ => by
    refine ⟨fun a ha => ?_, by simp [pput]⟩
    simp [pput] at ha
    subst ha
    exact ⟨by simp, List.pairwise_singleton _ _⟩
  | b :: P, h => by
    unfold pput
    split
    · rename_i hx
      constructor
      · intro a ha
        rcases List.mem_cons.1 ha with rfl | ha
        · exact ok_snoc (h b List.mem_cons_self) hx
        · exact h a (List.mem_cons_of_mem _ ha)
      · simp only [List.flatten_cons, List.append_assoc, List.singleton_append]
        exact List.perm_middle
    · obtain ⟨h1, h2⟩ := pput_ok x P fun a ha => h a (List.mem_cons_of_mem _ ha)
      constructor
      · intro a ha
        rcases List.mem_cons.1 ha with rfl | ha
        · exact h a List.mem_cons_self
        · exact h1 a ha
      · simp only [List.flatten_cons]
        exact (List.Perm.append_left b h2).trans List.perm_middle
theorem pp_facts : ∀ (l : List Int) (P : List (List Int)), (∀ a ∈ P, okP a) → (∀ a ∈ l.foldl pput P, okP a) ∧ (l.foldl pput P).flatten.Perm (P.flatten ++ l)
  | [], P, h => ⟨h, by simp⟩
  | x :: l, P, h => by
    obtain ⟨h1, h2⟩ := pput_ok x P h
    obtain ⟨h3, h4⟩ := pp_facts l (pput P x) h1
    exact ⟨h3, h4.trans ((h2.append_right l).trans (List.perm_middle.symm))⟩
theorem ppV_facts (l : List Int) : (∀ a ∈ ppV l, okP a) ∧ (ppV l).flatten.Perm l := by
  have := pp_facts l [] (by simp)
  exact ⟨this.1, by have h2 := this.2; simp at h2; exact h2⟩
/-- where the next element goes -/
theorem pput_at (x : Int) : ∀ P : List (List Int), pput P x = if posT (P.map topP) x < P.length then P.set (posT (P.map topP) x) ((P[posT (P.map topP) x]?.getD []) ++ [x]) else P ++ [[x]]
  | [] => by simp [pput, posT]
  | a :: P => by
    have ih := pput_at x P
    unfold pput
    rw [List.map_cons, posT]
    split
    · simp
    · rw [ih, List.length_cons]
      by_cases h : posT (P.map topP) x < P.length
      · rw [if_pos h, if_pos (by omega)]; simp
      · rw [if_neg h, if_neg (by omega)]; simp
theorem posT_facts (x : Int) : ∀ T : List Int, posT T x ≤ T.length ∧ (∀ j, j < posT T x → ∀ y, T[j]? = some y → y < x) ∧ (∀ y, T[posT T x]? = some y → x ≤ y)
  | [] => by simp [posT]
  | a :: T => by
    obtain ⟨h1, h2, h3⟩ := posT_facts x T
    unfold posT
    split
    · rename_i h
      exact ⟨by simp, fun j hj => by omega, fun y hy => by simp at hy; omega⟩
    · rename_i h
      refine ⟨by simp; exact h1, fun j hj y hy => ?_, fun y hy => h3 y (by simpa using hy)⟩
      cases j with
      | zero => simp at hy; omega
      | succ j => exact h2 j (by omega) y (by simpa using hy)
end Go.Proofs.Ytfpojoabfdiadaa
