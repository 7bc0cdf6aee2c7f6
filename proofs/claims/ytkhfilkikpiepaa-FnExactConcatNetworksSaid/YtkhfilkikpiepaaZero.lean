/- The zero-one principle for networks, and odd-even transposition. -/
import Derived.Test.YtkhfilkikpiepaaRun
import Derived.Test.YtkhfilkikpiepaaSort
import Derived.Test.YtkhfilkikpiepaaBuildL
namespace Go.Proofs.Ytkhfilkikpiepaa
open Go.RowKit
set_option linter.unusedVariables false
theorem getD_map0 {l : List Int} {f : Int → Int} {i : Nat} (h : i < l.length) : (l.map f)[i]?.getD 0 = f (l[i]?.getD 0) := by
  rw [List.getElem?_map, List.getElem?_eq_getElem h]; rfl
theorem cmpDo_map {f : Int → Int} (hf : ∀ a b, a ≤ b → f a ≤ f b) (l : List Int) (c : Int × Int) (h1 : c.1.toNat < l.length) (h2 : c.2.toNat < l.length) :
    cmpDo (l.map f) c = (cmpDo l c).map f := by
  unfold cmpDo
  rw [getD_map0 h1, getD_map0 h2]
  generalize hx : l[c.1.toNat]?.getD 0 = x
  generalize hy : l[c.2.toNat]?.getD 0 = y
  by_cases h : y < x
  · rw [if_pos h]
    have hle := hf y x (by omega)
    by_cases h' : f y < f x
    · rw [if_pos h', List.map_set, List.map_set]
    · rw [if_neg h']
      have he : f y = f x := by omega
      rw [List.map_set, List.map_set, he]
      refine List.ext_getElem? (fun i => ?_)
      by_cases hb : c.2.toNat = i
      · subst hb
        rw [List.getElem?_set_self (by simpa using h2), List.getElem?_map, List.getElem?_eq_getElem h2]
        rw [List.getElem?_eq_getElem h2] at hy
        simp only [Option.getD_some] at hy
        rw [hy, ← he]; rfl
      · rw [List.getElem?_set_ne hb]
        by_cases ha : c.1.toNat = i
        · subst ha
          rw [List.getElem?_set_self (by simpa using h1), List.getElem?_map, List.getElem?_eq_getElem h1]
          rw [List.getElem?_eq_getElem h1] at hx
          simp only [Option.getD_some] at hx
          rw [hx]; rfl
        · rw [List.getElem?_set_ne ha]
  · rw [if_neg h, if_neg (by have := hf x y (by omega); omega)]
theorem netRun_map {f : Int → Int} (hf : ∀ a b, a ≤ b → f a ≤ f b) (n : Nat) (cs : List (Int × Int)) (hcs : ∀ c ∈ cs, c.1.toNat < n ∧ c.2.toNat < n) :
    ∀ l : List Int, l.length = n → netRun cs (l.map f) = (netRun cs l).map f := by
  induction cs with
  | nil => intro l _; rfl
  | cons c cs ih =>
    intro l hl
    have hc := hcs c (by simp)
    show netRun cs (cmpDo (l.map f) c) = (netRun cs (cmpDo l c)).map f
    rw [cmpDo_map hf l c (by omega) (by omega)]
    exact ih (fun d hd => hcs d (by simp [hd])) _ (by simp [hl])
theorem cmpDo_perm (l : List Int) (c : Int × Int) (h1 : c.1.toNat < l.length) (h2 : c.2.toNat < l.length) : (cmpDo l c).Perm l := by
  unfold cmpDo
  split
  · rw [List.getElem?_eq_getElem h1, List.getElem?_eq_getElem h2]
    exact List.set_set_perm h1 h2
  · exact List.Perm.refl _
theorem netRun_perm (n : Nat) (cs : List (Int × Int)) (hcs : ∀ c ∈ cs, c.1.toNat < n ∧ c.2.toNat < n) : ∀ l : List Int, l.length = n → (netRun cs l).Perm l := by
  induction cs with
  | nil => intro l _; exact List.Perm.refl _
  | cons c cs ih =>
    intro l hl
    have hc := hcs c (by simp)
    exact (ih (fun d hd => hcs d (by simp [hd])) _ (by simp [hl])).trans (cmpDo_perm l c (by omega) (by omega))
def zo (l : List Int) : Prop := ∀ x ∈ l, x = 0 ∨ x = 1
/-- a network that sorts all lists of zeros and ones sorts every list -/
theorem zero_one (n : Nat) (cs : List (Int × Int)) (hcs : ∀ c ∈ cs, c.1.toNat < n ∧ c.2.toNat < n) (H : ∀ z : List Int, z.length = n → zo z → (netRun cs z).Pairwise (· ≤ ·)) (l : List Int) (hl : l.length = n) :
    netRun cs l = srt l := by
  refine srt_of (netRun_perm n cs hcs l hl) ?_
  rw [List.pairwise_iff_getElem]
  intro i j hi hj hij
  by_cases hle : (netRun cs l)[i] ≤ (netRun cs l)[j]
  · exact hle
  exfalso
  let f : Int → Int := fun x => if (netRun cs l)[i] ≤ x then 1 else 0
  have hf : ∀ a b, a ≤ b → f a ≤ f b := by
    intro a b hab
    show (if _ then (1 : Int) else 0) ≤ (if _ then (1 : Int) else 0)
    split
    · rw [if_pos (by omega)]; exact Int.le_refl _
    · split <;> omega
  have hz : zo (l.map f) := by
    intro x hx
    obtain ⟨y, _, rfl⟩ := List.mem_map.1 hx
    show (if _ then (1 : Int) else 0) = 0 ∨ (if _ then (1 : Int) else 0) = 1
    split
    · exact .inr rfl
    · exact .inl rfl
  have hs := H (l.map f) (by simp [hl]) hz
  rw [netRun_map hf n cs hcs l hl, List.pairwise_iff_getElem] at hs
  have h := hs i j (by simpa using hi) (by simpa using hj) hij
  rw [List.getElem_map, List.getElem_map] at h
  have e1 : f (netRun cs l)[i] = 1 := if_pos (Int.le_refl _)
  have e2 : f (netRun cs l)[j] = 0 := if_neg hle
  rw [e1, e2] at h
  omega
def sm (z : List Int) (x : Nat) : Int := (z.drop x).sum
theorem sm_step (z : List Int) (x : Nat) : sm z x = z[x]?.getD 0 + sm z (x + 1) := by
  unfold sm
  by_cases h : x < z.length
  · rw [List.drop_eq_getElem_cons h, List.sum_cons, List.getElem?_eq_getElem h]; rfl
  · rw [List.drop_eq_nil_of_le (by omega), List.drop_eq_nil_of_le (by omega), List.getElem?_eq_none (by omega)]; rfl
theorem zo_get {z : List Int} (h : zo z) (i : Nat) : 0 ≤ z[i]?.getD 0 ∧ z[i]?.getD 0 ≤ 1 := by
  by_cases hi : i < z.length
  · rw [List.getElem?_eq_getElem hi]
    rcases h _ (List.getElem_mem hi) with e | e <;> (simp only [Option.getD_some]; omega)
  · rw [List.getElem?_eq_none (by omega)]; simp
theorem sm_far (z z' : List Int) (k : Nat) (hl : z'.length = z.length) (h : ∀ i, k ≤ i → z'[i]? = z[i]?) : sm z' k = sm z k := by
  unfold sm
  congr 1
  refine List.ext_getElem? (fun i => ?_)
  rw [List.getElem?_drop, List.getElem?_drop, h (k + i) (by omega)]
theorem cmp_get (z : List Int) (k : Nat) (hk : k + 1 < z.length) :
    (cmpDo z ((k : Int), (k : Int) + 1))[k]?.getD 0 = min (z[k]?.getD 0) (z[k + 1]?.getD 0) ∧ (cmpDo z ((k : Int), (k : Int) + 1))[k + 1]?.getD 0 = max (z[k]?.getD 0) (z[k + 1]?.getD 0) ∧
    ∀ i, i ≠ k → i ≠ k + 1 → (cmpDo z ((k : Int), (k : Int) + 1))[i]? = z[i]? := by
  have e1 : ((k : Int)).toNat = k := by omega
  have e2 : ((k : Int) + 1).toNat = k + 1 := by omega
  unfold cmpDo
  simp only [e1, e2]
  split
  · rename_i h
    refine ⟨?_, ?_, fun i h1 h2 => ?_⟩
    · rw [List.getElem?_set_ne (by omega), List.getElem?_set_self (by omega)]
      simp only [Option.getD_some]; omega
    · rw [List.getElem?_set_self (by simp; omega)]
      simp only [Option.getD_some]; omega
    · rw [List.getElem?_set_ne (by omega), List.getElem?_set_ne (by omega)]
  · rename_i h
    exact ⟨by omega, by omega, fun i _ _ => rfl⟩
theorem cmp_sm (z : List Int) (k : Nat) (hk : k + 1 < z.length) :
    (∀ x, k + 2 ≤ x → sm (cmpDo z ((k : Int), (k : Int) + 1)) x = sm z x) ∧ sm (cmpDo z ((k : Int), (k : Int) + 1)) (k + 1) = max (z[k]?.getD 0) (z[k + 1]?.getD 0) + sm z (k + 2) ∧
    (∀ x, x ≤ k → sm (cmpDo z ((k : Int), (k : Int) + 1)) x = sm z x) ∧ ∀ x, sm z x ≤ sm (cmpDo z ((k : Int), (k : Int) + 1)) x := by
  obtain ⟨g1, g2, g3⟩ := cmp_get z k hk
  have hl : (cmpDo z ((k : Int), (k : Int) + 1)).length = z.length := cmpDo_len _ _
  generalize cmpDo z ((k : Int), (k : Int) + 1) = z' at *
  have a : ∀ x, k + 2 ≤ x → sm z' x = sm z x := fun x hx => sm_far z z' x hl (fun i hi => g3 i (by omega) (by omega))
  have b : sm z' (k + 1) = max (z[k]?.getD 0) (z[k + 1]?.getD 0) + sm z (k + 2) := by rw [sm_step, g2, a (k + 2) (Nat.le_refl _)]
  have c : ∀ d x, x + d = k → sm z' x = sm z x := by
    intro d
    induction d with
    | zero =>
      intro x hx
      obtain rfl : x = k := by omega
      have s1 := sm_step z x
      have s2 : sm z (x + 1) = z[x + 1]?.getD 0 + sm z (x + 2) := sm_step z (x + 1)
      rw [sm_step z', g1, b]
      omega
    | succ d ih =>
      intro x hx
      rw [sm_step z', sm_step z, g3 x (by omega) (by omega), ih (x + 1) (by omega)]
  have c' : ∀ x, x ≤ k → sm z' x = sm z x := fun x hx => c (k - x) x (by omega)
  refine ⟨a, b, c', fun x => ?_⟩
  by_cases h1 : x ≤ k
  · rw [c' x h1]; exact Int.le_refl _
  · by_cases h2 : x = k + 1
    · subst h2
      have s2 : sm z (k + 1) = z[k + 1]?.getD 0 + sm z (k + 2) := sm_step z (k + 1)
      rw [b]; omega
    · rw [a x (by omega)]; exact Int.le_refl _
/-- a round of exchanges of neighbours, from a place on, in steps of two -/
theorem round_sm (W : Nat) : ∀ (u k0 : Nat) (z : List Int), z.length = W →
    (∀ x, sm z x ≤ sm (netRun (loopL (fun k => decide (k + 1 < W)) stepB (fun k => k + 2) u k0) z) x) ∧
    (∀ x, x ≤ k0 → sm (netRun (loopL (fun k => decide (k + 1 < W)) stepB (fun k => k + 2) u k0) z) x = sm z x) ∧
    ∀ y, k0 ≤ y → y % 2 = k0 % 2 → y + 1 < W → y < k0 + 2 * u →
      max (z[y]?.getD 0) (z[y + 1]?.getD 0) + sm z (y + 2) ≤ sm (netRun (loopL (fun k => decide (k + 1 < W)) stepB (fun k => k + 2) u k0) z) (y + 1) := by
  intro u
  induction u with
  | zero =>
    intro k0 z hz
    exact ⟨fun x => Int.le_refl _, fun x _ => rfl, fun y h1 _ _ h4 => by omega⟩
  | succ u ih =>
    intro k0 z hz
    by_cases hk : k0 + 1 < W
    · rw [loopL_true (by simpa using hk)]
      have hrun : netRun (stepB k0 ++ loopL (fun k => decide (k + 1 < W)) stepB (fun k => k + 2) u (k0 + 2)) z = netRun (loopL (fun k => decide (k + 1 < W)) stepB (fun k => k + 2) u (k0 + 2)) (cmpDo z ((k0 : Int), (k0 : Int) + 1)) := rfl
      rw [hrun]
      obtain ⟨c1, c2, c3, c4⟩ := cmp_sm z k0 (by omega)
      obtain ⟨g1, g2, g3⟩ := cmp_get z k0 (by omega)
      have hl : (cmpDo z ((k0 : Int), (k0 : Int) + 1)).length = W := by rw [cmpDo_len, hz]
      obtain ⟨i1, i2, i3⟩ := ih (k0 + 2) (cmpDo z ((k0 : Int), (k0 : Int) + 1)) hl
      generalize cmpDo z ((k0 : Int), (k0 : Int) + 1) = z1 at *
      generalize netRun (loopL (fun k => decide (k + 1 < W)) stepB (fun k => k + 2) u (k0 + 2)) z1 = z2 at *
      refine ⟨fun x => Int.le_trans (c4 x) (i1 x), fun x hx => (i2 x (by omega)).trans (c3 x hx), fun y h1 h2 h3 h4 => ?_⟩
      by_cases hy : y = k0
      · subst hy
        rw [← c2]
        exact i1 (y + 1)
      · have := i3 y (by omega) (by omega) h3 (by omega)
        rw [g3 y (by omega) (by omega), g3 (y + 1) (by omega) (by omega), c1 (y + 2) (by omega)] at this
        exact this
    · rw [loopL_false (by simpa using hk)]
      exact ⟨fun x => Int.le_refl _, fun x _ => rfl, fun y h1 _ h3 _ => by omega⟩
theorem loop_mem {W u : Nat} : ∀ k0, ∀ c ∈ loopL (fun k => decide (k + 1 < W)) stepB (fun k => k + 2) u k0, c.1.toNat < W ∧ c.2.toNat < W ∧ 0 ≤ c.1 ∧ c.1 < c.2 ∧ c.2 < W := by
  induction u with
  | zero => intro k0 c hc; simp [loopL] at hc
  | succ u ih =>
    intro k0 c hc
    by_cases hk : k0 + 1 < W
    · rw [loopL_true (by simpa using hk)] at hc
      rcases List.mem_append.1 hc with h | h
      · rw [List.mem_singleton.1 h]; simp only; omega
      · exact ih (k0 + 2) c h
    · rw [loopL_false (by simpa using hk)] at hc
      cases hc
theorem sm_low {z : List Int} (h : zo z) : ∀ x, sm z 0 - x ≤ sm z x := by
  intro x
  induction x with
  | zero => simp
  | succ x ih =>
    have s := sm_step z x
    have g := zo_get h x
    push_cast
    omega
theorem sm_high {z : List Int} (h : zo z) : ∀ d x, x + d = z.length → 0 ≤ sm z x ∧ sm z x ≤ d := by
  intro d
  induction d with
  | zero =>
    intro x hx
    unfold sm
    rw [List.drop_eq_nil_of_le (by omega)]
    simp
  | succ d ih =>
    intro x hx
    have s := sm_step z x
    have g := zo_get h x
    have := ih (x + 1) (by omega)
    push_cast
    omega
theorem sm_anti {z : List Int} (h : zo z) : ∀ d x, sm z (x + d) ≤ sm z x := by
  intro d
  induction d with
  | zero => intro x; exact Int.le_refl _
  | succ d ih =>
    intro x
    have s := sm_step z x
    have g := zo_get h x
    have i := ih (x + 1)
    rw [show x + 1 + d = x + (d + 1) by omega] at i
    omega
theorem zo_perm {z z' : List Int} (h : zo z) (hp : z'.Perm z) : zo z' := fun x hx => h x (hp.mem_iff.1 hx)
theorem oddB_mem (W r : Nat) : ∀ c ∈ oddB W r, c.1.toNat < W ∧ c.2.toNat < W ∧ 0 ≤ c.1 ∧ c.1 < c.2 ∧ c.2 < W := loop_mem _
/-- what holds of the places of the ones ahead of round t -/
def OeI (W K C t : Nat) (z : List Int) : Prop := ∀ j : Nat, j < K → (j : Int) + 1 ≤ sm z (min (W - 1 - j) (t + C - 2 * j))
theorem oe_round {W K C t : Nat} {z : List Int} (hz : z.length = W) (h : zo z) (hW : W ≤ 64) (hC : C % 2 = 0) (hK : K ≤ W) (h0 : sm z 0 = K) (hi : OeI W K C t z) :
    sm (netRun (oddB W t) z) 0 = K ∧ OeI W K C (t + 1) (netRun (oddB W t) z) := by
  obtain ⟨r1, r2, r3⟩ := round_sm W 64 (t % 2) z hz
  have e : netRun (loopL (fun k => decide (k + 1 < W)) stepB (fun k => k + 2) 64 (t % 2)) z = netRun (oddB W t) z := rfl
  rw [e] at r1 r2 r3
  generalize netRun (oddB W t) z = z1 at *
  have h1 : sm z1 0 = K := by rw [r2 0 (by omega)]; exact h0
  refine ⟨h1, fun j hj => ?_⟩
  by_cases ha : t + 1 + C ≤ 2 * j
  · rw [show min (W - 1 - j) (t + 1 + C - 2 * j) = 0 by omega, h1]; omega
  by_cases hb : W - 1 - j ≤ t + C - 2 * j
  · have h2 := hi j hj
    rw [show min (W - 1 - j) (t + C - 2 * j) = W - 1 - j by omega] at h2
    rw [show min (W - 1 - j) (t + 1 + C - 2 * j) = W - 1 - j by omega]
    exact Int.le_trans h2 (r1 _)
  obtain ⟨y, hy⟩ : ∃ y, t + C - 2 * j = y := ⟨_, rfl⟩
  rw [show min (W - 1 - j) (t + 1 + C - 2 * j) = y + 1 by omega]
  have h2 := hi j hj
  rw [show min (W - 1 - j) (t + C - 2 * j) = y by omega] at h2
  have s1 := sm_step z y
  have s2 : sm z (y + 1) = z[y + 1]?.getD 0 + sm z (y + 2) := sm_step z (y + 1)
  have g1 := zo_get h y
  have g2 := zo_get h (y + 1)
  have q1 := r1 (y + 1)
  have q3 := r3 y (by omega) (by omega) (by omega) (by omega)
  by_cases hj0 : j = 0
  · subst hj0
    have hpos := (sm_high h (W - (y + 2)) (y + 2) (by omega)).1
    omega
  · have h3 := hi (j - 1) (by omega)
    rw [show min (W - 1 - (j - 1)) (t + C - 2 * (j - 1)) = y + 2 by omega] at h3
    omega
theorem oe_all {W K C : Nat} (hW : W ≤ 64) (hC : C % 2 = 0) (hK : K ≤ W) : ∀ (u t : Nat) (z : List Int), z.length = W → zo z → sm z 0 = K → OeI W K C t z → t ≤ W → W ≤ t + u →
    sm (netRun (loopL (fun r => decide (r < W)) (oddB W) (fun r => r + 1) u t) z) 0 = K ∧ OeI W K C W (netRun (loopL (fun r => decide (r < W)) (oddB W) (fun r => r + 1) u t) z) ∧
    zo (netRun (loopL (fun r => decide (r < W)) (oddB W) (fun r => r + 1) u t) z) := by
  intro u
  induction u with
  | zero =>
    intro t z hz h h0 hi ht hu
    obtain rfl : t = W := by omega
    exact ⟨h0, hi, h⟩
  | succ u ih =>
    intro t z hz h h0 hi ht hu
    by_cases htW : t < W
    · rw [loopL_true (by simpa using htW)]
      have hrun : netRun (oddB W t ++ loopL (fun r => decide (r < W)) (oddB W) (fun r => r + 1) u (t + 1)) z = netRun (loopL (fun r => decide (r < W)) (oddB W) (fun r => r + 1) u (t + 1)) (netRun (oddB W t) z) := by
        unfold netRun; rw [List.foldl_append]
      rw [hrun]
      obtain ⟨a, b⟩ := oe_round hz h hW hC hK h0 hi
      have hp := netRun_perm W (oddB W t) (fun c hc => ⟨(oddB_mem W t c hc).1, (oddB_mem W t c hc).2.1⟩) z hz
      exact ih (t + 1) _ (by rw [netRun_len, hz]) (zo_perm h hp) a b (by omega) (by omega)
    · obtain rfl : t = W := by omega
      rw [loopL_false (by simp)]
      exact ⟨h0, hi, h⟩
theorem oddEven_mem (W : Nat) : ∀ c ∈ oddEvenL W, c.1.toNat < W ∧ c.2.toNat < W ∧ 0 ≤ c.1 ∧ c.1 < c.2 ∧ c.2 < W := by
  have H : ∀ u t, ∀ c ∈ loopL (fun r => decide (r < W)) (oddB W) (fun r => r + 1) u t, c.1.toNat < W ∧ c.2.toNat < W ∧ 0 ≤ c.1 ∧ c.1 < c.2 ∧ c.2 < W := by
    intro u
    induction u with
    | zero => intro t c hc; simp [loopL] at hc
    | succ u ih =>
      intro t c hc
      by_cases hk : t < W
      · rw [loopL_true (by simpa using hk)] at hc
        rcases List.mem_append.1 hc with h | h
        · exact oddB_mem W t c h
        · exact ih (t + 1) c h
      · rw [loopL_false (by simpa using hk)] at hc
        cases hc
  exact H 64 0
/-- odd-even transposition sorts -/
theorem oddEven_sorts (l : List Int) (h64 : l.length ≤ 64) : netRun (oddEvenL l.length) l = srt l := by
  refine zero_one l.length (oddEvenL l.length) (fun c hc => ⟨(oddEven_mem _ c hc).1, (oddEven_mem _ c hc).2.1⟩) (fun z hz h => ?_) l rfl
  generalize l.length = W at *
  have hs := sm_high h W 0 (by omega)
  obtain ⟨K, hK⟩ := Int.eq_ofNat_of_zero_le hs.1
  have hKW : K ≤ W := by omega
  have hstart : OeI W K (2 * ((K - 1) / 2)) 0 z := by
    intro j hj
    have h1 := sm_low h (min (W - 1 - j) (0 + 2 * ((K - 1) / 2) - 2 * j))
    have h2 : min (W - 1 - j) (0 + 2 * ((K - 1) / 2) - 2 * j) ≤ K - 1 - j := by omega
    omega
  obtain ⟨f1, f2, f3⟩ := oe_all h64 (by omega) hKW 64 0 z hz h hK hstart (by omega) (by omega)
  have e : netRun (loopL (fun r => decide (r < W)) (oddB W) (fun r => r + 1) 64 0) z = netRun (oddEvenL W) z := rfl
  rw [e] at f1 f2 f3
  have hlen : (netRun (oddEvenL W) z).length = W := by rw [netRun_len, hz]
  generalize netRun (oddEvenL W) z = z' at *
  have fin : ∀ j, j < K → (j : Int) + 1 ≤ sm z' (W - 1 - j) := by
    intro j hj
    have := f2 j hj
    rwa [show min (W - 1 - j) (W + 2 * ((K - 1) / 2) - 2 * j) = W - 1 - j by omega] at this
  rw [List.pairwise_iff_getElem]
  intro a b ha hb hab
  have ga := zo_get f3 a
  have gb := zo_get f3 b
  have ea : z'[a]?.getD 0 = z'[a] := by rw [List.getElem?_eq_getElem ha]; rfl
  have eb : z'[b]?.getD 0 = z'[b] := by rw [List.getElem?_eq_getElem hb]; rfl
  rw [← ea, ← eb]
  by_cases hbK : W - K ≤ b
  · have h1 := fin (W - 1 - b) (by omega)
    rw [show W - 1 - (W - 1 - b) = b by omega] at h1
    have h2 := sm_step z' b
    have h3 := (sm_high f3 (W - (b + 1)) (b + 1) (by omega)).2
    omega
  · have h2 := sm_step z' a
    have h3 := sm_anti f3 a 0
    rw [Nat.zero_add] at h3
    by_cases hK0 : K = 0
    · have := (sm_high f3 (W - (a + 1)) (a + 1) (by omega)).1
      omega
    · have h1 := fin (K - 1) (by omega)
      have h4 := sm_anti f3 (W - K - (a + 1)) (a + 1)
      rw [show a + 1 + (W - K - (a + 1)) = W - 1 - (K - 1) by omega] at h4
      omega
end Go.Proofs.Ytkhfilkikpiepaa
