/- Plain mathematics of the steps of a compaction: moving the kept elements along the pairs, lowest bit first, yields the compacted list. -/
import Derived.Test.YtphcfjdhichfkaaCompM
namespace Go.Proofs.Ytphcfjdhichfkaa
open Go.RowKit
set_option linter.unusedVariables false
def csStep (st : List Int × List Int × List Bool) (c : Int × Int) : List Int × List Int × List Bool :=
  if st.2.2[c.2.toNat]?.getD false = true ∧ (st.2.1[c.2.toNat]?.getD 0) / (c.2 - c.1) % 2 = 1 then
    ((st.1.set c.1.toNat (st.1[c.2.toNat]?.getD 0)).set c.2.toNat 0, st.2.1.set c.1.toNat (st.2.1[c.2.toNat]?.getD 0), (st.2.2.set c.1.toNat true).set c.2.toNat false)
  else st
structure CsAt (n m : Nat) (v : Nat → Int) (f q : Nat → Nat) (st : List Int × List Int × List Bool) : Prop where
  l1 : st.1.length = n
  l2 : st.2.1.length = n
  l3 : st.2.2.length = n
  lt : ∀ i, i < m → q i < n
  inj : ∀ i j, i < m → j < m → q i = q j → i = j
  here : ∀ i, i < m → st.1[q i]? = some (v i) ∧ st.2.1[q i]? = some (f i : Int) ∧ st.2.2[q i]? = some true
  off : ∀ x, x < n → (∀ i, i < m → q i ≠ x) → st.1[x]? = some 0 ∧ st.2.2[x]? = some false
theorem CsAt.congr {n m : Nat} {v : Nat → Int} {f q q' : Nat → Nat} {st : List Int × List Int × List Bool} (h : CsAt n m v f q st) (he : ∀ i, i < m → q' i = q i) : CsAt n m v f q' st := by
  refine ⟨h.l1, h.l2, h.l3, fun i hi => by rw [he i hi]; exact h.lt i hi, fun i j hi hj e => h.inj i j hi hj (by rw [← he i hi, ← he j hj]; exact e), fun i hi => by rw [he i hi]; exact h.here i hi, fun x hx hf => h.off x hx (fun i hi => by rw [← he i hi]; exact hf i hi)⟩
theorem CsAt.step {n m : Nat} {v : Nat → Int} {f q : Nat → Nat} {st : List Int × List Int × List Bool} (h : CsAt n m v f q st) (a d : Nat) (hd : 1 ≤ d) (had : a + d < n)
    (hfree : ∀ i, i < m → q i = a + d → f i / d % 2 = 1 → ∀ k, k < m → q k ≠ a) :
    CsAt n m v f (fun i => if q i = a + d ∧ f i / d % 2 = 1 then a else q i) (csStep st ((a : Int), (a : Int) + d)) := by
  have ea : ((a : Int)).toNat = a := by omega
  have eb : ((a : Int) + d).toNat = a + d := by omega
  have ed : ((a : Int) + d) - (a : Int) = (d : Int) := by omega
  by_cases hex : ∃ i, i < m ∧ q i = a + d ∧ f i / d % 2 = 1
  · obtain ⟨i, hi, hqi, hbi⟩ := hex
    obtain ⟨h1, h2, h3⟩ := h.here i hi
    rw [hqi] at h1 h2 h3
    have hcond : st.2.2[a + d]?.getD false = true ∧ (st.2.1[a + d]?.getD 0) / (d : Int) % 2 = 1 := by
      rw [h3, h2]
      exact ⟨rfl, by simp only [Option.getD_some]; rw [← Int.natCast_ediv]; omega⟩
    have hne : a ≠ a + d := by omega
    have hfr := hfree i hi hqi hbi
    have hq : ∀ j, j < m → j ≠ i → (if q j = a + d ∧ f j / d % 2 = 1 then a else q j) = q j := by
      intro j hj hji
      rw [if_neg]
      intro hc
      exact hji (h.inj j i hj hi (by rw [hc.1, hqi]))
    have hqI : (if q i = a + d ∧ f i / d % 2 = 1 then a else q i) = a := if_pos ⟨hqi, hbi⟩
    have hstep : csStep st ((a : Int), (a : Int) + d) = ((st.1.set a (v i)).set (a + d) 0, st.2.1.set a (f i : Int), (st.2.2.set a true).set (a + d) false) := by
      unfold csStep
      simp only [ea, eb, ed]
      rw [if_pos hcond, h1, h2]
      rfl
    rw [hstep]
    have la : a < n := by omega
    refine ⟨by simp [h.l1], by simp [h.l2], by simp [h.l3], fun j hj => ?_, fun j k hj hk e => ?_, fun j hj => ?_, fun x hx hf => ?_⟩
    · by_cases hji : j = i
      · subst hji; simp only [hqI]; omega
      · simp only [hq j hj hji]; exact h.lt j hj
    · have e : (if q j = a + d ∧ f j / d % 2 = 1 then a else q j) = (if q k = a + d ∧ f k / d % 2 = 1 then a else q k) := e
      by_cases hji : j = i
      · by_cases hki : k = i
        · rw [hji, hki]
        · subst hji; rw [hqI, hq k hk hki] at e; exact absurd e.symm (hfr k hk)
      · by_cases hki : k = i
        · subst hki; rw [hqI, hq j hj hji] at e; exact absurd e (hfr j hj)
        · rw [hq j hj hji, hq k hk hki] at e; exact h.inj j k hj hk e
    · by_cases hji : j = i
      · subst hji
        simp only [hqI]
        refine ⟨?_, ?_, ?_⟩
        · rw [List.getElem?_set_ne (by omega), List.getElem?_set_self (by rw [h.l1]; omega)]
        · rw [List.getElem?_set_self (by rw [h.l2]; omega)]
        · rw [List.getElem?_set_ne (by omega), List.getElem?_set_self (by rw [h.l3]; omega)]
      · simp only [hq j hj hji]
        have n1 : q j ≠ a := hfr j hj
        have n2 : q j ≠ a + d := fun e => hji (h.inj j i hj hi (by rw [e, hqi]))
        obtain ⟨g1, g2, g3⟩ := h.here j hj
        refine ⟨?_, ?_, ?_⟩
        · rw [List.getElem?_set_ne (Ne.symm n2), List.getElem?_set_ne (Ne.symm n1)]; exact g1
        · rw [List.getElem?_set_ne (Ne.symm n1)]; exact g2
        · rw [List.getElem?_set_ne (Ne.symm n2), List.getElem?_set_ne (Ne.symm n1)]; exact g3
    · have nxa : x ≠ a := by
        intro e
        have := hf i hi
        simp only [hqI] at this
        exact this e.symm
      by_cases hxb : x = a + d
      · subst hxb
        refine ⟨?_, ?_⟩
        · rw [List.getElem?_set_self (by simp [h.l1]; omega)]
        · rw [List.getElem?_set_self (by simp [h.l3]; omega)]
      · have hx2 : ∀ j, j < m → q j ≠ x := by
          intro j hj e
          by_cases hji : j = i
          · subst hji; omega
          · have := hf j hj
            simp only [hq j hj hji] at this
            exact this e
        obtain ⟨g1, g2⟩ := h.off x hx hx2
        refine ⟨?_, ?_⟩
        · rw [List.getElem?_set_ne (Ne.symm hxb), List.getElem?_set_ne (Ne.symm nxa)]; exact g1
        · rw [List.getElem?_set_ne (Ne.symm hxb), List.getElem?_set_ne (Ne.symm nxa)]; exact g2
  · have hno : ∀ i, i < m → ¬ (q i = a + d ∧ f i / d % 2 = 1) := fun i hi hc => hex ⟨i, hi, hc⟩
    have hstep : csStep st ((a : Int), (a : Int) + d) = st := by
      unfold csStep
      simp only [ea, eb, ed]
      rw [if_neg]
      rintro ⟨c1, c2⟩
      by_cases hq : ∃ i, i < m ∧ q i = a + d
      · obtain ⟨i, hi, hqi⟩ := hq
        obtain ⟨h1, h2, h3⟩ := h.here i hi
        rw [hqi] at h2
        rw [h2] at c2
        simp only [Option.getD_some] at c2
        rw [← Int.natCast_ediv] at c2
        exact hno i hi ⟨hqi, by omega⟩
      · have := (h.off (a + d) had (fun i hi e => hq ⟨i, hi, e⟩)).2
        rw [this] at c1
        simp at c1
    rw [hstep]
    exact h.congr (fun i hi => if_neg (hno i hi))
def csBase (f : Nat → Nat) (d i : Nat) : Nat := i + f i / d * d
theorem base_mono {f : Nat → Nat} {m : Nat} (hf : ∀ i j, i < j → j < m → f i ≤ f j) (d : Nat) {i j : Nat} (h : i < j) (hj : j < m) : csBase f d i < csBase f d j := by
  have h1 : f i / d ≤ f j / d := Nat.div_le_div_right (hf i j h hj)
  have h2 : f i / d * d ≤ f j / d * d := Nat.mul_le_mul_right d h1
  unfold csBase
  omega
theorem base_inj {f : Nat → Nat} {m : Nat} (hf : ∀ i j, i < j → j < m → f i ≤ f j) (d : Nat) {i j : Nat} (hi : i < m) (hj : j < m) (e : csBase f d i = csBase f d j) : i = j := by
  rcases Nat.lt_trichotomy i j with h | h | h
  · have := base_mono hf d h hj; omega
  · exact h
  · have := base_mono hf d h hi; omega
theorem base_next (f : Nat → Nat) (d i : Nat) (hd : 1 ≤ d) : csBase f (2 * d) i = if f i / d % 2 = 1 then csBase f d i - d else csBase f d i := by
  have h0 : f i / (2 * d) = f i / d / 2 := by rw [Nat.mul_comm 2 d, Nat.div_div_eq_div_mul]
  unfold csBase
  rw [h0]
  generalize f i / d = x
  have h2 : x / 2 * (2 * d) = (x / 2 * 2) * d := by rw [Nat.mul_assoc]
  rw [h2]
  split
  · rename_i hb
    have e : x = x / 2 * 2 + 1 := by omega
    have e2 : x * d = x / 2 * 2 * d + d := by
      conv => lhs; rw [e]
      rw [Nat.add_mul, Nat.one_mul]
    omega
  · rename_i hb
    have e : x / 2 * 2 = x := by omega
    rw [e]
theorem base_ge (f : Nat → Nat) (d i : Nat) (hb : f i / d % 2 = 1) : d ≤ csBase f d i := by
  unfold csBase
  have : 1 * d ≤ f i / d * d := Nat.mul_le_mul_right d ((show ∀ x : Nat, x % 2 = 1 → 1 ≤ x from fun x hx => by omega) _ hb)
  omega
def csMid (f : Nat → Nat) (d A i : Nat) : Nat := if f i / d % 2 = 1 ∧ csBase f d i < A + d then csBase f d i - d else csBase f d i
theorem mid_no {f : Nat → Nat} {d A i : Nat} (hb : ¬ f i / d % 2 = 1) : csMid f d A i = csBase f d i := by rw [csMid, if_neg (fun hc => hb hc.1)]
theorem mid_lt {f : Nat → Nat} {d A i : Nat} (hb : f i / d % 2 = 1) (h : csBase f d i < A + d) : csMid f d A i = csBase f d i - d := by rw [csMid, if_pos ⟨hb, h⟩]
theorem mid_ge {f : Nat → Nat} {d A i : Nat} (hb : f i / d % 2 = 1) (h : A + d ≤ csBase f d i) : csMid f d A i = csBase f d i := by rw [csMid, if_neg (fun hc => by omega)]
theorem cs_phase {n m : Nat} {v : Nat → Int} {f : Nat → Nat} {st : List Int × List Int × List Bool} (hf : ∀ i j, i < j → j < m → f i ≤ f j) (d : Nat) (hd : 1 ≤ d)
    (h : CsAt n m v f (csBase f d) st) : ∀ A, A + d ≤ n → CsAt n m v f (csMid f d A) (((shiftRow (n : Int) (d : Int)).take A).foldl csStep st) := by
  intro A
  induction A with
  | zero =>
    intro _
    refine h.congr (fun i hi => ?_)
    unfold csMid
    split
    · rename_i hc
      have := base_ge f d i hc.1
      omega
    · rfl
  | succ A ih =>
    intro hA
    have ih := ih (by omega)
    rw [shift_take (n : Int) (d : Int) A (by omega), List.foldl_append]
    refine (ih.step A d hd (by omega) ?_).congr ?_
    · intro i hi hqi hbi k hk hqk
      have gi := base_ge f d i hbi
      have bi : csBase f d i = A + d := by
        unfold csMid at hqi
        split at hqi
        · rename_i hc; omega
        · exact hqi
      have bk : csBase f d k = A ∧ ¬ f k / d % 2 = 1 := by
        unfold csMid at hqk
        split at hqk
        · rename_i hc
          have := base_ge f d k hc.1
          omega
        · rename_i hc
          refine ⟨hqk, fun hb => hc ⟨hb, by omega⟩⟩
      have e1 := base_next f d i hd
      have e2 := base_next f d k hd
      rw [if_pos hbi] at e1
      rw [if_neg bk.2] at e2
      have := base_inj hf (2 * d) hi hk (by omega)
      subst this
      exact bk.2 hbi
    · intro i hi
      show csMid f d (A + 1) i = if csMid f d A i = A + d ∧ f i / d % 2 = 1 then A else csMid f d A i
      by_cases hb : f i / d % 2 = 1
      · have gi := base_ge f d i hb
        by_cases h1 : csBase f d i < A + d
        · rw [mid_lt hb h1, mid_lt hb (by omega), if_neg (by omega)]
        · rw [mid_ge hb (show A + d ≤ csBase f d i by omega)]
          by_cases h2 : csBase f d i = A + d
          · rw [mid_lt hb (by omega), if_pos ⟨h2, hb⟩]; omega
          · rw [mid_ge hb (by omega), if_neg (by omega)]
      · rw [mid_no hb, mid_no hb, if_neg (fun hc => hb hc.2)]
theorem shift_len (n s : Int) : (shiftRow n s).length = (n - s).toNat := by simp [shiftRow]
theorem cs_all {n m : Nat} {v : Nat → Int} {f : Nat → Nat} (hf : ∀ i j, i < j → j < m → f i ≤ f j) (hfn : ∀ i, i < m → i + f i < n) : ∀ (u d : Nat) (st : List Int × List Int × List Bool), 1 ≤ d → n ≤ d * 2 ^ u →
    CsAt n m v f (csBase f d) st → CsAt n m v f (fun i => i) ((traceFrom (n : Int) u (d : Int)).foldl csStep st) := by
  have fin : ∀ (d : Nat) (st : List Int × List Int × List Bool), n ≤ d → CsAt n m v f (csBase f d) st → CsAt n m v f (fun i => i) st := by
    intro d st hdn h
    refine h.congr (fun i hi => ?_)
    have := hfn i hi
    unfold csBase
    rw [Nat.div_eq_of_lt (by omega)]; omega
  intro u
  induction u with
  | zero =>
    intro d st hd hn h
    exact fin d st (by simpa using hn) h
  | succ u ih =>
    intro d st hd hn h
    by_cases hdn : d < n
    · rw [traceFrom, if_pos (by omega), List.foldl_append]
      have hp := cs_phase hf d hd h (n - d) (by omega)
      rw [List.take_of_length_le (by rw [shift_len]; omega)] at hp
      have e : (d : Int) * 2 = ((2 * d : Nat) : Int) := by omega
      rw [e]
      refine ih (2 * d) _ (by omega) (by rw [Nat.pow_succ] at hn; rw [Nat.mul_comm 2 d, Nat.mul_assoc, Nat.mul_comm 2]; exact hn) (hp.congr (fun i hi => ?_))
      have hb : csBase f d i < n := h.lt i hi
      rw [base_next f d i hd]
      unfold csMid
      by_cases hb1 : f i / d % 2 = 1
      · rw [if_pos hb1, if_pos ⟨hb1, by omega⟩]
      · rw [if_neg hb1, if_neg (fun hc => hb1 hc.1)]
    · rw [traceFrom_end _ _ _ (by omega)]
      exact fin d st (by omega) h
/-- the state that the law's first loop builds: the elements that are kept at their places, each with the number of those dropped ahead of it -/
def csFw (K : List Bool) : Nat → List Nat
  | 0 => []
  | k + 1 => if K[k]?.getD false = true then csFw K k ++ [k - (csFw K k).length] else csFw K k
def csIn (zs : List Int) (K : List Bool) (n : Nat) : Nat → List Int × List Int × List Bool
  | 0 => (List.replicate n 0, List.replicate n 0, List.replicate n false)
  | k + 1 => if K[k]?.getD false = true then ((csIn zs K n k).1.set k (zs[k]?.getD 0), (csIn zs K n k).2.1.set k ((k - (csFw K k).length : Nat) : Int), (csIn zs K n k).2.2.set k true) else csIn zs K n k
theorem fw_len (K : List Bool) (k : Nat) : (csFw K k).length ≤ k := by
  induction k with
  | zero => simp [csFw]
  | succ k ih =>
    rw [csFw]
    split
    · simp; omega
    · omega
theorem fw_picked (zs : List Int) (K : List Bool) (h : K.length = zs.length) (k : Nat) (hk : k ≤ zs.length) : (csFw K k).length = (picked zs K k).length := by
  induction k with
  | zero => simp [csFw, picked]
  | succ k ih =>
    have ih := ih (by omega)
    rw [csFw, picked_succ (by omega) (by omega), List.getElem?_eq_getElem (by omega)]
    simp only [Option.getD_some]
    split
    · simp [ih]
    · simp [ih]
theorem fw_pre (K : List Bool) {k n : Nat} (hkn : k ≤ n) : ∃ r, csFw K n = csFw K k ++ r := by
  induction n with
  | zero => obtain rfl : k = 0 := by omega
            exact ⟨[], by simp⟩
  | succ n ih =>
    by_cases h : k = n + 1
    · exact ⟨[], by rw [h]; simp⟩
    · obtain ⟨r, hr⟩ := ih (by omega)
      rw [csFw]
      split
      · exact ⟨r ++ [n - (csFw K n).length], by rw [hr, List.append_assoc]⟩
      · exact ⟨r, hr⟩
theorem fw_in (K : List Bool) (n k : Nat) (hk : k ≤ n) (i : Nat) (hi : i < (csFw K k).length) : (csFw K n)[i]?.getD 0 = (csFw K k)[i]?.getD 0 := by
  obtain ⟨r, hr⟩ := fw_pre K hk
  rw [hr, List.getElem?_append_left hi]
theorem pick_in (zs : List Int) (K : List Bool) (n k : Nat) (hk : k ≤ n) (i : Nat) (hi : i < (picked zs K k).length) : (picked zs K n)[i]?.getD 0 = (picked zs K k)[i]?.getD 0 := by
  obtain ⟨r, hr⟩ := picked_prefix zs K hk
  rw [hr, List.getElem?_append_left hi]
theorem cs_extend {n m : Nat} {v : Nat → Int} {f q : Nat → Nat} {st : List Int × List Int × List Bool} (h : CsAt n m v f q st) (x : Nat) (hx : x < n) (hq : q m = x) (hne : ∀ i, i < m → q i ≠ x) :
    CsAt n (m + 1) v f q (st.1.set x (v m), st.2.1.set x (f m : Int), st.2.2.set x true) := by
  subst hq
  refine ⟨by simp [h.l1], by simp [h.l2], by simp [h.l3], fun i hi => ?_, fun i j hi hj e => ?_, fun i hi => ?_, fun y hy hf => ?_⟩
  · by_cases him : i = m
    · subst him; exact hx
    · exact h.lt i (by omega)
  · by_cases him : i = m
    · by_cases hjm : j = m
      · rw [him, hjm]
      · subst him; exact absurd e.symm (hne j (by omega))
    · by_cases hjm : j = m
      · subst hjm; exact absurd e (hne i (by omega))
      · exact h.inj i j (by omega) (by omega) e
  · by_cases him : i = m
    · subst him
      exact ⟨List.getElem?_set_self (by rw [h.l1]; exact hx), List.getElem?_set_self (by rw [h.l2]; exact hx), List.getElem?_set_self (by rw [h.l3]; exact hx)⟩
    · have n1 := hne i (by omega)
      obtain ⟨g1, g2, g3⟩ := h.here i (by omega)
      exact ⟨by rw [List.getElem?_set_ne (Ne.symm n1)]; exact g1, by rw [List.getElem?_set_ne (Ne.symm n1)]; exact g2, by rw [List.getElem?_set_ne (Ne.symm n1)]; exact g3⟩
  · have n1 : q m ≠ y := hf m (by omega)
    obtain ⟨g1, g2⟩ := h.off y hy (fun i hi => hf i (by omega))
    exact ⟨by rw [List.getElem?_set_ne n1]; exact g1, by rw [List.getElem?_set_ne n1]; exact g2⟩
theorem cs_start (zs : List Int) (K : List Bool) (h : K.length = zs.length) : ∀ k, k ≤ zs.length →
    CsAt zs.length (csFw K k).length (fun i => (picked zs K zs.length)[i]?.getD 0) (fun i => (csFw K zs.length)[i]?.getD 0) (fun i => i + (csFw K zs.length)[i]?.getD 0) (csIn zs K zs.length k) ∧
    (∀ i, i < (csFw K k).length → (csFw K k)[i]?.getD 0 ≤ k - (csFw K k).length) ∧ (∀ i j, i < j → j < (csFw K k).length → (csFw K k)[i]?.getD 0 ≤ (csFw K k)[j]?.getD 0) := by
  intro k
  induction k with
  | zero =>
    intro _
    refine ⟨⟨by simp [csIn], by simp [csIn], by simp [csIn], fun i hi => by simp [csFw] at hi, fun i j hi => by simp [csFw] at hi, fun i hi => by simp [csFw] at hi, fun x hx _ => by simp [csIn, hx]⟩, fun i hi => by simp [csFw] at hi, fun i j _ hj => by simp [csFw] at hj⟩
  | succ k ih =>
    intro hk
    obtain ⟨hc, hle, hmo⟩ := ih (by omega)
    have hl := fw_len K k
    have hpl := fw_picked zs K h k (by omega)
    by_cases hb : K[k]?.getD false = true
    · have e1 : csFw K (k + 1) = csFw K k ++ [k - (csFw K k).length] := by rw [csFw, if_pos hb]
      have e2 : csIn zs K zs.length (k + 1) = ((csIn zs K zs.length k).1.set k (zs[k]?.getD 0), (csIn zs K zs.length k).2.1.set k ((k - (csFw K k).length : Nat) : Int), (csIn zs K zs.length k).2.2.set k true) := by rw [csIn, if_pos hb]
      have hlen : (csFw K (k + 1)).length = (csFw K k).length + 1 := by rw [e1]; simp
      have hf : (csFw K zs.length)[(csFw K k).length]?.getD 0 = k - (csFw K k).length := by
        rw [fw_in K zs.length (k + 1) hk _ (by omega), e1, List.getElem?_append_right (Nat.le_refl _)]; simp
      have hv : (picked zs K zs.length)[(csFw K k).length]?.getD 0 = zs[k]?.getD 0 := by
        have hbk : K[k]'(by omega) = true := by rw [List.getElem?_eq_getElem (by omega)] at hb; exact hb
        have hps := picked_succ (zs := zs) (ks := K) (k := k) (by omega) (by omega)
        rw [hbk, if_pos rfl] at hps
        have hll : (picked zs K (k + 1)).length = (picked zs K k).length + 1 := by rw [hps]; simp
        rw [pick_in zs K zs.length (k + 1) hk _ (by omega), hps, hpl, List.getElem?_append_right (Nat.le_refl _)]
        simp [List.getElem?_eq_getElem (show k < zs.length by omega)]
      refine ⟨?_, ?_, ?_⟩
      · rw [hlen, e2]
        have hx := cs_extend hc k (by omega) (by show (csFw K k).length + (csFw K zs.length)[(csFw K k).length]?.getD 0 = k; rw [hf]; omega) (by
          intro i hi
          show i + (csFw K zs.length)[i]?.getD 0 ≠ k
          rw [fw_in K zs.length k (by omega) i hi]
          have := hle i hi
          omega)
        simp only [hf, hv] at hx
        exact hx
      · intro i hi
        rw [hlen] at hi ⊢
        rw [e1]
        by_cases hi2 : i < (csFw K k).length
        · rw [List.getElem?_append_left hi2]
          have := hle i hi2
          omega
        · obtain rfl : i = (csFw K k).length := by omega
          rw [List.getElem?_append_right (Nat.le_refl _)]
          simp
      · intro i j hij hj
        rw [hlen] at hj
        rw [e1]
        by_cases hj2 : j < (csFw K k).length
        · rw [List.getElem?_append_left hj2, List.getElem?_append_left (by omega)]
          exact hmo i j hij hj2
        · obtain rfl : j = (csFw K k).length := by omega
          rw [List.getElem?_append_right (Nat.le_refl _), List.getElem?_append_left hij]
          have := hle i hij
          simpa using this
    · have e1 : csFw K (k + 1) = csFw K k := by rw [csFw, if_neg hb]
      have e2 : csIn zs K zs.length (k + 1) = csIn zs K zs.length k := by rw [csIn, if_neg hb]
      rw [e1, e2]
      exact ⟨hc, fun i hi => by have := hle i hi; omega, hmo⟩
/-- the steps yield the compacted list -/
theorem cs_law (zs : List Int) (K : List Bool) (h : K.length = zs.length) (h64 : zs.length ≤ 64) :
    ((ctrace (zs.length : Int)).foldl csStep (csIn zs K zs.length zs.length)).1 = padTo zs.length (picked zs K zs.length) := by
  obtain ⟨hc, hle, hmo⟩ := cs_start zs K h zs.length (Nat.le_refl _)
  have hl := fw_len K zs.length
  have hpl := fw_picked zs K h zs.length (Nat.le_refl _)
  have hall := cs_all (n := zs.length) (m := (csFw K zs.length).length) (v := fun i => (picked zs K zs.length)[i]?.getD 0) (f := fun i => (csFw K zs.length)[i]?.getD 0)
    (fun i j hij hj => hmo i j hij hj) (fun i hi => by have := hle i hi; show i + (csFw K zs.length)[i]?.getD 0 < zs.length; omega) 7 1 (csIn zs K zs.length zs.length) (by omega) (by omega)
    (hc.congr (fun i hi => by unfold csBase; simp))
  have e : traceFrom (zs.length : Int) 7 ((1 : Nat) : Int) = ctrace (zs.length : Int) := rfl
  rw [e] at hall
  generalize (ctrace (zs.length : Int)).foldl csStep (csIn zs K zs.length zs.length) = st at *
  refine List.ext_getElem? (fun x => ?_)
  by_cases hx : x < zs.length
  · by_cases hm : x < (csFw K zs.length).length
    · rw [(hall.here x hm).1, padTo, List.getElem?_append_left (by omega), List.getElem?_eq_getElem (by omega)]
      rfl
    · rw [(hall.off x hx (fun i hi => by show i ≠ x; omega)).1, padTo, List.getElem?_append_right (by omega), List.getElem?_replicate]
      rw [if_pos (by omega)]
  · rw [List.getElem?_eq_none (by rw [hall.l1]; omega), List.getElem?_eq_none (by rw [padTo_len _ _ (by omega)]; omega)]
end Go.Proofs.Ytphcfjdhichfkaa
