/- Plain mathematics of networks: binary inputs, standard form, pruning. -/
import Derived.Test.YtkhfilkikpiepaaZero
import Derived.Test.YtkhfilkikpiepaaBits
import Derived.Test.YtkhfilkikpiepaaIdle
namespace Go.Proofs.Ytkhfilkikpiepaa
open Go.RowKit
set_option linter.unusedVariables false
/-- every list of zeros and ones is the bits of a number -/
theorem zo_bin : ∀ z : List Int, zo z → ∃ m, m < 2 ^ z.length ∧ z = binL m z.length := by
  intro z
  induction z with
  | nil => intro _; exact ⟨0, by simp, rfl⟩
  | cons x z ih =>
    intro h
    obtain ⟨m, hm, hz⟩ := ih (fun y hy => h y (List.mem_cons_of_mem x hy))
    obtain ⟨b, hb, hx⟩ : ∃ b : Nat, b < 2 ∧ x = (b : Int) := by
      rcases h x (by simp) with e | e
      · exact ⟨0, by omega, e⟩
      · exact ⟨1, by omega, e⟩
    refine ⟨2 * m + b, by rw [List.length_cons, Nat.pow_succ]; omega, ?_⟩
    rw [List.length_cons, binL, List.range_succ_eq_map, List.map_cons, List.map_map]
    have e0 : bitI (2 * m + b) 0 = x := by
      unfold bitI
      rw [Nat.testBit_zero, hx]
      rcases (show b = 0 ∨ b = 1 by omega) with e | e
      · subst e; simp
      · subst e
        rw [if_pos (by simp)]; rfl
    rw [e0]
    congr 1
    rw [hz, binL_len]
    show binL m z.length = _
    unfold binL
    refine List.map_congr_left (fun i _ => ?_)
    show bitI m i = bitI (2 * m + b) (i + 1)
    refine bitI_congr ?_
    rw [Nat.testBit_succ]
    congr 1
    omega
theorem asc_pair {l : List Int} (h : ascB l = true) : l.Pairwise (· ≤ ·) := by
  simp only [ascB, List.all_eq_true, List.mem_range, decide_eq_true_eq] at h
  have key : ∀ d i, i + d < l.length → l[i]?.getD 0 ≤ l[i + d]?.getD 0 := by
    intro d
    induction d with
    | zero => intro i _; exact Int.le_refl _
    | succ d ih =>
      intro i hi
      have h1 := ih i (by omega)
      have h2 := h (i + d) (by omega)
      rw [show i + (d + 1) = i + d + 1 by omega]
      omega
  rw [List.pairwise_iff_getElem]
  intro i j hi hj hij
  have := key (j - i) i (by omega)
  rw [show i + (j - i) = j by omega, List.getElem?_eq_getElem hi, List.getElem?_eq_getElem hj] at this
  exact this
theorem pair_asc {l : List Int} (h : l.Pairwise (· ≤ ·)) : ascB l = true := by
  simp only [ascB, List.all_eq_true, List.mem_range, decide_eq_true_eq]
  intro i hi
  rw [List.getElem?_eq_getElem (show i < l.length by omega), List.getElem?_eq_getElem (show i + 1 < l.length by omega)]
  exact List.pairwise_iff_getElem.1 h i (i + 1) (by omega) (by omega) (by omega)
theorem cs_rng {W : Int} {cs : List (Int × Int)} {n : Nat} (hW : W = n) (h : ∀ c ∈ cs, cmpOk W c = true) : ∀ c ∈ cs, c.1.toNat < n ∧ c.2.toNat < n := by
  intro c hc
  have := cmpOk_iff' (h c hc)
  omega
theorem netOk_parts {W : Int} {cs : List (Int × Int)} (h : netOk W cs = true) : 1 ≤ W ∧ W ≤ 16 ∧ cs.length ≤ 200 ∧ ∀ c ∈ cs, cmpOk W c = true := by
  simp only [netOk, Bool.and_eq_true, decide_eq_true_eq, List.all_eq_true] at h
  have := inB_iff.1 h.1
  exact ⟨this.1, this.2, h.2.1, h.2.2⟩
/-- a network that sorts the binary inputs sorts every list -/
theorem fu_sorts {W : Nat} {cs : List (Int × Int)} (hcs : ∀ c ∈ cs, cmpOk W c = true) (h : fuL W cs = -1) : ∀ l : List Int, l.length = W → netRun cs l = srt l := by
  have hany : (List.range (2 ^ W)).any (fuP W cs) = false := by
    unfold fuL idx at h
    cases ha : (List.range (2 ^ W)).any (fuP W cs)
    · rfl
    · rw [ha] at h; simp at h
  refine zero_one W cs (cs_rng rfl hcs) (fun z hl hz => ?_)
  obtain ⟨m, hm, e⟩ := zo_bin z hz
  rw [hl] at hm e
  have h1 := List.any_eq_false.1 hany m (by simpa using hm)
  simp only [fuP, Bool.not_eq_true, Bool.not_eq_false'] at h1
  rw [e]
  exact asc_pair h1
theorem sorts_fu {W : Nat} {cs : List (Int × Int)} (h : ∀ l : List Int, l.length = W → netRun cs l = srt l) : fuL W cs = -1 := by
  have hany : (List.range (2 ^ W)).any (fuP W cs) = false := by
    rw [List.any_eq_false]
    intro m _
    simp only [fuP, Bool.not_eq_true, Bool.not_eq_false']
    rw [h (binL m W) (binL_len m W)]
    exact pair_asc (srt_pair _)
  simp [fuL, idx, hany]
theorem fu_bad {W : Nat} {cs : List (Int × Int)} (h : 0 ≤ fuL W cs) : ∃ m : Nat, fuL W cs = m ∧ m < 2 ^ W ∧ ascB (netRun cs (binL m W)) = false := by
  unfold fuL idx at h ⊢
  cases ha : (List.range (2 ^ W)).any (fuP W cs)
  · rw [ha] at h; simp at h
  · have hlt : (List.range (2 ^ W)).findIdx (fuP W cs) < (List.range (2 ^ W)).length := List.findIdx_lt_length_of_exists (by
      obtain ⟨x, hx, hp⟩ := List.any_eq_true.1 ha
      exact ⟨x, hx, hp⟩)
    refine ⟨(List.range (2 ^ W)).findIdx (fuP W cs), by simp, by simpa using hlt, ?_⟩
    have := List.findIdx_getElem (w := hlt)
    rw [List.getElem_range] at this
    simpa [fuP] using this
theorem fu_dich (W : Nat) (cs : List (Int × Int)) : fuL W cs = -1 ∨ 0 ≤ fuL W cs := by
  unfold fuL idx
  split
  · right; omega
  · left; rfl
/-! ### what a comparator leaves -/
theorem cmpDo_at (l : List Int) (a b : Nat) (ha : a < l.length) (hb : b < l.length) (hab : a ≠ b) (t : Nat) :
    (cmpDo l ((a : Int), (b : Int)))[t]?.getD 0 = if t = a then min (l[a]?.getD 0) (l[b]?.getD 0) else if t = b then max (l[a]?.getD 0) (l[b]?.getD 0) else l[t]?.getD 0 := by
  unfold cmpDo
  simp only [Int.toNat_natCast]
  split
  · rename_i h
    by_cases h1 : t = a
    · subst h1
      rw [if_pos rfl, List.getElem?_set_ne (by omega), List.getElem?_set_self ha]
      simp only [Option.getD_some]; omega
    · rw [if_neg h1]
      by_cases h2 : t = b
      · subst h2
        rw [if_pos rfl, List.getElem?_set_self (by simpa using hb)]
        simp only [Option.getD_some]; omega
      · rw [if_neg h2, List.getElem?_set_ne (by omega), List.getElem?_set_ne (by omega)]
  · rename_i h
    split
    · rename_i e; subst e; omega
    · split
      · rename_i e; subst e; omega
      · rfl
theorem cmp_nat {W : Int} {c : Int × Int} (h : cmpOk W c = true) : ∃ a b : Nat, c = ((a : Int), (b : Int)) ∧ a ≠ b ∧ (a : Int) < W ∧ (b : Int) < W := by
  obtain ⟨h1, h2, h3, h4, h5⟩ := cmpOk_iff' h
  refine ⟨c.1.toNat, c.2.toNat, Prod.ext (by simp; omega) (by simp; omega), by omega, by omega, by omega⟩
/-- an exchange of names, place by place -/
theorem ext_getD {l m : List Int} (hl : l.length = m.length) (h : ∀ i, i < l.length → l[i]?.getD 0 = m[i]?.getD 0) : l = m := by
  apply List.ext_getElem hl
  intro i h1 h2
  have := h i h1
  rwa [List.getElem?_eq_getElem h1, List.getElem?_eq_getElem h2] at this
/-! ### pruning -/
theorem idle_noswap {W : Nat} {cs : List (Int × Int)} (hcs : ∀ c ∈ cs, cmpOk W c = true) {i : Nat} (hi : i < cs.length) (hu : usedB cs (2 ^ W) i = false) (l : List Int) (hl : l.length = W) :
    netRun (cs.take (i + 1)) l = netRun (cs.take i) l := by
  obtain ⟨a, b, hc, hab, ha, hb⟩ := cmp_nat (hcs cs[i] (List.getElem_mem hi))
  have hrl : (netRun (cs.take i) l).length = W := by rw [netRun_len, hl]
  rw [netRun_take cs l i hi, hc]
  unfold cmpDo
  simp only [Int.toNat_natCast]
  rw [if_neg]
  intro hlt
  have hall := List.any_eq_false.1 (show (List.range (2 ^ W)).any (exch cs i) = false from hu)
  let x := netRun (cs.take i) l
  let f : Int → Int := fun v => if x[a]?.getD 0 ≤ v then 1 else 0
  have hf : ∀ u v, u ≤ v → f u ≤ f v := by
    intro u v huv
    show (if _ then (1 : Int) else 0) ≤ (if _ then (1 : Int) else 0)
    split
    · rw [if_pos (by omega)]; exact Int.le_refl _
    · split <;> omega
  have hz : zo (l.map f) := by
    intro v hv
    obtain ⟨y, _, rfl⟩ := List.mem_map.1 hv
    show (if _ then (1 : Int) else 0) = 0 ∨ (if _ then (1 : Int) else 0) = 1
    split
    · exact .inr rfl
    · exact .inl rfl
  obtain ⟨m, hm, e⟩ := zo_bin (l.map f) hz
  rw [List.length_map, hl] at hm e
  have htk : ∀ c ∈ cs.take i, cmpOk W c = true := fun c hc => hcs c (List.mem_of_mem_take hc)
  have hrun := netRun_map hf W (cs.take i) (cs_rng rfl htk) l hl
  rw [e, ← netN_bin W (cs.take i) m htk] at hrun
  have g1 : bitI (netN (cs.take i) m) a = 1 := by
    have h1 := congrArg (fun l => l[a]?.getD 0) hrun
    rw [binL_at (by omega), getD_map0 (by omega)] at h1
    simp only [Option.getD_some] at h1
    rw [h1]; exact if_pos (Int.le_refl _)
  have g2 : bitI (netN (cs.take i) m) b = 0 := by
    have h1 := congrArg (fun l => l[b]?.getD 0) hrun
    rw [binL_at (by omega), getD_map0 (by omega)] at h1
    simp only [Option.getD_some] at h1
    rw [h1]; exact if_neg (by show ¬ (x[a]?.getD 0 ≤ x[b]?.getD 0); show ¬ ((netRun (cs.take i) l)[a]?.getD 0 ≤ (netRun (cs.take i) l)[b]?.getD 0); omega)
  have hlt2 := (bitI_lt (netN (cs.take i) m) a b).1 (by omega)
  refine hall m (by simpa using hm) ?_
  unfold exch
  rw [cAt_get hi, hc]
  simp [hlt2]
theorem kept_run {W : Nat} {cs : List (Int × Int)} (hcs : ∀ c ∈ cs, cmpOk W c = true) (l : List Int) (hl : l.length = W) : ∀ k, k ≤ cs.length → netRun (keptT cs (2 ^ W) k) l = netRun (cs.take k) l := by
  intro k
  induction k with
  | zero => intro _; simp [keptT, netRun]
  | succ k ih =>
    intro hk
    rw [keptT_succ, netRun, List.foldl_append]
    have h1 : List.foldl cmpDo l (keptT cs (2 ^ W) k) = netRun (cs.take k) l := ih (by omega)
    rw [h1]
    cases hu : usedB cs (2 ^ W) k
    · rw [idle_noswap hcs hk hu l hl]; rfl
    · rw [netRun_take cs l k hk, if_pos rfl, cAt_get hk]; rfl
theorem kept_num {W : Nat} {cs : List (Int × Int)} (m : Nat) (hm : m < 2 ^ W) : ∀ k, k ≤ cs.length → netN (keptT cs (2 ^ W) k) m = netN (cs.take k) m := by
  intro k
  induction k with
  | zero => intro _; simp [keptT, netN]
  | succ k ih =>
    intro hk
    rw [keptT_succ, netN, List.foldl_append]
    have h1 : List.foldl (fun m c => stepN m c.1.toNat c.2.toNat) m (keptT cs (2 ^ W) k) = netN (cs.take k) m := ih (by omega)
    rw [h1, netN_take cs m k hk]
    cases hu : usedB cs (2 ^ W) k
    · have h2 := List.any_eq_false.1 (show (List.range (2 ^ W)).any (exch cs k) = false from hu) m (by simpa using hm)
      unfold exch at h2
      rw [cAt_get hk] at h2
      unfold stepN
      rw [if_neg h2]; rfl
    · rw [if_pos rfl, cAt_get hk]; rfl
theorem exch_app (cs ds : List (Int × Int)) {j m : Nat} (hj : j < cs.length) : exch (cs ++ ds) j m = exch cs j m := by
  unfold exch cAt
  rw [List.take_append_of_le_length (by omega), List.getElem?_append_left hj]
theorem kept_used {W : Nat} {cs : List (Int × Int)} : ∀ k, k ≤ cs.length → ∀ j, j < (keptT cs (2 ^ W) k).length → usedB (keptT cs (2 ^ W) k) (2 ^ W) j = true := by
  intro k
  induction k with
  | zero => intro _ j hj; simp [keptT] at hj
  | succ k ih =>
    intro hk j hj
    rw [keptT_succ] at hj ⊢
    by_cases hjl : j < (keptT cs (2 ^ W) k).length
    · have := ih (by omega) j hjl
      obtain ⟨m, hm, hx⟩ := List.any_eq_true.1 (show (List.range (2 ^ W)).any (exch (keptT cs (2 ^ W) k) j) = true from this)
      exact List.any_eq_true.2 ⟨m, hm, by rw [exch_app _ _ hjl]; exact hx⟩
    · cases hu : usedB cs (2 ^ W) k
      · rw [hu] at hj; simp at hj; omega
      · rw [hu] at hj
        simp only [if_true, List.length_append, List.length_cons, List.length_nil] at hj ⊢
        obtain rfl : j = (keptT cs (2 ^ W) k).length := by omega
        obtain ⟨m, hm, hx⟩ := List.any_eq_true.1 (show (List.range (2 ^ W)).any (exch cs k) = true from hu)
        refine List.any_eq_true.2 ⟨m, hm, ?_⟩
        have hmm : m < 2 ^ W := by simpa using hm
        unfold exch at hx ⊢
        rw [List.take_left, kept_num m hmm k (by omega)]
        have : cAt (keptT cs (2 ^ W) k ++ [cAt cs k]) (keptT cs (2 ^ W) k).length = cAt cs k := by simp [cAt]
        rw [this]; exact hx
theorem kept_ok {W : Int} {cs : List (Int × Int)} (h : chkOk W cs = true) (N : Nat) : chkOk W (keptT cs N cs.length) = true := by
  simp only [chkOk, Bool.and_eq_true, decide_eq_true_eq] at h ⊢
  refine ⟨?_, h.2⟩
  obtain ⟨h1, h2, h3, h4⟩ := netOk_parts h.1
  simp only [netOk, Bool.and_eq_true, decide_eq_true_eq, List.all_eq_true]
  refine ⟨inB_iff.2 ⟨h1, h2⟩, by have := keptT_len cs N cs.length; omega, fun c hc => ?_⟩
  simp only [keptT, List.mem_map, List.mem_filter, List.mem_range] at hc
  obtain ⟨i, ⟨hi, _⟩, rfl⟩ := hc
  rw [cAt_get hi]
  exact h4 _ (List.getElem_mem hi)
theorem kept_count (cs : List (Int × Int)) (N : Nat) : ∀ k, (keptT cs N k).length + (idleT cs N k).length = k := by
  intro k
  induction k with
  | zero => rfl
  | succ k ih =>
    rw [keptT_succ, idleT_succ]
    cases usedB cs N k <;> simp <;> omega
theorem idle_nil {cs : List (Int × Int)} {N : Nat} : ∀ k, (∀ j, j < k → usedB cs N j = true) → idleT cs N k = [] := by
  intro k
  induction k with
  | zero => intro _; rfl
  | succ k ih =>
    intro h
    rw [idleT_succ, ih (fun j hj => h j (by omega)), h k (by omega)]; rfl
/-- what the law on pruning wants -/
theorem prune_facts {W : Int} {cs : List (Int × Int)} (h : chkOk W cs = true) :
    chkOk W (prV W cs) = true ∧ prW W cs = W ∧ rcV W (prV W cs) = [] ∧ (prV W cs).length + (rcV W cs).length = cs.length ∧ ∀ l : List Int, (l.length : Int) = W → netRun (prV W cs) l = netRun cs l := by
  have hp : prV W cs = keptT cs (2 ^ W.toNat) cs.length := by rw [prV, if_pos h]
  have hr : rcV W cs = idleT cs (2 ^ W.toNat) cs.length := by rw [rcV, if_pos h]
  have hok := kept_ok h (2 ^ W.toNat)
  obtain ⟨h1, h2, h3, h4⟩ := netOk_parts (show netOk W cs = true by simp only [chkOk, Bool.and_eq_true] at h; exact h.1)
  obtain ⟨n, rfl⟩ := Int.eq_ofNat_of_zero_le (show 0 ≤ W by omega)
  simp only [Int.toNat_natCast] at hp hr hok
  rw [hp, hr]
  refine ⟨hok, by rw [prW, if_pos h], ?_, kept_count cs _ _, fun l hl => ?_⟩
  · rw [rcV, if_pos hok]
    exact idle_nil _ (fun j hj => kept_used cs.length (Nat.le_refl _) j hj)
  · rw [kept_run h4 l (by omega) cs.length (Nat.le_refl _), List.take_of_length_le (Nat.le_refl _)]
end Go.Proofs.Ytkhfilkikpiepaa
