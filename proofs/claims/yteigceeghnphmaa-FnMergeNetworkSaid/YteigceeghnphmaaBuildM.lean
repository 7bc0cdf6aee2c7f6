/- Plain mathematics: every network that is built sorts (by truth tables). -/
import Derived.Test.YteigceeghnphmaaNetM
import Derived.Test.YteigceeghnphmaaBuildN
import Derived.Test.YteigceeghnphmaaKinds
namespace Go.Proofs.Yteigceeghnphmaa
open Go.RowKit
set_option linter.unusedVariables false
/-- one comparator on truth tables -/
def ttStep (ts : List Nat) (c : Int × Int) : List Nat := (ts.set c.1.toNat ((ts[c.1.toNat]?.getD 0) &&& (ts[c.2.toNat]?.getD 0))).set c.2.toNat ((ts[c.1.toNat]?.getD 0) ||| (ts[c.2.toNat]?.getD 0))
def ttRun (cs : List (Int × Int)) (ts : List Nat) : List Nat := cs.foldl ttStep ts
/-- the tables of the wires -/
def tabs : Nat → List Nat
  | 0 => []
  | W + 1 => ((tabs W).map fun t => t ||| t <<< (2 ^ W)) ++ [(2 ^ (2 ^ W) - 1) <<< (2 ^ W)]
theorem tabs_len : ∀ W, (tabs W).length = W
  | 0 => rfl
  | W + 1 => by simp [tabs, tabs_len W]
theorem pow_add_self (n : Nat) : 2 ^ n + 2 ^ n = 2 ^ (n + 1) := by rw [Nat.pow_succ]; omega
theorem tabs_lt : ∀ W, ∀ t ∈ tabs W, t < 2 ^ (2 ^ W) := by
  intro W
  induction W with
  | zero => intro t ht; simp [tabs] at ht
  | succ W ih =>
    have hp : (2 : Nat) ^ (2 ^ (W + 1)) = 2 ^ (2 ^ W) * 2 ^ (2 ^ W) := by rw [← Nat.pow_add, pow_add_self]
    have h1 : 0 < (2 : Nat) ^ (2 ^ W) := Nat.two_pow_pos _
    intro t ht
    rw [tabs, List.mem_append] at ht
    rcases ht with h | h
    · obtain ⟨s, hs, rfl⟩ := List.mem_map.1 h
      have hl := ih s hs
      have hle : 2 ^ (2 ^ W) ≤ 2 ^ (2 ^ (W + 1)) := Nat.pow_le_pow_right (by omega) (Nat.pow_le_pow_right (by omega) (by omega))
      refine Nat.or_lt_two_pow (by omega) ?_
      rw [Nat.shiftLeft_eq, hp]
      exact Nat.mul_lt_mul_of_pos_right hl h1
    · rw [List.mem_singleton.1 h, Nat.shiftLeft_eq, hp]
      exact Nat.mul_lt_mul_of_pos_right (by omega) h1
theorem tabs_bit : ∀ W m, m < 2 ^ W → ∀ i, i < W → ((tabs W)[i]?.getD 0).testBit m = m.testBit i := by
  intro W
  induction W with
  | zero => intro m _ i hi; omega
  | succ W ih =>
    intro m hm i hi
    have hpp : 2 ^ (W + 1) = 2 ^ W + 2 ^ W := (pow_add_self W).symm
    rw [tabs]
    by_cases hiW : i < W
    · rw [List.getElem?_append_left (by simp [tabs_len]; exact hiW), List.getElem?_map, List.getElem?_eq_getElem (by rw [tabs_len]; exact hiW)]
      simp only [Option.map_some, Option.getD_some]
      have hil : i < (tabs W).length := by rw [tabs_len]; exact hiW
      have hlt := tabs_lt W (tabs W)[i] (List.getElem_mem hil)
      have hb := fun m hm => ih m hm i hiW
      rw [List.getElem?_eq_getElem hil] at hb
      simp only [Option.getD_some] at hb
      rw [Nat.testBit_or, Nat.testBit_shiftLeft]
      by_cases hmW : m < 2 ^ W
      · have : decide (m ≥ 2 ^ W) = false := by simp; omega
        rw [this, Bool.false_and, Bool.or_false]
        exact hb m hmW
      · have h1 : decide (m ≥ 2 ^ W) = true := by simp; omega
        have h2 : ((tabs W)[i]).testBit m = false := Nat.testBit_lt_two_pow (Nat.lt_of_lt_of_le hlt (Nat.pow_le_pow_right (by omega) (by omega)))
        rw [h1, Bool.true_and, h2, Bool.false_or, hb (m - 2 ^ W) (by omega)]
        have hme : m = 2 ^ W + (m - 2 ^ W) := by omega
        conv => rhs; rw [hme]
        rw [Nat.testBit_two_pow_add_gt hiW]
    · obtain rfl : i = W := by omega
      rw [List.getElem?_append_right (by simp [tabs_len]), List.length_map, tabs_len, Nat.sub_self]
      simp only [List.getElem?_cons_zero, Option.getD_some]
      rw [Nat.testBit_shiftLeft, Nat.testBit_two_pow_sub_one]
      by_cases hmW : m < 2 ^ i
      · have h1 : decide (m ≥ 2 ^ i) = false := by simp; omega
        rw [h1, Bool.false_and]
        exact (Nat.testBit_lt_two_pow hmW).symm
      · have h1 : decide (m ≥ 2 ^ i) = true := by simp; omega
        have h2 : decide (m - 2 ^ i < 2 ^ i) = true := by simp; omega
        rw [h1, h2]
        have hme : m = 2 ^ i + (m - 2 ^ i) := by omega
        rw [hme, Nat.testBit_two_pow_add_eq, Nat.testBit_lt_two_pow (show m - 2 ^ i < 2 ^ i by omega)]
        rfl
theorem bitI_and (x y m : Nat) : bitI (x &&& y) m = min (bitI x m) (bitI y m) := by
  unfold bitI
  rw [Nat.testBit_and]
  cases x.testBit m <;> cases y.testBit m <;> rfl
theorem bitI_or (x y m : Nat) : bitI (x ||| y) m = max (bitI x m) (bitI y m) := by
  unfold bitI
  rw [Nat.testBit_or]
  cases x.testBit m <;> cases y.testBit m <;> rfl
theorem getD_bit (ts : List Nat) (m i : Nat) : (ts.map fun t => bitI t m)[i]?.getD 0 = bitI (ts[i]?.getD 0) m := by
  rw [List.getElem?_map]
  by_cases h : i < ts.length
  · rw [List.getElem?_eq_getElem h]; rfl
  · rw [List.getElem?_eq_none (by omega)]; simp [bitI]
theorem tt_step (ts : List Nat) (a b m : Nat) (ha : a < ts.length) (hb : b < ts.length) (hab : a ≠ b) :
    cmpDo (ts.map fun t => bitI t m) ((a : Int), (b : Int)) = (ttStep ts ((a : Int), (b : Int))).map fun t => bitI t m := by
  refine ext_getD (by simp [ttStep]) (fun i _ => ?_)
  rw [cmpDo_at _ _ _ (by simpa using ha) (by simpa using hb) hab, getD_bit, getD_bit, getD_bit, getD_bit]
  simp only [ttStep, Int.toNat_natCast]
  by_cases h1 : i = a
  · subst h1
    rw [if_pos rfl, List.getElem?_set_ne (Ne.symm hab), List.getElem?_set_self ha, Option.getD_some, bitI_and]
  · rw [if_neg h1]
    by_cases h2 : i = b
    · subst h2
      rw [if_pos rfl, List.getElem?_set_self (by simpa using hb), Option.getD_some, bitI_or]
    · rw [if_neg h2, List.getElem?_set_ne (Ne.symm h2), List.getElem?_set_ne (Ne.symm h1)]
theorem ttStep_len (ts : List Nat) (c : Int × Int) : (ttStep ts c).length = ts.length := by simp [ttStep]
theorem tt_run {W : Nat} (m : Nat) (cs : List (Int × Int)) (hcs : ∀ c ∈ cs, cmpOk W c = true) : ∀ ts : List Nat, ts.length = W → netRun cs (ts.map fun t => bitI t m) = (ttRun cs ts).map fun t => bitI t m := by
  induction cs with
  | nil => intro ts _; rfl
  | cons c cs ih =>
    intro ts hl
    obtain ⟨a, b, rfl, hab, ha, hb⟩ := cmp_nat (hcs c (by simp))
    show netRun cs (cmpDo _ _) = (ttRun cs (ttStep ts _)).map _
    rw [tt_step ts a b m (by omega) (by omega) hab]
    exact ih (fun d hd => hcs d (by simp [hd])) _ (by rw [ttStep_len]; exact hl)
/-- the tables ascend from wire to wire -/
def ttAsc : List Nat → Bool
  | x :: y :: r => (x &&& y == x) && ttAsc (y :: r)
  | _ => true
theorem ttAsc_pair (m : Nat) : ∀ ts : List Nat, ttAsc ts = true → (ts.map fun t => bitI t m).Pairwise (· ≤ ·) := by
  intro ts
  induction ts with
  | nil => intro _; exact List.Pairwise.nil
  | cons x ts ih =>
    intro h
    cases ts with
    | nil => simp
    | cons y r =>
      simp only [ttAsc, Bool.and_eq_true, beq_iff_eq] at h
      have h2 := ih h.2
      have hxy : bitI x m ≤ bitI y m := by
        have := bitI_and x y m
        rw [h.1] at this; omega
      rw [List.map_cons, List.pairwise_cons]
      refine ⟨fun z hz => ?_, h2⟩
      rw [List.map_cons, List.pairwise_cons] at h2
      rw [List.map_cons] at hz
      rcases List.mem_cons.1 hz with rfl | hz
      · exact hxy
      · have := h2.1 z hz; omega
def ttOk (W : Nat) (cs : List (Int × Int)) : Bool := ttAsc (ttRun cs (tabs W))
theorem tt_sorts {W : Nat} {cs : List (Int × Int)} (hcs : ∀ c ∈ cs, cmpOk W c = true) (h : ttOk W cs = true) : ∀ l : List Int, l.length = W → netRun cs l = srt l := by
  refine zero_one W cs (cs_rng rfl hcs) (fun z hl hz => ?_)
  obtain ⟨m, hm, e⟩ := zo_bin z hz
  rw [hl] at hm e
  have e2 : z = (tabs W).map fun t => bitI t m := by
    rw [e]
    refine ext_getD (by rw [binL_len, List.length_map, tabs_len]) (fun i hi => ?_)
    rw [binL_len] at hi
    rw [binL_at hi, getD_bit, Option.getD_some]
    exact bitI_congr (tabs_bit W m hm i hi).symm
  rw [e2, tt_run m cs hcs (tabs W) (tabs_len W)]
  exact ttAsc_pair m _ h
/-- what is wanted of one built network -/
def bnGood (k : Int) (W : Nat) : Bool := netOk (W : Int) (bnL k W) && ttOk W (bnL k W)
theorem good1 : ∀ W : Fin 17, 1 ≤ W.val → bnGood 1 W.val = true := by decide +kernel
theorem good2 : ∀ W : Fin 17, 1 ≤ W.val → bnGood 2 W.val = true := by decide +kernel
theorem good3 : ∀ W : Fin 17, 1 ≤ W.val → bnGood 3 W.val = true := by decide +kernel
theorem good4 : ∀ W : Fin 17, 1 ≤ W.val → pw (W.val : Int) = true → bnGood 4 W.val = true := by decide +kernel
theorem bn_good {k W : Int} (h : bnOk k W = true) : ∃ N : Nat, W = N ∧ 1 ≤ N ∧ N ≤ 16 ∧ netOk (N : Int) (bnV k W) = true ∧ ∀ l : List Int, l.length = N → netRun (bnV k W) l = srt l := by
  have hv := (bn_on h).1
  have h2 := h
  simp only [bnOk, Bool.and_eq_true] at h2
  obtain ⟨hW, hk⟩ := h2
  obtain ⟨w1, w2⟩ := inB_iff.1 hW
  obtain ⟨N, rfl⟩ := Int.eq_ofNat_of_zero_le (show 0 ≤ W by omega)
  have hg : bnGood k N = true := by
    simp only [bnKind, Bool.or_eq_true, Bool.and_eq_true, beq_iff_eq] at hk
    rcases hk with rfl | rfl | rfl | ⟨rfl, hp⟩
    · exact good1 ⟨N, by omega⟩ (by show 1 ≤ N; omega)
    · exact good2 ⟨N, by omega⟩ (by show 1 ≤ N; omega)
    · exact good3 ⟨N, by omega⟩ (by show 1 ≤ N; omega)
    · exact good4 ⟨N, by omega⟩ (by show 1 ≤ N; omega) hp
  simp only [bnGood, Bool.and_eq_true] at hg
  rw [hv]
  exact ⟨N, rfl, by omega, by omega, hg.1, tt_sorts (netOk_parts hg.1).2.2.2 hg.2⟩
/-- the sizes of the kinds -/
theorem size13 : ∀ W : Fin 17, 1 ≤ W.val → (bnV 3 (W.val : Int)).length ≤ (bnV 1 (W.val : Int)).length ∧ (bnV 1 (W.val : Int)).length = W.val * (W.val - 1) / 2 := by decide +kernel
end Go.Proofs.Yteigceeghnphmaa
