/- Which comparators of a network ever exchange two values, over all binary inputs. Plain. -/
import Derived.Test.YtkhfilkikpiepaaFirst
import Derived.Test.YtkhfilkikpiepaaHold
namespace Go.Proofs.Ytkhfilkikpiepaa
open Go.RowKit
set_option linter.unusedVariables false
def cAt (cs : List (Int × Int)) (i : Nat) : Int × Int := cs[i]?.getD (0, 0)
theorem cAt_get {cs : List (Int × Int)} {i : Nat} (h : i < cs.length) : cAt cs i = cs[i] := by simp [cAt, h]
/-- comparator i exchanges at input m -/
def exch (cs : List (Int × Int)) (i m : Nat) : Bool := (netN (cs.take i) m).testBit (cAt cs i).1.toNat && !(netN (cs.take i) m).testBit (cAt cs i).2.toNat
/-- comparator i exchanges at an input below k -/
def usedB (cs : List (Int × Int)) (k i : Nat) : Bool := (List.range k).any (exch cs i)
/-- .. or at input k, if it is below j -/
def usedJ (cs : List (Int × Int)) (k j i : Nat) : Bool := usedB cs k i || (decide (i < j) && exch cs i k)
def rowU (cs : List (Int × Int)) (k j : Nat) : List Bool := (List.range cs.length).map (usedJ cs k j)
def rowN (cs : List (Int × Int)) (k j : Nat) : List Bool := (List.range cs.length).map fun i => !usedJ cs k j i
@[simp] theorem rowU_len (cs : List (Int × Int)) (k j : Nat) : (rowU cs k j).length = cs.length := by simp [rowU]
@[simp] theorem rowN_len (cs : List (Int × Int)) (k j : Nat) : (rowN cs k j).length = cs.length := by simp [rowN]
theorem rowU_get {cs : List (Int × Int)} {k j i : Nat} (h : i < (rowU cs k j).length) : (rowU cs k j)[i] = usedJ cs k j i := by simp [rowU]
theorem rowN_get {cs : List (Int × Int)} {k j i : Nat} (h : i < (rowN cs k j).length) : (rowN cs k j)[i] = !usedJ cs k j i := by simp [rowN]
theorem usedJ_zero (cs : List (Int × Int)) (k i : Nat) : usedJ cs k 0 i = usedB cs k i := by simp [usedJ]
theorem usedB_zero (cs : List (Int × Int)) (i : Nat) : usedB cs 0 i = false := by simp [usedB]
theorem usedB_succ (cs : List (Int × Int)) (k i : Nat) : usedB cs (k + 1) i = (usedB cs k i || exch cs i k) := by simp [usedB, List.range_succ]
theorem usedJ_end (cs : List (Int × Int)) (k j i : Nat) (h : i < j) : usedJ cs k j i = usedB cs (k + 1) i := by simp [usedJ, usedB_succ, h]
theorem usedJ_at (cs : List (Int × Int)) (k j : Nat) : usedJ cs k j j = usedB cs k j := by simp [usedJ]
theorem usedJ_next (cs : List (Int × Int)) (k j i : Nat) : usedJ cs k (j + 1) i = if i = j then (usedJ cs k j j || exch cs j k) else usedJ cs k j i := by
  by_cases h : i = j
  · subst h; simp [usedJ]
  · rw [if_neg h]
    simp only [usedJ]
    congr 2
    rw [decide_eq_decide]; omega
theorem rowU_next (cs : List (Int × Int)) (k j : Nat) (hj : j < cs.length) : (rowU cs k j).set j (usedJ cs k j j || exch cs j k) = rowU cs k (j + 1) := by
  apply List.ext_getElem
  · simp
  · intro i h1 h2
    rw [List.getElem_set, rowU_get, rowU_get, usedJ_next]
    by_cases h : j = i
    · subst h; simp
    · rw [if_neg h, if_neg (Ne.symm h)]
theorem rowN_next (cs : List (Int × Int)) (k j : Nat) (hj : j < cs.length) (h : exch cs j k = true) : (rowN cs k j).set j false = rowN cs k (j + 1) := by
  apply List.ext_getElem
  · simp
  · intro i h1 h2
    rw [List.getElem_set, rowN_get, rowN_get, usedJ_next]
    by_cases hi : j = i
    · subst hi; simp [h]
    · rw [if_neg hi, if_neg (Ne.symm hi)]
theorem rowN_same (cs : List (Int × Int)) (k j : Nat) (h : exch cs j k = false) : rowN cs k j = rowN cs k (j + 1) := by
  unfold rowN
  apply List.map_congr_left
  intro i _
  rw [usedJ_next]
  by_cases hi : i = j
  · subst hi; simp [h]
  · rw [if_neg hi]
theorem rowU_wrap (cs : List (Int × Int)) (k : Nat) : rowU cs k cs.length = rowU cs (k + 1) 0 := by
  unfold rowU
  apply List.map_congr_left
  intro i hi
  rw [usedJ_end _ _ _ _ (List.mem_range.1 hi), usedJ_zero]
theorem rowN_wrap (cs : List (Int × Int)) (k : Nat) : rowN cs k cs.length = rowN cs (k + 1) 0 := by
  unfold rowN
  apply List.map_congr_left
  intro i hi
  rw [usedJ_end _ _ _ _ (List.mem_range.1 hi), usedJ_zero]
theorem rowU_zero (cs : List (Int × Int)) : rowU cs 0 0 = List.replicate cs.length false := by
  unfold rowU
  rw [List.eq_replicate_iff]
  simp [usedJ, usedB]
theorem rowN_zero (cs : List (Int × Int)) : rowN cs 0 0 = List.replicate cs.length true := by
  unfold rowN
  rw [List.eq_replicate_iff]
  simp [usedJ, usedB]
/-- the exchange as the step of a number shows it -/
theorem exch_step (cs : List (Int × Int)) (i m : Nat) (M a b : Nat) (hM : M = netN (cs.take i) m) (hc : cAt cs i = ((a : Int), (b : Int))) : exch cs i m = (M.testBit a && !M.testBit b) := by
  subst hM; simp [exch, hc]
theorem step_ne {M a b : Nat} (hab : a ≠ b) : (stepN M a b != M) = (M.testBit a && !M.testBit b) := by
  unfold stepN
  cases h : (M.testBit a && !M.testBit b)
  · simp
  · rw [if_pos rfl]
    simp only [bne_iff_ne, ne_eq]
    intro e
    have ht : (M ^^^ 2 ^ a ^^^ 2 ^ b).testBit a = M.testBit a := by rw [e]
    simp [Nat.testBit_xor, Ne.symm hab] at ht
/-- the indices of those that never exchange -/
def idleT (cs : List (Int × Int)) (N k : Nat) : List Int := ((List.range k).filter fun i => !usedB cs N i).map fun i : Nat => (i : Int)
theorem idleT_succ (cs : List (Int × Int)) (N k : Nat) : idleT cs N (k + 1) = idleT cs N k ++ if usedB cs N k then [] else [(k : Int)] := by
  unfold idleT
  rw [List.range_succ, List.filter_append, List.map_append]
  cases h : usedB cs N k <;> simp [h]
theorem idleT_len (cs : List (Int × Int)) (N k : Nat) : (idleT cs N k).length ≤ k := by
  unfold idleT
  rw [List.length_map]
  exact Nat.le_trans (List.length_filter_le _ _) (by simp)
theorem idle_mem (cs : List (Int × Int)) (N k i : Nat) (hi : i < k) : (idleT cs N k).any (fun x => x == (i : Int)) = !usedB cs N i := by
  rw [Bool.eq_iff_iff, List.any_eq_true]
  unfold idleT
  simp only [List.mem_map, List.mem_filter, List.mem_range, beq_iff_eq]
  constructor
  · rintro ⟨x, ⟨j, ⟨_, hj⟩, rfl⟩, e⟩
    have : j = i := by omega
    subst this; exact hj
  · intro h
    exact ⟨i, ⟨i, ⟨hi, h⟩, rfl⟩, rfl⟩
def rcV (W : Int) (cs : List (Int × Int)) : List Int := if chkOk W cs then idleT cs (2 ^ W.toNat) cs.length else []
theorem rc_len (W : Int) (cs : List (Int × Int)) : (rcV W cs).length ≤ 200 := by
  unfold rcV
  split
  · rename_i h
    simp [chkOk, netOk] at h
    exact Nat.le_trans (idleT_len _ _ _) h.1.2.1
  · simp
/-- the comparators that exchange somewhere -/
def keptT (cs : List (Int × Int)) (N k : Nat) : List (Int × Int) := ((List.range k).filter fun i => usedB cs N i).map (cAt cs)
theorem keptT_succ (cs : List (Int × Int)) (N k : Nat) : keptT cs N (k + 1) = keptT cs N k ++ if usedB cs N k then [cAt cs k] else [] := by
  unfold keptT
  rw [List.range_succ, List.filter_append, List.map_append]
  cases h : usedB cs N k <;> simp [h]
theorem keptT_len (cs : List (Int × Int)) (N k : Nat) : (keptT cs N k).length ≤ k := by
  unfold keptT
  rw [List.length_map]
  exact Nat.le_trans (List.length_filter_le _ _) (by simp)
def prW (W : Int) (cs : List (Int × Int)) : Int := if chkOk W cs then W else 0
def prV (W : Int) (cs : List (Int × Int)) : List (Int × Int) := if chkOk W cs then keptT cs (2 ^ W.toNat) cs.length else []
theorem pr_len (W : Int) (cs : List (Int × Int)) : (prV W cs).length ≤ 200 := by
  unfold prV
  split
  · rename_i h
    simp [chkOk, netOk] at h
    exact Nat.le_trans (keptT_len _ _ _) h.1.2.1
  · simp
end Go.Proofs.Ytkhfilkikpiepaa
