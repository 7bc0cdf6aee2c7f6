/- The first descent of a list. -/
import Derived.Test.YtecbagdljgnloaaCore
import Derived.IntWalk
import Derived.Deep.QuietTactic
import Derived.BigQuiet
namespace Go.Proofs.Ytecbagdljgnloaa
open Go.RowKit
set_option linter.unusedVariables false
def ascB (l : List Int) : Bool := (List.range (l.length - 1)).all fun i => decide ((l[i]?.getD 0) ≤ (l[i + 1]?.getD 0))
def desc (l : List Int) : Int := idx (fun i => decide ((l[i + 1]?.getD 0) < (l[i]?.getD 0))) (List.range (l.length - 1))
theorem desc_neg (l : List Int) : decide (desc l < 0) = ascB l := by
  unfold desc ascB idx
  rw [Bool.eq_iff_iff]
  split <;> rename_i h
  · simp only [decide_eq_true_eq, List.all_eq_true]
    obtain ⟨x, hx, hp⟩ := List.any_eq_true.1 h
    constructor
    · intro h0; omega
    · intro ha
      have := ha x hx
      simp at hp this; omega
  · have h' : (List.range (l.length - 1)).any (fun i => decide ((l[i + 1]?.getD 0) < (l[i]?.getD 0))) = false := by simpa using h
    rw [List.any_eq_false] at h'
    simp only [decide_eq_true_eq, List.all_eq_true]
    constructor
    · intro _ i hi
      have := h' i hi
      simp at this ⊢; omega
    · intro _; decide
theorem addr_succ (a : Addr) (j : Nat) : a.add (j + 1) = ⟨a.block, a.off + (j + 1), none⟩ := by simp [Addr.add]
theorem desc_found {l : List Int} {k : Nat} (hk : k + 1 < l.length) (h : (List.range k).any (fun i => decide ((l[i + 1]?.getD 0) < (l[i]?.getD 0))) = false) (hp : l[k + 1] < l[k]) : desc l = k := by
  unfold desc
  have ht : (List.range (l.length - 1)).take k = List.range k := by rw [List.take_range]; congr 1; omega
  have hr : k < (List.range (l.length - 1)).length := by simp; omega
  refine idx_found (l := List.range (l.length - 1)) hr (by rw [ht]; exact h) ?_
  simp [List.getElem?_eq_getElem hk, List.getElem?_eq_getElem (show k < l.length by omega), hp]
theorem desc_none {l : List Int} (h : (List.range (l.length - 1)).any (fun i => decide ((l[i + 1]?.getD 0) < (l[i]?.getD 0))) = false) : desc l = -1 := by
  unfold desc
  exact idx_none (k := l.length - 1) (by simp) (by rw [List.take_range, Nat.min_self]; exact h)
theorem desc_succ {l : List Int} {k : Nat} (hk : k + 1 < l.length) (h : (List.range k).any (fun i => decide ((l[i + 1]?.getD 0) < (l[i]?.getD 0))) = false) (hp : ¬ l[k + 1] < l[k]) :
    (List.range (k + 1)).any (fun i => decide ((l[i + 1]?.getD 0) < (l[i]?.getD 0))) = false := by
  rw [List.range_succ, List.any_append, h]
  simp [List.getElem?_eq_getElem hk, List.getElem?_eq_getElem (show k < l.length by omega)]
  omega
set_option maxHeartbeats 800000 in
theorem descent_any (A : Option Addr) (zs : List Int) (c : Nat) (w : World) (hx : Reads w w.heap.size 1 A zs.length (ints zs)) (hl : zs.length ≤ 1048576) :
    Calls Try.prog 53 #[.slice A zs.length c] w fun e w' => e = .returned (.int .i64 (desc zs)) ∧ ∃ n, w' = w.drewN n := by
  go_enter Try.func53, Try.ntmps53
  go_wp2_with fail
  go_loopw [3] (fun i wr => ∃ k n : Nat, k ≤ zs.length - 1 ∧ i = .int .i64 (k + 1) ∧ wr = w.drewN n ∧ (List.range k).any (fun i => decide ((zs[i + 1]?.getD 0) < (zs[i]?.getD 0))) = false) (fun i _ => zs.length - (intOf i).toNat)
  case atStart => exact ⟨0, 0, by omega, rfl, rfl, by simp⟩
  case round =>
    obtain ⟨k, n, hk, rfl, rfl, hn⟩ := hrel
    have HN := Lib.hid hn; clear hn
    by_cases hlt : k + 1 < zs.length
    · obtain ⟨ad, rfl, -, hc⟩ := hx.int (show k < zs.length by omega)
      obtain ⟨bd, hbd, -, hc1⟩ := hx.int hlt
      cases hbd
      rw [addr_succ] at hc1
      have ew : IntKind.i64.wrap (k : Int) = k := IntWalk.i64_in _ (by omega)
      have e0 : (0 : Int) ≤ (k : Int) + 1 := by omega
      have e1 : ((k : Int) + 1).toNat = k + 1 := by omega
      have i0 : (0 : Int) ≤ (k : Int) := by omega
      have i1 : (k : Int) < zs.length := by omega
      have i2 : (k : Int) + 1 < zs.length := by omega
      by_cases hp : zs[k + 1] < zs[k]
      · go_wp2_with fail
        go_quiet (fail)
        go_wp2_with fail
        go_ret
        exact ⟨reti (desc_found hlt HN.out hp).symm, n + nq, rfl⟩
      · go_wp2_with fail
        go_quiet (fail)
        go_wp2_with fail
        go_roundw
        case rel => exact ⟨k + 1, n + nq, by omega, by go_num, rfl, desc_succ hlt HN.out (by omega)⟩
        case measure => simp [intOf]; omega
    · go_wp2_with fail
      go_ret
      refine ⟨reti (desc_none ?_).symm, n, rfl⟩
      have := HN.out
      rwa [show zs.length - 1 = k from by omega]
end Go.Proofs.Ytecbagdljgnloaa
