/- A network runs on a list. -/
import Derived.Test.YtinigocjeefjgaaNetTo
import Derived.BigQuiet
import Derived.Deep.QuietTactic
namespace Go.Proofs.Ytinigocjeefjgaa
open Go.RowKit
set_option linter.unusedVariables false
theorem cmpOk_iff' {W : Int} {c : Int × Int} (h : cmpOk W c = true) : c.1 ≠ c.2 ∧ 0 ≤ c.1 ∧ c.1 < W ∧ 0 ≤ c.2 ∧ c.2 < W := by
  simp only [cmpOk, Bool.and_eq_true, Bool.not_eq_true', beq_eq_false_iff_ne] at h
  have := inB_iff.1 h.2.1
  have := inB_iff.1 h.2.2
  exact ⟨h.1, by omega, by omega, by omega, by omega⟩
/-- one comparator at work -/
def cmpDo (l : List Int) (c : Int × Int) : List Int :=
  if (l[c.2.toNat]?.getD 0) < (l[c.1.toNat]?.getD 0) then (l.set c.1.toNat (l[c.2.toNat]?.getD 0)).set c.2.toNat (l[c.1.toNat]?.getD 0) else l
def netRun (cs : List (Int × Int)) (l : List Int) : List Int := cs.foldl cmpDo l
@[simp] theorem cmpDo_len (l : List Int) (c : Int × Int) : (cmpDo l c).length = l.length := by unfold cmpDo; split <;> simp
theorem netRun_len (cs : List (Int × Int)) : ∀ l : List Int, (netRun cs l).length = l.length := by
  unfold netRun
  induction cs with
  | nil => intro l; rfl
  | cons c cs ih => intro l; rw [List.foldl_cons, ih, cmpDo_len]
theorem netRun_take (cs : List (Int × Int)) (l : List Int) (k : Nat) (hk : k < cs.length) : netRun (cs.take (k + 1)) l = cmpDo (netRun (cs.take k) l) cs[k] := by
  rw [netRun, netRun, List.take_succ_eq_append_getElem hk, List.foldl_append]; rfl
end Go.Proofs.Ytinigocjeefjgaa
