/- The law on KWayMerge holds for every input: the program's function returns what the reference's returns, in memory of its own, and leaves its arguments alone. No condition. -/
import Derived.Test.YtifjihpnhmemgaaRowQQ
import Derived.Test.YtifjihpnhmemgaaKwLaws
namespace Go.Proofs.Ytifjihpnhmemgaa
open Go.ChangeShapes Go.WideShapes Go.ChangeAt Go.RowKit Go.Joins
set_option linter.unusedVariables false
set_option maxRecDepth 100000
set_option maxRecDepth 100000 in
/-- FnExactKWayMerge: the walk over whatever arguments -/
theorem FnExactKWayMerge_walks : Walks Try.prog 3 #[22] := by
  intro H enc W base args ds p hval hA
  obtain ⟨v0, vs0, d0, ds0, p0, q0, hargs, rfl, rfl, h0, r0⟩ := trodAll_cons hA
  obtain ⟨rfl, rfl, rfl⟩ := trodAll_nil r0
  obtain rfl : args = #[v0] := by cases args; simp_all
  obtain ⟨A0, z0, c0, rfl, m0, n0, R0⟩ := open_recSS (hval 0 22 v0 rfl rfl) h0
  exact FnExactKWayMerge_any _ _ _ _ R0 m0 n0
set_option maxRecDepth 100000 in
theorem FnExactKWayMerge_lifted (os : Os) (started : os.Started) (H : Type) (enc : TypeId × Value → H) :
    ReturnsInHanded {} Try.checked os 3 .any (Rows.fnExactKWayMergeSpec.pre6 enc Try.prog Try.f3 Rows.fnExactKWayMergeRow.domain false) (Rows.fnExactKWayMergeSpec.post enc Try.prog Try.f3 false true false false) :=
  law_lifted (C := Try.checked) own started (by kernel_rfl) Try.func3
    (ChangeSpec.witness6 (enc := enc) (C := Try.checked) false ⟨#[], #[.slice none 0 0], []⟩ 8 (by kernel_rfl) (by kernel_rfl) (by kernel_rfl) (by kernel_rfl))
    Try.params3 rfl (fun ds h => by match ds, h with | [_], _ => rfl) (by kernel_rfl) Try.underlying4 laidOut (by kernel_rfl) FnExactKWayMerge_walks
/-- the statement -/
theorem FnExactKWayMerge_holds : Rows.FnExactKWayMergeSaid :=
  OpenClaim.holds_of_wide 3 Try.f3 rfl rfl rfl rfl rfl rfl rfl ⟨rfl, rfl, rfl, rfl, rfl⟩ rfl rfl rfl rfl rfl (by as_aux_lemma => kernel_rfl) Try.func3
    (joined_of (by as_aux_lemma => kernel_rfl) laidOut factMaps (by as_aux_lemma => kernel_rfl) (by as_aux_lemma => kernel_rfl) rfl factStops rfl factKnobs (by as_aux_lemma => kernel_rfl) (by as_aux_lemma => kernel_rfl) (by as_aux_lemma => kernel_rfl) (by as_aux_lemma => kernel_rfl) (by as_aux_lemma => kernel_rfl) (by as_aux_lemma => kernel_rfl) (by as_aux_lemma => kernel_rfl) (by as_aux_lemma => kernel_rfl) (by as_aux_lemma => kernel_rfl) (by as_aux_lemma => kernel_rfl) (by as_aux_lemma => kernel_rfl) (by as_aux_lemma => kernel_rfl) (by as_aux_lemma => kernel_rfl) (by as_aux_lemma => kernel_rfl) rfl factHeard factEnter factLifts factMake rfl (by as_aux_lemma => kernel_rfl) (by as_aux_lemma => kernel_rfl) (by as_aux_lemma => kernel_rfl))
    (of_decide_eq_true (by as_aux_lemma => kernel_rfl)) (by unfold Func.isWrapper; first | (rw [if_pos (by decide +kernel)]; kernel_rfl) | (rw [if_neg (by decide +kernel)]; exact ⟨rfl, rfl⟩))
    (fun os started H enc _ => FnExactKWayMerge_lifted os started H enc)
#print axioms FnExactKWayMerge_holds

end Go.Proofs.Ytifjihpnhmemgaa
