/- The law on MakeRuns holds for every input: the program's function returns what the reference's returns, in memory of its own, and leaves its arguments alone. No condition. -/
import Derived.Test.YtifjihpnhmemgaaRowQQ
import Derived.Test.YtifjihpnhmemgaaSrLaws
namespace Go.Proofs.Ytifjihpnhmemgaa
open Go.ChangeShapes Go.WideShapes Go.ChangeAt Go.RowKit Go.Joins
set_option linter.unusedVariables false
set_option maxRecDepth 100000
set_option maxRecDepth 100000 in
/-- FnExactMakeRuns: the walk over whatever arguments -/
theorem FnExactMakeRuns_walks : Walks Try.prog 4 #[34, 3] := by
  intro H enc W base args ds p hval hA
  obtain ⟨v0, vs0, d0, ds0, p0, q0, hargs, rfl, rfl, h0, r0⟩ := trodAll_cons hA
  obtain ⟨v1, vs1, d1, ds1, p1, q1, rfl, rfl, rfl, h1, r1⟩ := trodAll_cons r0
  obtain ⟨rfl, rfl, rfl⟩ := trodAll_nil r1
  obtain rfl : args = #[v0, v1] := by cases args; simp_all
  obtain ⟨A0, z0, c0, rfl, m0, R0⟩ := open_recS (hval 0 34 v0 rfl rfl) h0
  obtain ⟨a1, rfl, _, _, u1⟩ := open_int Try.underlying3 (hval 1 3 v1 rfl rfl) h1
  have w1 := wf_i64_range u1
  exact FnExactMakeRuns_any _ _ _ _ _ R0 m0
set_option maxRecDepth 100000 in
theorem FnExactMakeRuns_lifted (os : Os) (started : os.Started) (H : Type) (enc : TypeId × Value → H) :
    ReturnsInHanded {} Try.checked os 4 .any (Rows.fnExactMakeRunsSpec.pre6 enc Try.prog Try.f4 Rows.fnExactMakeRunsRow.domain false) (Rows.fnExactMakeRunsSpec.post enc Try.prog Try.f4 false true false false) :=
  law_lifted (C := Try.checked) own started (by kernel_rfl) Try.func4
    (ChangeSpec.witness6 (enc := enc) (C := Try.checked) false ⟨#[], #[.slice none 0 0, .int .i64 0], []⟩ 8 (by kernel_rfl) (by kernel_rfl) (by kernel_rfl) (by kernel_rfl))
    Try.params4 rfl (fun ds h => by match ds, h with | [_, _], _ => rfl) (by kernel_rfl) Try.underlying4 laidOut (by kernel_rfl) FnExactMakeRuns_walks
/-- the statement -/
theorem FnExactMakeRuns_holds : Rows.FnExactMakeRunsSaid :=
  OpenClaim.holds_of_wide 4 Try.f4 rfl rfl rfl rfl rfl rfl rfl ⟨rfl, rfl, rfl, rfl, rfl⟩ rfl rfl rfl rfl rfl (by as_aux_lemma => kernel_rfl) Try.func4
    (joined_of (by as_aux_lemma => kernel_rfl) laidOut factMaps (by as_aux_lemma => kernel_rfl) (by as_aux_lemma => kernel_rfl) rfl factStops rfl factKnobs (by as_aux_lemma => kernel_rfl) (by as_aux_lemma => kernel_rfl) (by as_aux_lemma => kernel_rfl) (by as_aux_lemma => kernel_rfl) (by as_aux_lemma => kernel_rfl) (by as_aux_lemma => kernel_rfl) (by as_aux_lemma => kernel_rfl) (by as_aux_lemma => kernel_rfl) (by as_aux_lemma => kernel_rfl) (by as_aux_lemma => kernel_rfl) (by as_aux_lemma => kernel_rfl) (by as_aux_lemma => kernel_rfl) (by as_aux_lemma => kernel_rfl) (by as_aux_lemma => kernel_rfl) rfl factHeard factEnter factLifts factMake rfl (by as_aux_lemma => kernel_rfl) (by as_aux_lemma => kernel_rfl) (by as_aux_lemma => kernel_rfl))
    (of_decide_eq_true (by as_aux_lemma => kernel_rfl)) (by unfold Func.isWrapper; first | (rw [if_pos (by decide +kernel)]; kernel_rfl) | (rw [if_neg (by decide +kernel)]; exact ⟨rfl, rfl⟩))
    (fun os started H enc _ => FnExactMakeRuns_lifted os started H enc)
#print axioms FnExactMakeRuns_holds

end Go.Proofs.Ytifjihpnhmemgaa
