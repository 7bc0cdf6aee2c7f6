/- The law on ReplaceWinner holds for every input: the program's function returns what the reference's returns, in memory of its own, and leaves its argument alone. No condition. -/
import Derived.Test.YtpcoiklbhhngpaaRow
import Derived.Test.YtpcoiklbhhngpaaRowTree
import Derived.Test.YtpcoiklbhhngpaaRTreeLaws
namespace Go.Proofs.Ytpcoiklbhhngpaa
open Go.ChangeShapes Go.WideShapes Go.ChangeAt Go.RowKit Go.Joins
set_option linter.unusedVariables false
set_option maxRecDepth 100000
set_option maxRecDepth 100000 in
/-- FnExactReplaceWinner: the walk over whatever arguments -/
theorem FnExactReplaceWinner_walks : Walks Try.prog 5 #[34, 3, 4] := by
  intro H enc W base args ds p hval hA
  obtain ⟨v0, vs0, d0, ds0, p0, q0, hargs, rfl, rfl, h0, r0⟩ := trodAll_cons hA
  obtain ⟨v1, vs1, d1, ds1, p1, q1, rfl, rfl, rfl, h1, r1⟩ := trodAll_cons r0
  obtain ⟨v2, vs2, d2, ds2, p2, q2, rfl, rfl, rfl, h2, r2⟩ := trodAll_cons r1
  obtain ⟨rfl, rfl, rfl⟩ := trodAll_nil r2
  obtain rfl : args = #[v0, v1, v2] := by cases args; simp_all
  obtain ⟨K0, k0, ck0, D0, dd0, cd0, L0, ll0, cl0, n0, rfl, m0, R0⟩ := open_tree (hval 0 34 v0 rfl rfl) h0
  obtain ⟨a1, rfl, _, _, u1⟩ := open_int Try.underlying3 (hval 1 3 v1 rfl rfl) h1
  have w1 := wf_i64_range u1
  obtain ⟨a2, rfl, _, _⟩ := open_bool Try.underlying4 (hval 2 4 v2 rfl rfl) h2
  exact FnExactReplaceWinner_any _ _ _ _ _ _ _ _ _ _ _ _ _ R0 m0
set_option maxRecDepth 100000 in
theorem FnExactReplaceWinner_lifted (os : Os) (started : os.Started) (H : Type) (enc : TypeId × Value → H) :
    ReturnsInHanded {} Try.checked os 5 .any (Rows.fnExactReplaceWinnerSpec.pre6 enc Try.prog Try.f5 Rows.fnExactReplaceWinnerRow.domain false) (Rows.fnExactReplaceWinnerSpec.post enc Try.prog Try.f5 false true false false) :=
  law_lifted (C := Try.checked) own started (by kernel_rfl) Try.func5
    (ChangeSpec.witness6 (enc := enc) (C := Try.checked) false ⟨#[], #[.agg #[.slice none 0 0, .slice none 0 0, .slice none 0 0, .int .i64 0], .int .i64 0, .bool false], []⟩ 8 (by kernel_rfl) (by kernel_rfl) (by kernel_rfl) (by kernel_rfl))
    Try.params5 rfl (fun ds h => by match ds, h with | [_, _, _], _ => rfl) (by kernel_rfl) Try.underlying4 laidOut (by kernel_rfl) FnExactReplaceWinner_walks
/-- the statement -/
theorem FnExactReplaceWinner_holds : Rows.FnExactReplaceWinnerSaid :=
  OpenClaim.holds_of_wide 5 Try.f5 rfl rfl rfl rfl rfl rfl rfl ⟨rfl, rfl, rfl, rfl, rfl⟩ rfl rfl rfl rfl rfl (by as_aux_lemma => kernel_rfl) Try.func5
    (joined_of (by as_aux_lemma => kernel_rfl) laidOut factMaps (by as_aux_lemma => kernel_rfl) (by as_aux_lemma => kernel_rfl) rfl factStops rfl factKnobs (by as_aux_lemma => kernel_rfl) (by as_aux_lemma => kernel_rfl) (by as_aux_lemma => kernel_rfl) (by as_aux_lemma => kernel_rfl) (by as_aux_lemma => kernel_rfl) (by as_aux_lemma => kernel_rfl) (by as_aux_lemma => kernel_rfl) (by as_aux_lemma => kernel_rfl) (by as_aux_lemma => kernel_rfl) (by as_aux_lemma => kernel_rfl) (by as_aux_lemma => kernel_rfl) (by as_aux_lemma => kernel_rfl) (by as_aux_lemma => kernel_rfl) (by as_aux_lemma => kernel_rfl) rfl factHeard factEnter factLifts factMake rfl (by as_aux_lemma => kernel_rfl) (by as_aux_lemma => kernel_rfl) (by as_aux_lemma => kernel_rfl))
    (of_decide_eq_true (by as_aux_lemma => kernel_rfl)) (by unfold Func.isWrapper; first | (rw [if_pos (by decide +kernel)]; kernel_rfl) | (rw [if_neg (by decide +kernel)]; exact ⟨rfl, rfl⟩))
    (fun os started H enc _ => FnExactReplaceWinner_lifted os started H enc)
#print axioms FnExactReplaceWinner_holds

end Go.Proofs.Ytpcoiklbhhngpaa
