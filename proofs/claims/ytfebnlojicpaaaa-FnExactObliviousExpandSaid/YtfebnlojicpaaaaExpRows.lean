/- The law on oblivious expansion holds for every input: the program's function returns what the reference's returns, in memory of its own, and leaves its arguments alone. No condition. -/
import Derived.Test.YtfebnlojicpaaaaRow
import Derived.Test.YtfebnlojicpaaaaExpLaws
namespace Go.Proofs.Ytfebnlojicpaaaa
open Go.ChangeShapes Go.WideShapes Go.ChangeAt Go.RowKit Go.Joins
set_option linter.unusedVariables false
set_option maxRecDepth 100000
set_option maxRecDepth 100000 in
/-- FnExactObliviousExpand: the walk over whatever arguments -/
theorem FnExactObliviousExpand_walks : Walks Try.prog 9 #[42, 42, 3] := by
  intro H enc W base args ds p hval hA
  obtain ⟨v0, vs0, d0, ds0, p0, q0, hargs, rfl, rfl, h0, r0⟩ := trodAll_cons hA
  obtain ⟨v1, vs1, d1, ds1, p1, q1, rfl, rfl, rfl, h1, r1⟩ := trodAll_cons r0
  obtain ⟨v2, vs2, d2, ds2, p2, q2, rfl, rfl, rfl, h2, r2⟩ := trodAll_cons r1
  obtain ⟨rfl, rfl, rfl⟩ := trodAll_nil r2
  obtain rfl : args = #[v0, v1, v2] := by cases args; simp_all
  obtain ⟨A0, z0, c0, rfl, m0, R0, w0⟩ := open_intS Try.underlying42 Try.underlying3 (by kernel_rfl) (hval 0 42 v0 rfl rfl) h0
  obtain ⟨A1, z1, c1, rfl, m1, R1, w1⟩ := open_intS Try.underlying42 Try.underlying3 (by kernel_rfl) (hval 1 42 v1 rfl rfl) h1
  obtain ⟨a2, rfl, _, _, u2⟩ := open_int Try.underlying3 (hval 2 3 v2 rfl rfl) h2
  have w2 := wf_i64_range u2
  exact FnExactObliviousExpand_any _ _ _ _ _ _ _ _ R0 m0 R1 m1 w2
set_option maxRecDepth 100000 in
theorem FnExactObliviousExpand_lifted (os : Os) (started : os.Started) (H : Type) (enc : TypeId × Value → H) :
    ReturnsInHanded {} Try.checked os 9 .any (Rows.fnExactObliviousExpandSpec.pre6 enc Try.prog Try.f9 Rows.fnExactObliviousExpandRow.domain false) (Rows.fnExactObliviousExpandSpec.post enc Try.prog Try.f9 false true false false) :=
  law_lifted (C := Try.checked) own started (by kernel_rfl) Try.func9
    (ChangeSpec.witness6 (enc := enc) (C := Try.checked) false ⟨#[], #[.slice none 0 0, .slice none 0 0, .int .i64 0], []⟩ 8 (by kernel_rfl) (by kernel_rfl) (by kernel_rfl) (by kernel_rfl))
    Try.params9 rfl (fun ds h => by match ds, h with | [_, _, _], _ => rfl) (by kernel_rfl) Try.underlying4 laidOut (by kernel_rfl) FnExactObliviousExpand_walks
/-- the statement -/
theorem FnExactObliviousExpand_holds : Rows.FnExactObliviousExpandSaid :=
  OpenClaim.holds_of_wide 9 Try.f9 rfl rfl rfl rfl rfl rfl rfl ⟨rfl, rfl, rfl, rfl, rfl⟩ rfl rfl rfl rfl rfl (by as_aux_lemma => kernel_rfl) Try.func9
    (joined_of (by as_aux_lemma => kernel_rfl) laidOut factMaps (by as_aux_lemma => kernel_rfl) (by as_aux_lemma => kernel_rfl) rfl factStops rfl factKnobs (by as_aux_lemma => kernel_rfl) (by as_aux_lemma => kernel_rfl) (by as_aux_lemma => kernel_rfl) (by as_aux_lemma => kernel_rfl) (by as_aux_lemma => kernel_rfl) (by as_aux_lemma => kernel_rfl) (by as_aux_lemma => kernel_rfl) (by as_aux_lemma => kernel_rfl) (by as_aux_lemma => kernel_rfl) (by as_aux_lemma => kernel_rfl) (by as_aux_lemma => kernel_rfl) (by as_aux_lemma => kernel_rfl) (by as_aux_lemma => kernel_rfl) (by as_aux_lemma => kernel_rfl) rfl factHeard factEnter factLifts factMake rfl (by as_aux_lemma => kernel_rfl) (by as_aux_lemma => kernel_rfl) (by as_aux_lemma => kernel_rfl))
    (of_decide_eq_true (by as_aux_lemma => kernel_rfl)) (by unfold Func.isWrapper; first | (rw [if_pos (by decide +kernel)]; kernel_rfl) | (rw [if_neg (by decide +kernel)]; exact ⟨rfl, rfl⟩))
    (fun os started H enc _ => FnExactObliviousExpand_lifted os started H enc)
#print axioms FnExactObliviousExpand_holds

end Go.Proofs.Ytfebnlojicpaaaa
