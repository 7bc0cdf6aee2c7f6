/- The laws BlocksOf, IsValidPlan, BenesSize, PassCount hold for every input: the program's function returns what the reference's returns. No condition. -/
import Derived.Test.YthmgoeafecpgeaaRow
import Derived.Test.YthmgoeafecpgeaaInts
namespace Go.Proofs.Ythmgoeafecpgeaa
open Go.ChangeShapes Go.WideShapes Go.ChangeAt Go.RowKit Go.Joins
set_option linter.unusedVariables false
theorem open_plan {H : Type} {enc : TypeId × Value → H} {W : World} {base : Nat} {v : Value} {d : DataW H} {p : List MemPlace}
    (hv : Value.okWide Try.prog W .any base 26 v) (h : DataW.Trod enc Try.prog W 0 (fun _ => true) true 26 v d p) : ∃ x y k : Int, v = .agg #[.int .i64 x, .int .i64 y, .int .i64 k] ∧ True := by
  obtain ⟨c0, c1, c2, y0, y1, y2, m, rfl, rfl, rfl, h0, h1, h2⟩ := open_agg3 Try.underlying26 (by kernel_rfl) (by kernel_rfl) hv h
  obtain ⟨a, e0, rfl, _⟩ := DataW.trod_int Try.underlying3 h0
  obtain ⟨b, e1, rfl, _⟩ := DataW.trod_int Try.underlying3 h1
  obtain ⟨c, e2, rfl, _⟩ := DataW.trod_int Try.underlying3 h2
  simp at e0 e1 e2
  subst e0 e1 e2
  exact ⟨a, b, c, rfl, trivial⟩
/-- FnExactBlocksOf: the walk over whatever arguments -/
theorem FnExactBlocksOf_walks : Walks Try.prog 3 #[3, 3] := by
  intro H enc W base args ds p hval hA
  obtain ⟨v0, vs0, d0, ds0, p0, q0, hargs, rfl, rfl, h0, r0⟩ := trodAll_cons hA
  obtain ⟨v1, vs1, d1, ds1, p1, q1, rfl, rfl, rfl, h1, r1⟩ := trodAll_cons r0
  obtain ⟨rfl, rfl, rfl⟩ := trodAll_nil r1
  obtain rfl : args = #[v0, v1] := by cases args; simp_all
  obtain ⟨a0, rfl, _, _, u0⟩ := open_int Try.underlying3 (hval 0 3 v0 rfl rfl) h0
  have w0 := wf_i64_range u0
  obtain ⟨a1, rfl, _, _, u1⟩ := open_int Try.underlying3 (hval 1 3 v1 rfl rfl) h1
  have w1 := wf_i64_range u1
  exact FnExactBlocksOf_any _ _ _
set_option maxRecDepth 100000 in
theorem FnExactBlocksOf_lifted (os : Os) (started : os.Started) (H : Type) (enc : TypeId × Value → H) :
    ReturnsInHanded {} Try.checked os 3 .any (Rows.fnExactBlocksOfSpec.pre6 enc Try.prog Try.f3 Rows.fnExactBlocksOfRow.domain false) (Rows.fnExactBlocksOfSpec.post enc Try.prog Try.f3 false true false false) :=
  law_lifted (C := Try.checked) own started (by kernel_rfl) Try.func3
    (ChangeSpec.witness6 (enc := enc) (C := Try.checked) false ⟨#[], #[.int .i64 0, .int .i64 0], []⟩ 8 (by kernel_rfl) (by kernel_rfl) (by kernel_rfl) (by kernel_rfl))
    Try.params3 rfl (fun ds h => by match ds, h with | [_, _], _ => rfl) (by kernel_rfl) Try.underlying4 laidOut (by kernel_rfl) FnExactBlocksOf_walks
/-- the statement -/
theorem FnExactBlocksOf_holds : Rows.FnExactBlocksOfSaid :=
  OpenClaim.holds_of_wide 3 Try.f3 rfl rfl rfl rfl rfl rfl rfl ⟨rfl, rfl, rfl, rfl, rfl⟩ rfl rfl rfl rfl rfl (by kernel_rfl) Try.func3 (by kernel_rfl)
    (of_decide_eq_true (by kernel_rfl)) (by unfold Func.isWrapper; first | (rw [if_pos (by decide +kernel)]; kernel_rfl) | (rw [if_neg (by decide +kernel)]; exact ⟨rfl, rfl⟩))
    (fun os started H enc _ => FnExactBlocksOf_lifted os started H enc)
#print axioms FnExactBlocksOf_holds

/-- FnExactIsValidPlan: the walk over whatever arguments -/
theorem FnExactIsValidPlan_walks : Walks Try.prog 4 #[26] := by
  intro H enc W base args ds p hval hA
  obtain ⟨v0, vs0, d0, ds0, p0, q0, hargs, rfl, rfl, h0, r0⟩ := trodAll_cons hA
  obtain ⟨rfl, rfl, rfl⟩ := trodAll_nil r0
  obtain rfl : args = #[v0] := by cases args; simp_all
  obtain ⟨x0, y0, k0, rfl, _⟩ := open_plan (hval 0 26 v0 rfl rfl) h0
  exact FnExactIsValidPlan_any _ _ _ _
set_option maxRecDepth 100000 in
theorem FnExactIsValidPlan_lifted (os : Os) (started : os.Started) (H : Type) (enc : TypeId × Value → H) :
    ReturnsInHanded {} Try.checked os 4 .any (Rows.fnExactIsValidPlanSpec.pre6 enc Try.prog Try.f4 Rows.fnExactIsValidPlanRow.domain false) (Rows.fnExactIsValidPlanSpec.post enc Try.prog Try.f4 false true false false) :=
  law_lifted (C := Try.checked) own started (by kernel_rfl) Try.func4
    (ChangeSpec.witness6 (enc := enc) (C := Try.checked) false ⟨#[], #[.agg #[.int .i64 0, .int .i64 0, .int .i64 0]], []⟩ 8 (by kernel_rfl) (by kernel_rfl) (by kernel_rfl) (by kernel_rfl))
    Try.params4 rfl (fun ds h => by match ds, h with | [_], _ => rfl) (by kernel_rfl) Try.underlying4 laidOut (by kernel_rfl) FnExactIsValidPlan_walks
/-- the statement -/
theorem FnExactIsValidPlan_holds : Rows.FnExactIsValidPlanSaid :=
  OpenClaim.holds_of_wide 4 Try.f4 rfl rfl rfl rfl rfl rfl rfl ⟨rfl, rfl, rfl, rfl, rfl⟩ rfl rfl rfl rfl rfl (by kernel_rfl) Try.func4 (by kernel_rfl)
    (of_decide_eq_true (by kernel_rfl)) (by unfold Func.isWrapper; first | (rw [if_pos (by decide +kernel)]; kernel_rfl) | (rw [if_neg (by decide +kernel)]; exact ⟨rfl, rfl⟩))
    (fun os started H enc _ => FnExactIsValidPlan_lifted os started H enc)
#print axioms FnExactIsValidPlan_holds

/-- FnExactBenesSize: the walk over whatever arguments -/
theorem FnExactBenesSize_walks : Walks Try.prog 5 #[3] := by
  intro H enc W base args ds p hval hA
  obtain ⟨v0, vs0, d0, ds0, p0, q0, hargs, rfl, rfl, h0, r0⟩ := trodAll_cons hA
  obtain ⟨rfl, rfl, rfl⟩ := trodAll_nil r0
  obtain rfl : args = #[v0] := by cases args; simp_all
  obtain ⟨a0, rfl, _, _, u0⟩ := open_int Try.underlying3 (hval 0 3 v0 rfl rfl) h0
  have w0 := wf_i64_range u0
  exact FnExactBenesSize_any _ _ w0.1 w0.2
set_option maxRecDepth 100000 in
theorem FnExactBenesSize_lifted (os : Os) (started : os.Started) (H : Type) (enc : TypeId × Value → H) :
    ReturnsInHanded {} Try.checked os 5 .any (Rows.fnExactBenesSizeSpec.pre6 enc Try.prog Try.f5 Rows.fnExactBenesSizeRow.domain false) (Rows.fnExactBenesSizeSpec.post enc Try.prog Try.f5 false true false false) :=
  law_lifted (C := Try.checked) own started (by kernel_rfl) Try.func5
    (ChangeSpec.witness6 (enc := enc) (C := Try.checked) false ⟨#[], #[.int .i64 0], []⟩ 8 (by kernel_rfl) (by kernel_rfl) (by kernel_rfl) (by kernel_rfl))
    Try.params5 rfl (fun ds h => by match ds, h with | [_], _ => rfl) (by kernel_rfl) Try.underlying4 laidOut (by kernel_rfl) FnExactBenesSize_walks
/-- the statement -/
theorem FnExactBenesSize_holds : Rows.FnExactBenesSizeSaid :=
  OpenClaim.holds_of_wide 5 Try.f5 rfl rfl rfl rfl rfl rfl rfl ⟨rfl, rfl, rfl, rfl, rfl⟩ rfl rfl rfl rfl rfl (by kernel_rfl) Try.func5 (by kernel_rfl)
    (of_decide_eq_true (by kernel_rfl)) (by unfold Func.isWrapper; first | (rw [if_pos (by decide +kernel)]; kernel_rfl) | (rw [if_neg (by decide +kernel)]; exact ⟨rfl, rfl⟩))
    (fun os started H enc _ => FnExactBenesSize_lifted os started H enc)
#print axioms FnExactBenesSize_holds

/-- FnExactPassCount: the walk over whatever arguments -/
theorem FnExactPassCount_walks : Walks Try.prog 6 #[3, 3] := by
  intro H enc W base args ds p hval hA
  obtain ⟨v0, vs0, d0, ds0, p0, q0, hargs, rfl, rfl, h0, r0⟩ := trodAll_cons hA
  obtain ⟨v1, vs1, d1, ds1, p1, q1, rfl, rfl, rfl, h1, r1⟩ := trodAll_cons r0
  obtain ⟨rfl, rfl, rfl⟩ := trodAll_nil r1
  obtain rfl : args = #[v0, v1] := by cases args; simp_all
  obtain ⟨a0, rfl, _, _, u0⟩ := open_int Try.underlying3 (hval 0 3 v0 rfl rfl) h0
  have w0 := wf_i64_range u0
  obtain ⟨a1, rfl, _, _, u1⟩ := open_int Try.underlying3 (hval 1 3 v1 rfl rfl) h1
  have w1 := wf_i64_range u1
  exact FnExactPassCount_any _ _ _
set_option maxRecDepth 100000 in
theorem FnExactPassCount_lifted (os : Os) (started : os.Started) (H : Type) (enc : TypeId × Value → H) :
    ReturnsInHanded {} Try.checked os 6 .any (Rows.fnExactPassCountSpec.pre6 enc Try.prog Try.f6 Rows.fnExactPassCountRow.domain false) (Rows.fnExactPassCountSpec.post enc Try.prog Try.f6 false true false false) :=
  law_lifted (C := Try.checked) own started (by kernel_rfl) Try.func6
    (ChangeSpec.witness6 (enc := enc) (C := Try.checked) false ⟨#[], #[.int .i64 0, .int .i64 0], []⟩ 8 (by kernel_rfl) (by kernel_rfl) (by kernel_rfl) (by kernel_rfl))
    Try.params6 rfl (fun ds h => by match ds, h with | [_, _], _ => rfl) (by kernel_rfl) Try.underlying4 laidOut (by kernel_rfl) FnExactPassCount_walks
/-- the statement -/
theorem FnExactPassCount_holds : Rows.FnExactPassCountSaid :=
  OpenClaim.holds_of_wide 6 Try.f6 rfl rfl rfl rfl rfl rfl rfl ⟨rfl, rfl, rfl, rfl, rfl⟩ rfl rfl rfl rfl rfl (by kernel_rfl) Try.func6 (by kernel_rfl)
    (of_decide_eq_true (by kernel_rfl)) (by unfold Func.isWrapper; first | (rw [if_pos (by decide +kernel)]; kernel_rfl) | (rw [if_neg (by decide +kernel)]; exact ⟨rfl, rfl⟩))
    (fun os started H enc _ => FnExactPassCount_lifted os started H enc)
#print axioms FnExactPassCount_holds

end Go.Proofs.Ythmgoeafecpgeaa
