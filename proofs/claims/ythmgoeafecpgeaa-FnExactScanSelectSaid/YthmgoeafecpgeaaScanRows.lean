/- The law ScanSelect holds for every input: the program's function returns what the reference's returns and leaves its argument alone. No condition. -/
import Derived.Test.YthmgoeafecpgeaaRow
import Derived.Test.YthmgoeafecpgeaaScan
namespace Go.Proofs.Ythmgoeafecpgeaa
open Go.ChangeShapes Go.WideShapes Go.ChangeAt Go.RowKit Go.Joins
set_option linter.unusedVariables false
/-- FnExactScanSelect: the walk over whatever arguments -/
theorem FnExactScanSelect_walks : Walks Try.prog 7 #[33, 3] := by
  intro H enc W base args ds p hval hA
  obtain ⟨v0, vs0, d0, ds0, p0, q0, hargs, rfl, rfl, h0, r0⟩ := trodAll_cons hA
  obtain ⟨v1, vs1, d1, ds1, p1, q1, rfl, rfl, rfl, h1, r1⟩ := trodAll_cons r0
  obtain ⟨rfl, rfl, rfl⟩ := trodAll_nil r1
  obtain rfl : args = #[v0, v1] := by cases args; simp_all
  obtain ⟨A0, z0, c0, rfl, m0, R0, w0⟩ := open_intS Try.underlying33 Try.underlying3 (by kernel_rfl) (hval 0 33 v0 rfl rfl) h0
  obtain ⟨a1, rfl, _, _, u1⟩ := open_int Try.underlying3 (hval 1 3 v1 rfl rfl) h1
  have w1 := wf_i64_range u1
  exact FnExactScanSelect_any _ _ _ _ _ R0 m0 w1.1 w1.2
set_option maxRecDepth 100000 in
theorem FnExactScanSelect_lifted (os : Os) (started : os.Started) (H : Type) (enc : TypeId × Value → H) :
    ReturnsInHanded {} Try.checked os 7 .any (Rows.fnExactScanSelectSpec.pre6 enc Try.prog Try.f7 Rows.fnExactScanSelectRow.domain false) (Rows.fnExactScanSelectSpec.post enc Try.prog Try.f7 false true false false) :=
  law_lifted (C := Try.checked) own started (by kernel_rfl) Try.func7
    (ChangeSpec.witness6 (enc := enc) (C := Try.checked) false ⟨#[], #[.slice none 0 0, .int .i64 0], []⟩ 8 (by kernel_rfl) (by kernel_rfl) (by kernel_rfl) (by kernel_rfl))
    Try.params7 rfl (fun ds h => by match ds, h with | [_, _], _ => rfl) (by kernel_rfl) Try.underlying4 laidOut (by kernel_rfl) FnExactScanSelect_walks
/-- the statement -/
theorem FnExactScanSelect_holds : Rows.FnExactScanSelectSaid :=
  OpenClaim.holds_of_wide 7 Try.f7 rfl rfl rfl rfl rfl rfl rfl ⟨rfl, rfl, rfl, rfl, rfl⟩ rfl rfl rfl rfl rfl (by kernel_rfl) Try.func7 (by kernel_rfl)
    (of_decide_eq_true (by kernel_rfl)) (by unfold Func.isWrapper; first | (rw [if_pos (by decide +kernel)]; kernel_rfl) | (rw [if_neg (by decide +kernel)]; exact ⟨rfl, rfl⟩))
    (fun os started H enc _ => FnExactScanSelect_lifted os started H enc)
#print axioms FnExactScanSelect_holds

end Go.Proofs.Ythmgoeafecpgeaa
