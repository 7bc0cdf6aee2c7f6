/- The law on ConcatNetworks holds for every input: the program's function returns what the reference's returns, in memory of its own, and leaves its arguments alone. No condition. -/
import Derived.Test.YtkhfilkikpiepaaRowNet
import Derived.Test.YtkhfilkikpiepaaCatLaws
namespace Go.Proofs.Ytkhfilkikpiepaa
open Go.ChangeShapes Go.WideShapes Go.ChangeAt Go.RowKit Go.Joins
set_option linter.unusedVariables false
set_option maxRecDepth 100000
set_option maxRecDepth 100000 in
/-- FnExactConcatNetworks: the walk over whatever arguments -/
theorem FnExactConcatNetworks_walks : Walks Try.prog 3 #[24, 24] := by
  intro H enc W base args ds p hval hA
  obtain ⟨v0, vs0, d0, ds0, p0, q0, hargs, rfl, rfl, h0, r0⟩ := trodAll_cons hA
  obtain ⟨v1, vs1, d1, ds1, p1, q1, rfl, rfl, rfl, h1, r1⟩ := trodAll_cons r0
  obtain ⟨rfl, rfl, rfl⟩ := trodAll_nil r1
  obtain rfl : args = #[v0, v1] := by cases args; simp_all
  obtain ⟨n0, A0, z0, c0, rfl, u0, m0, R0, w0⟩ := open_net (hval 0 24 v0 rfl rfl) h0
  obtain ⟨n1, A1, z1, c1, rfl, u1, m1, R1, w1⟩ := open_net (hval 1 24 v1 rfl rfl) h1
  exact FnExactConcatNetworks_any _ _ _ _ _ _ _ _ _ R0 m0 R1 m1
set_option maxRecDepth 100000 in
theorem FnExactConcatNetworks_lifted (os : Os) (started : os.Started) (H : Type) (enc : TypeId × Value → H) :
    ReturnsInHanded {} Try.checked os 3 .any (Rows.fnExactConcatNetworksSpec.pre6 enc Try.prog Try.f3 Rows.fnExactConcatNetworksRow.domain false) (Rows.fnExactConcatNetworksSpec.post enc Try.prog Try.f3 false true false false) :=
  law_lifted (C := Try.checked) own started (by kernel_rfl) Try.func3
    (ChangeSpec.witness6 (enc := enc) (C := Try.checked) false ⟨#[], #[.agg #[.int .i64 0, .slice none 0 0], .agg #[.int .i64 0, .slice none 0 0]], []⟩ 8 (by kernel_rfl) (by kernel_rfl) (by kernel_rfl) (by kernel_rfl))
    Try.params3 rfl (fun ds h => by match ds, h with | [_, _], _ => rfl) (by kernel_rfl) Try.underlying4 laidOut (by kernel_rfl) FnExactConcatNetworks_walks
/-- the statement -/
theorem FnExactConcatNetworks_holds : Rows.FnExactConcatNetworksSaid :=
  OpenClaim.holds_of_wide 3 Try.f3 rfl rfl rfl rfl rfl rfl rfl ⟨rfl, rfl, rfl, rfl, rfl⟩ rfl rfl rfl rfl rfl (by as_aux_lemma => kernel_rfl) Try.func3
    (joined_of (by as_aux_lemma => kernel_rfl) laidOut factMaps (by as_aux_lemma => kernel_rfl) (by as_aux_lemma => kernel_rfl) rfl factStops rfl factKnobs (by as_aux_lemma => kernel_rfl) (by as_aux_lemma => kernel_rfl) (by as_aux_lemma => kernel_rfl) (by as_aux_lemma => kernel_rfl) (by as_aux_lemma => kernel_rfl) (by as_aux_lemma => kernel_rfl) (by as_aux_lemma => kernel_rfl) (by as_aux_lemma => kernel_rfl) (by as_aux_lemma => kernel_rfl) (by as_aux_lemma => kernel_rfl) (by as_aux_lemma => kernel_rfl) (by as_aux_lemma => kernel_rfl) (by as_aux_lemma => kernel_rfl) (by as_aux_lemma => kernel_rfl) rfl factHeard factEnter factLifts factMake rfl (by as_aux_lemma => kernel_rfl) (by as_aux_lemma => kernel_rfl) (by as_aux_lemma => kernel_rfl))
    (of_decide_eq_true (by as_aux_lemma => kernel_rfl)) (by unfold Func.isWrapper; first | (rw [if_pos (by decide +kernel)]; kernel_rfl) | (rw [if_neg (by decide +kernel)]; exact ⟨rfl, rfl⟩))
    (fun os started H enc _ => FnExactConcatNetworks_lifted os started H enc)
#print axioms FnExactConcatNetworks_holds

end Go.Proofs.Ytkhfilkikpiepaa
