/- The law that ParseNetwork returns what the reference's returns holds for every input: the row, and the card tied to the program's text. No condition beyond the card's own. -/
import Derived.Test.YtfpojoabfdiadaaDoorDoorRowS
import Derived.Test.YtfpojoabfdiadaaDoorParL
import Derived.ChangeMaps5
import Derived.Test.YtfpojoabfdiadaaDoorTie
import Derived.Test.YtfpojoabfdiadaaDoorCards
namespace Go.Proofs.YtfpojoabfdiadaaDoor
open Go.ChangeShapes Go.WideShapes Go.ChangeAt Go.RowKit Go.Joins
set_option linter.unusedVariables false
set_option maxRecDepth 100000
theorem FnExactParseNetwork_walks : WalksX Tryd.prog (fun W => laidMetH Tryd.prog Rows.fnExactParseNetworkRow.laid W ∧ W.ShapedOpen Tryd.prog) 4 #[9] := by
  intro H enc W base args ds p hX hval hA
  obtain ⟨v0, vs0, d0, ds0, p0, q0, hargs, rfl, rfl, h0, r0⟩ := trodAll_cons hA
  obtain ⟨rfl, rfl, rfl⟩ := trodAll_nil r0
  obtain rfl : args = #[v0] := by cases args; simp_all
  obtain ⟨s, rfl, _⟩ := ChangeMaps.open_string Tryd.underlying9 (hval 0 9 v0 rfl rfl) h0
  have := FnExactParseNetwork_any s.data.toList W (door_of_laid hX.1 hX.2)
  rw [of_bs] at this
  exact this
theorem FnExactParseNetwork_lifted (os : Os) (started : os.Started) (H : Type) (enc : TypeId × Value → H) :
    ReturnsInHanded {} Tryd.checked os 4 .any (fun w args => (Rows.fnExactParseNetworkSpec.pre enc Tryd.prog Tryd.f4 Rows.fnExactParseNetworkRow.domain false w args ∧ laidMetH Tryd.prog Rows.fnExactParseNetworkRow.laid w) ∧ sizedMet enc Tryd.prog Tryd.f4 (OpenSpec.ofChange Rows.fnExactParseNetworkSpec) false w args)
      (Rows.fnExactParseNetworkSpec.post enc Tryd.prog Tryd.f4 false true false false) :=
  law_lifted_shaped (C := Tryd.checked) (X := fun w => laidMetH Tryd.prog Rows.fnExactParseNetworkRow.laid w) (fun _ _ hh h => h.of_heap hh) own started (by kernel_rfl) Tryd.func4
    (ChangeSpec.witness_shaped (enc := enc) (C := Tryd.checked) (os := os) (X := fun w _ => laidMetH Tryd.prog Rows.fnExactParseNetworkRow.laid w) false (World.laidAll Tryd.prog os Rows.fnExactParseNetworkRow.laid) #[.string ⟨#[]⟩] 8 (World.laidAll_os _ _ _)
      (World.shaped_of_ZipB (by kernel_rfl) (by kernel_rfl)) (by kernel_rfl) (by kernel_rfl) (by kernel_rfl)
      (by rw [MakeChecks.laidMetH_plain _ _ _ (by kernel_rfl)]; exact laidMet_laidAll _ (by kernel_rfl) (by kernel_rfl)))
    Tryd.params4 rfl (fun ds h => by match ds, h with | [_], _ => rfl) (by kernel_rfl) Tryd.underlying4 laidOut (by kernel_rfl) FnExactParseNetwork_walks
theorem FnExactParseNetwork_row : Rows.FnExactParseNetworkSaid :=
  OpenClaim.holds_of_wide 4 Tryd.f4 rfl rfl rfl rfl rfl rfl rfl ⟨rfl, rfl, rfl, rfl, rfl⟩ rfl rfl rfl rfl rfl (by kernel_rfl) Tryd.func4 (by kernel_rfl)
    (of_decide_eq_true (by kernel_rfl)) (by unfold Func.isWrapper; first | (rw [if_pos (by decide +kernel)]; kernel_rfl) | (rw [if_neg (by decide +kernel)]; exact ⟨rfl, rfl⟩))
    (fun os started H enc _ => FnExactParseNetwork_lifted os started H enc)
/-- the tied card -/
theorem FnExactParseNetwork_holds : Rows.FnExactParseNetworkCardSaid :=
  Claim7.holds_tied_plain_at .later [] [.data, .data, .data, .data, .sentinel, .sentinel, .pinned] true (true, "c706ebc5deb4d0ce0ef118e259525ca38f1a654a644f2f08385a7ddc78b144fb") true FnExactParseNetwork_row (fun _ h => by cases h) (by kernel_rfl) (fun _ h => by cases h) fnExactParseNetwork_row_tie rfl ⟨rfl, rfl⟩ (by kernel_rfl) rfl
    (fun f fn hf hfn => by
      obtain rfl : f = 4 := Option.some.inj ((show Tryd.prog.funcNamed "loop.example/g00907/laws.FnExactParseNetwork" = some 4 by kernel_rfl).symm.trans hf) |>.symm
      obtain rfl : fn = Tryd.f4 := (Option.some.inj (Tryd.func4.symm.trans hfn)).symm
      exact ⟨by kernel_rfl, fun j t ht => by
        rw [Tryd.params4] at ht
        have hm : t ∈ [9] := by simpa using Array.mem_of_getElem? ht
        have hall : ([9].all fun u => !Tryd.prog.wantsStandIn u) = true := by kernel_rfl
        exact (show Tryd.prog.wantsStandIn t = false by simpa using List.all_eq_true.1 hall t hm)⟩)
    (by kernel_rfl)
#print axioms FnExactParseNetwork_holds
end Go.Proofs.YtfpojoabfdiadaaDoor
