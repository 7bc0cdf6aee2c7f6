/- The law that FormatNetwork returns what the reference's returns holds for every input: the row, and the card tied to the program's text. No condition beyond the card's own. -/
import Derived.Test.YtfpojoabfdiadaaDoorDoorRow
import Derived.Test.YtfpojoabfdiadaaDoorRowNet
import Derived.Test.YtfpojoabfdiadaaDoorTxtL
import Derived.Test.YtfpojoabfdiadaaDoorTie
import Derived.Test.YtfpojoabfdiadaaDoorCards
namespace Go.Proofs.YtfpojoabfdiadaaDoor
open Go.ChangeShapes Go.WideShapes Go.ChangeAt Go.RowKit Go.Joins
set_option linter.unusedVariables false
set_option maxRecDepth 100000
theorem FnExactFormatNetwork_walks (X : World → Prop) : WalksX Tryd.prog X 3 #[24] := by
  intro H enc W base args ds p hX hval hA
  obtain ⟨v0, vs0, d0, ds0, p0, q0, hargs, rfl, rfl, h0, r0⟩ := trodAll_cons hA
  obtain ⟨rfl, rfl, rfl⟩ := trodAll_nil r0
  obtain rfl : args = #[v0] := by cases args; simp_all
  obtain ⟨n0, A0, z0, c0, rfl, u0, m0, R0, w0⟩ := open_net (hval 0 24 v0 rfl rfl) h0
  exact FnExactFormatNetwork_any _ _ _ _ _ R0 m0
theorem FnExactFormatNetwork_lifted (os : Os) (started : os.Started) (H : Type) (enc : TypeId × Value → H) :
    ReturnsInHanded {} Tryd.checked os 3 .any (fun w args => (Rows.fnExactFormatNetworkSpec.pre enc Tryd.prog Tryd.f3 Rows.fnExactFormatNetworkRow.domain false w args ∧ laidMetH Tryd.prog Rows.fnExactFormatNetworkRow.laid w) ∧ sizedMet enc Tryd.prog Tryd.f3 (OpenSpec.ofChange Rows.fnExactFormatNetworkSpec) false w args)
      (Rows.fnExactFormatNetworkSpec.post enc Tryd.prog Tryd.f3 false true false false) :=
  law_lifted_and (C := Tryd.checked) (X := fun w _ => laidMetH Tryd.prog Rows.fnExactFormatNetworkRow.laid w) (fun _ _ _ hh h => h.of_heap hh) own started (by kernel_rfl) Tryd.func3
    (ChangeSpec.witness_shaped (enc := enc) (C := Tryd.checked) (os := os) (X := fun w _ => laidMetH Tryd.prog Rows.fnExactFormatNetworkRow.laid w) false (World.laidAll Tryd.prog os Rows.fnExactFormatNetworkRow.laid) #[.agg #[.int .i64 0, .slice none 0 0]] 8 (World.laidAll_os _ _ _)
      (World.shaped_of_ZipB (by kernel_rfl) (by kernel_rfl)) (by kernel_rfl) (by kernel_rfl) (by kernel_rfl)
      (by rw [MakeChecks.laidMetH_plain _ _ _ (by kernel_rfl)]; exact laidMet_laidAll _ (by kernel_rfl) (by kernel_rfl)))
    Tryd.params3 rfl (fun ds h => by match ds, h with | [_], _ => rfl) (by kernel_rfl) Tryd.underlying4 laidOut (by kernel_rfl) (FnExactFormatNetwork_walks _) (fun _ _ h => h)
theorem FnExactFormatNetwork_row : Rows.FnExactFormatNetworkSaid :=
  OpenClaim.holds_of_wide 3 Tryd.f3 rfl rfl rfl rfl rfl rfl rfl ⟨rfl, rfl, rfl, rfl, rfl⟩ rfl rfl rfl rfl rfl (by kernel_rfl) Tryd.func3 (by kernel_rfl)
    (of_decide_eq_true (by kernel_rfl)) (by unfold Func.isWrapper; first | (rw [if_pos (by decide +kernel)]; kernel_rfl) | (rw [if_neg (by decide +kernel)]; exact ⟨rfl, rfl⟩))
    (fun os started H enc _ => FnExactFormatNetwork_lifted os started H enc)
/-- the tied card -/
theorem FnExactFormatNetwork_holds : Rows.FnExactFormatNetworkCardSaid :=
  Claim7.holds_tied_plain_at .later [] [.data, .data, .data] true (true, "c706ebc5deb4d0ce0ef118e259525ca38f1a654a644f2f08385a7ddc78b144fb") true FnExactFormatNetwork_row (fun _ h => by cases h) (by kernel_rfl) (fun _ h => by cases h) fnExactFormatNetwork_row_tie rfl ⟨rfl, rfl⟩ (by kernel_rfl) rfl
    (fun f fn hf hfn => by
      obtain rfl : f = 3 := Option.some.inj ((show Tryd.prog.funcNamed "loop.example/g00907/laws.FnExactFormatNetwork" = some 3 by kernel_rfl).symm.trans hf) |>.symm
      obtain rfl : fn = Tryd.f3 := (Option.some.inj (Tryd.func3.symm.trans hfn)).symm
      exact ⟨by kernel_rfl, fun j t ht => by
        rw [Tryd.params3] at ht
        have hm : t ∈ [24] := by simpa using Array.mem_of_getElem? ht
        have hall : ([24].all fun u => !Tryd.prog.wantsStandIn u) = true := by kernel_rfl
        exact (show Tryd.prog.wantsStandIn t = false by simpa using List.all_eq_true.1 hall t hm)⟩)
    (by kernel_rfl)
#print axioms FnExactFormatNetwork_holds
end Go.Proofs.YtfpojoabfdiadaaDoor
