/- The law on networks' texts holds for every code: FormatNetwork and ParseNetwork are inverse: the row, and the card tied to the program's text. No condition beyond the card's own. -/
import Derived.Test.YtfpojoabfdiadaaDoorDoorRowS
import Derived.Test.YtfpojoabfdiadaaDoorRowY
import Derived.Test.YtfpojoabfdiadaaDoorNtxL
import Derived.Test.YtfpojoabfdiadaaDoorTie
import Derived.Test.YtfpojoabfdiadaaDoorCards
namespace Go.Proofs.YtfpojoabfdiadaaDoor
open Go.ChangeShapes Go.WideShapes Go.ChangeAt Go.RowKit Go.Joins
set_option linter.unusedVariables false
set_option maxRecDepth 100000
theorem FnNetworkText_walks : WalksX Tryd.prog (fun W => laidMetH Tryd.prog Rows.fnNetworkTextRow.laid W ∧ W.ShapedOpen Tryd.prog) 5 #[38] := by
  intro H enc W base args ds p hX hval hA
  obtain ⟨v0, vs0, d0, ds0, p0, q0, hargs, rfl, rfl, h0, r0⟩ := trodAll_cons hA
  obtain ⟨rfl, rfl, rfl⟩ := trodAll_nil r0
  obtain rfl : args = #[v0] := by cases args; simp_all
  obtain ⟨A0, z0, c0, rfl, m0, R0, w0⟩ := open_byteS Tryd.underlying38 Tryd.underlying5 (by kernel_rfl) (hval 0 38 v0 rfl rfl) h0
  exact FnNetworkText_any _ _ _ _ R0 m0 w0 (door_of_laid hX.1 hX.2)
theorem FnNetworkText_lifted (os : Os) (started : os.Started) (H : Type) (enc : TypeId × Value → H) :
    ReturnsInHanded {} Tryd.checked os 5 .any (fun w args => (Rows.fnNetworkTextSpec.pre enc Tryd.prog Tryd.f5 Rows.fnNetworkTextRow.domain false w args ∧ laidMetH Tryd.prog Rows.fnNetworkTextRow.laid w) ∧ sizedMet enc Tryd.prog Tryd.f5 (OpenSpec.ofChange Rows.fnNetworkTextSpec) false w args)
      (Rows.fnNetworkTextSpec.post enc Tryd.prog Tryd.f5 false true false false) :=
  law_lifted_shaped (C := Tryd.checked) (X := fun w => laidMetH Tryd.prog Rows.fnNetworkTextRow.laid w) (fun _ _ hh h => h.of_heap hh) own started (by kernel_rfl) Tryd.func5
    (ChangeSpec.witness_shaped (enc := enc) (C := Tryd.checked) (os := os) (X := fun w _ => laidMetH Tryd.prog Rows.fnNetworkTextRow.laid w) false (World.laidAll Tryd.prog os Rows.fnNetworkTextRow.laid) #[.slice none 0 0] 8 (World.laidAll_os _ _ _)
      (World.shaped_of_ZipB (by kernel_rfl) (by kernel_rfl)) (by kernel_rfl) (by kernel_rfl) (by kernel_rfl)
      (by rw [MakeChecks.laidMetH_plain _ _ _ (by kernel_rfl)]; exact laidMet_laidAll _ (by kernel_rfl) (by kernel_rfl)))
    Tryd.params5 rfl (fun ds h => by match ds, h with | [_], _ => rfl) (by kernel_rfl) Tryd.underlying4 laidOut (by kernel_rfl) FnNetworkText_walks
theorem FnNetworkText_row : Rows.FnNetworkTextSaid :=
  OpenClaim.holds_of_wide 5 Tryd.f5 rfl rfl rfl rfl rfl rfl rfl ⟨rfl, rfl, rfl, rfl, rfl⟩ rfl rfl rfl rfl rfl (by kernel_rfl) Tryd.func5 (by kernel_rfl)
    (of_decide_eq_true (by kernel_rfl)) (by unfold Func.isWrapper; first | (rw [if_pos (by decide +kernel)]; kernel_rfl) | (rw [if_neg (by decide +kernel)]; exact ⟨rfl, rfl⟩))
    (fun os started H enc _ => FnNetworkText_lifted os started H enc)
/-- the tied card -/
theorem FnNetworkText_holds : Rows.FnNetworkTextCardSaid :=
  Claim7.holds_tied_plain_at .later [] [.data, .data, .data, .data, .sentinel, .sentinel, .pinned] true (true, "c706ebc5deb4d0ce0ef118e259525ca38f1a654a644f2f08385a7ddc78b144fb") true FnNetworkText_row (fun _ h => by cases h) (by kernel_rfl) (fun _ h => by cases h) fnNetworkText_row_tie rfl ⟨rfl, rfl⟩ (by kernel_rfl) rfl
    (fun f fn hf hfn => by
      obtain rfl : f = 5 := Option.some.inj ((show Tryd.prog.funcNamed "loop.example/g00907/laws.FnNetworkText" = some 5 by kernel_rfl).symm.trans hf) |>.symm
      obtain rfl : fn = Tryd.f5 := (Option.some.inj (Tryd.func5.symm.trans hfn)).symm
      exact ⟨by kernel_rfl, fun j t ht => by
        rw [Tryd.params5] at ht
        have hm : t ∈ [38] := by simpa using Array.mem_of_getElem? ht
        have hall : ([38].all fun u => !Tryd.prog.wantsStandIn u) = true := by kernel_rfl
        exact (show Tryd.prog.wantsStandIn t = false by simpa using List.all_eq_true.1 hall t hm)⟩)
    (by kernel_rfl)
#print axioms FnNetworkText_holds
end Go.Proofs.YtfpojoabfdiadaaDoor
