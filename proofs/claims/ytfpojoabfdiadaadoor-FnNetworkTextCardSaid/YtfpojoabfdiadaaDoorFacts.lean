/- Closed facts on the loaded program as a whole, each reckoned once for all rows of the seat. -/
import Derived.Test.YtfpojoabfdiadaaDoorRows
import Derived.ProofKit
namespace Go.Proofs.YtfpojoabfdiadaaDoor
theorem own : ownKnob Tryd.prog.godebug = none := by kernel_rfl
theorem laidOut : laidOutB Tryd.prog = true := by kernel_rfl
theorem factMaps : mapsRowed Tryd.prog = true := by kernel_rfl
theorem factStops : (Tryd.prog.stops == []) = true := by kernel_rfl
theorem factKnobs : (Tryd.prog.stopKnobs == []) = true := by kernel_rfl
theorem factKeys : Tryd.prog.plainKeys = true := by kernel_rfl
theorem factHeard : Tryd.prog.stopsHeard = true := by kernel_rfl
theorem factHead : (Tryd.prog.mayEnter && (false == Tryd.prog.liftsFinal) && (Tryd.prog.make == some .cut)) = true := by kernel_rfl
theorem factEnter : Tryd.prog.mayEnter = true := by
  have h := factHead
  simp only [Bool.and_eq_true] at h
  exact h.1.1
theorem factLifts : (false == Tryd.prog.liftsFinal) = true := by
  have h := factHead
  simp only [Bool.and_eq_true] at h
  exact h.1.2
theorem factMake : (Tryd.prog.make == some .cut) = true := by
  have h := factHead
  simp only [Bool.and_eq_true] at h
  exact h.2
end Go.Proofs.YtfpojoabfdiadaaDoor
