/- Closed facts on the loaded program as a whole, each reckoned once for all rows of the seat. -/
import Derived.Test.YtifjihpnhmemgaaRows
import Derived.ProofKit
namespace Go.Proofs.Ytifjihpnhmemgaa
theorem own : ownKnob Try.prog.godebug = none := by kernel_rfl
theorem laidOut : laidOutB Try.prog = true := by kernel_rfl
theorem factMaps : mapsRowed Try.prog = true := by kernel_rfl
theorem factStops : (Try.prog.stops == []) = true := by kernel_rfl
theorem factKnobs : (Try.prog.stopKnobs == []) = true := by kernel_rfl
theorem factKeys : Try.prog.plainKeys = true := by kernel_rfl
theorem factHeard : Try.prog.stopsHeard = true := by kernel_rfl
theorem factHead : (Try.prog.mayEnter && (false == Try.prog.liftsFinal) && (Try.prog.make == some .cut)) = true := by kernel_rfl
theorem factEnter : Try.prog.mayEnter = true := by
  have h := factHead
  simp only [Bool.and_eq_true] at h
  exact h.1.1
theorem factLifts : (false == Try.prog.liftsFinal) = true := by
  have h := factHead
  simp only [Bool.and_eq_true] at h
  exact h.1.2
theorem factMake : (Try.prog.make == some .cut) = true := by
  have h := factHead
  simp only [Bool.and_eq_true] at h
  exact h.2
end Go.Proofs.Ytifjihpnhmemgaa
