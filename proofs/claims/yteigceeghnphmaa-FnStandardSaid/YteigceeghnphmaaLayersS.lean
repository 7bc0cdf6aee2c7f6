/- The layers of a network: the reference's, and the law on the depth. -/
import Derived.Test.YteigceeghnphmaaLayers
import Derived.BigQuiet
import Derived.Deep.QuietTactic
namespace Go.Proofs.Yteigceeghnphmaa
open Go.RowKit
set_option linter.unusedVariables false
end Go.Proofs.Yteigceeghnphmaa
