/- A tree's rows counted. -/
import Derived.Test.YteigceeghnphmaaTreeEq
import Derived.Test.YteigceeghnphmaaArgRR
namespace Go.Proofs.Yteigceeghnphmaa
open Go.RowKit
set_option linter.unusedVariables false
end Go.Proofs.Yteigceeghnphmaa
