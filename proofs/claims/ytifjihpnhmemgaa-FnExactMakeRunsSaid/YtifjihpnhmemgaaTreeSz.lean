/- A tree's rows counted. -/
import Derived.Test.YtifjihpnhmemgaaTreeEq
import Derived.Test.YtifjihpnhmemgaaArgRR
namespace Go.Proofs.Ytifjihpnhmemgaa
open Go.RowKit
set_option linter.unusedVariables false
end Go.Proofs.Ytifjihpnhmemgaa
