/- IsValidTree, the reference's side. -/
import Derived.Test.YtifjihpnhmemgaaTreeV
import Derived.Test.YtifjihpnhmemgaaTreeS
namespace Go.Proofs.Ytifjihpnhmemgaa
open Go.RowKit
set_option linter.unusedVariables false
end Go.Proofs.Ytifjihpnhmemgaa
