/- Contracts of the helpers on networks. -/
import Derived.Test.YtifjihpnhmemgaaCmp
namespace Go.Proofs.Ytifjihpnhmemgaa
open Go.RowKit
set_option linter.unusedVariables false

end Go.Proofs.Ytifjihpnhmemgaa
