/- Contracts of the helpers on networks. -/
import Derived.Test.YtmeaipickolhfaaCmp
namespace Go.Proofs.Ytmeaipickolhfaa
open Go.RowKit
set_option linter.unusedVariables false

end Go.Proofs.Ytmeaipickolhfaa
