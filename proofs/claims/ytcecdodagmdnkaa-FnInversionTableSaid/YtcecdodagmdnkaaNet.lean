/- Contracts of the helpers on networks. -/
import Derived.Test.YtcecdodagmdnkaaCmp
namespace Go.Proofs.Ytcecdodagmdnkaa
open Go.RowKit
set_option linter.unusedVariables false

end Go.Proofs.Ytcecdodagmdnkaa
