/- ApplyNetwork: the program's and the reference's function. -/
import Derived.Test.YtkhfilkikpiepaaRun
import Derived.Test.YtkhfilkikpiepaaHold
namespace Go.Proofs.Ytkhfilkikpiepaa
open Go.RowKit
set_option linter.unusedVariables false
end Go.Proofs.Ytkhfilkikpiepaa
