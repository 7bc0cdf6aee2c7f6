/- Trees that come in, as the walks of the laws use them. -/
import Derived.Test.YtpcoiklbhhngpaaTreeL
import Derived.Test.YtpcoiklbhhngpaaTreeVS
namespace Go.Proofs.Ytpcoiklbhhngpaa
end Go.Proofs.Ytpcoiklbhhngpaa
