/- The functions of Go's library that the model does itself, as this program has them. -/
import Derived.Test.YtaaphnonjpnccaaSxBase
import Derived.Test.YtaaphnonjpnccaaSxExt
set_option maxRecDepth 100000
namespace Go.Proofs.Ytaaphnonjpnccaa
open Go.Sx

noncomputable def extK : CallerT := noK
theorem extK_ok : CallerTOk Try.prog extK := noK_ok
end Go.Proofs.Ytaaphnonjpnccaa
