/- Summaries of functions on numbers and curves, as this program has them. -/
import Derived.Test.YtaaphnonjpnccaaSxK
import Derived.Test.YtaaphnonjpnccaaSxC1
set_option maxRecDepth 100000
namespace Go.Proofs.Ytaaphnonjpnccaa
open Go.Sx Go.Sx.C1


end Go.Proofs.Ytaaphnonjpnccaa
