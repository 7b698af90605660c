/- Summaries of functions on numbers and curves, as this program has them. -/
import Derived.Test.YtllonddgbjgmdaaSxK
import Derived.Test.YtllonddgbjgmdaaSxC1
set_option maxRecDepth 100000
namespace Go.Proofs.Ytllonddgbjgmdaa
open Go.Sx Go.Sx.C1


end Go.Proofs.Ytllonddgbjgmdaa
